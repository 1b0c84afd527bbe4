/- FanCursor is proved: a subscription that goes on by its cursor tells the same as one that never stopped, at any three numbers; the package-level tables that the row lists are tied to the text by the card. -/
import Derived.Test.YtbkgnlcjnimpcaaDoorAbV
import Derived.Test.YtbkgnlcjnimpcaaDoorFanCursorA
import Derived.Test.YtbkgnlcjnimpcaaDoorCards
import Derived.Test.YtbkgnlcjnimpcaaDoorTie
import Derived.WalkKit
namespace Go.Proofs.YtbkgnlcjnimpcaaDoor.fanCursor
open Go Go.Ab Go.ChangeShapes Go.WideShapes Go.ChangeAt Go.RowKit

/-! ### Numbers -/
theorem wsmall {n : Nat} (h : n < 1000) : wrapF .i64 (.ofNat n) = .ofNat n := by
  rw [wrapF_eq]
  exact wrap_u (show n < 9223372036854775808 by omega)
theorem wadd (a b : Nat) (h : a + b < 1000) : wrapF .i64 (Int.add (.ofNat a) (.ofNat b)) = .ofNat (a + b) := wsmall h
theorem wsub (a b : Nat) (h : b ≤ a) (h2 : a < 1000) : wrapF .i64 (Int.sub (.ofNat a) (.ofNat b)) = .ofNat (a - b) := by
  have : Int.sub (.ofNat a) (.ofNat b) = .ofNat (a - b) := by
    show ((a : Int) - (b : Int)) = ((a - b : Nat) : Int)
    omega
  rw [this]
  exact wsmall (by omega)
theorem nxt_eq : ∀ (m a : Nat), a + m < 1000 → nxt m (.ofNat a) = .ofNat (a + m) := by
  intro m
  induction m with
  | zero => intro a _; rfl
  | succ m ih =>
    intro a h
    show nxt m (wrapF .i64 (Int.add (.ofNat a) (.ofNat 1))) = _
    rw [wadd a 1 (by omega), ih (a + 1) (by omega)]
    congr 1
    omega
theorem lt_nat (a b : Nat) : intLt (.ofNat a) (.ofNat b) = Nat.blt a b := rfl
theorem eq_nat (a b : Nat) : intEq (.ofNat a) (.ofNat b) = Nat.beq a b := rfl
theorem lt_yes {a b : Nat} (h : a < b) : intLt (.ofNat a) (.ofNat b) = true := by rw [lt_nat, Nat.blt_eq]; exact h
theorem lt_no {a b : Nat} (h : b ≤ a) : intLt (.ofNat a) (.ofNat b) = false := by
  rw [lt_nat, Bool.eq_false_iff]
  intro q
  rw [Nat.blt_eq] at q
  omega
theorem eq_yes (a : Nat) : intEq (.ofNat a) (.ofNat a) = true := Nat.beq_refl a
def xv (st i ta tb : Int) (n k v : Nat) : X := ⟨st, .ofNat n, .ofNat k, .ofNat v, i, .ofNat v, .ofNat v, ta, tb⟩
theorem after_eq (st i ta tb : Int) (n k v m : Nat) (h : v + m < 1000) : after (xv st i ta tb n k v) m = xv st i (wrapF .i64 (Int.add ta (.ofNat m))) (wrapF .i64 (Int.add tb (.ofNat m))) n k (v + m) := by
  unfold after xv
  dsimp only
  rw [wadd v m h, nxt_eq m v h]
theorem askN_ok (st i ta tb : Int) (n k v : Nat) (h1 : 1 ≤ k) (h2 : k ≤ 16) : NotedOk (askN (xv st i ta tb n k v)) := by
  refine NotedOk.cons ?_ (NotedOk.cons ?_ NotedOk.nil)
  · exact congrArg Value.bool (lt_no (b := 1) h1)
  · exact congrArg Value.bool (lt_no (a := 64) (by omega))
theorem eq_of_add (v m : Nat) : Value.bool (intEq (wrapF .i64 (Int.add (.ofNat v) (.ofNat m))) (wrapF .i64 (Int.add (.ofNat v) (.ofNat m)))) = Tr := by
  have : ∀ x : Int, intEq x x = true := fun x => by rw [intEq_eq]; simp
  rw [this]; rfl
theorem takeN_ok (st i ta tb : Int) (n k v m : Nat) (h1 : 1 ≤ k) (h2 : k ≤ 16) (hm : m ≤ k) (hv : v + m ≤ 63) : NotedOk (takeN (xv st i ta tb n k v) m (.ofNat v)) := by
  have b0 : NotedOk [] := NotedOk.nil
  unfold takeN xv
  dsimp only
  refine NotedOk.cons ?_ (NotedOk.cons ?_ (NotedOk.cons ?_ (NotedOk.cons ?_ (NotedOk.cons ?_ (NotedOk.cons ?_ (NotedOk.cons ?_ (NotedOk.cons ?_ (NotedOk.cons ?_ b0))))))))
  · rw [eq_yes, eq_yes]; rfl
  · exact congrArg Value.bool (lt_no (b := 0) (Nat.zero_le _))
  · exact congrArg Value.bool (lt_no (a := 1073741824) (by omega))
  · exact congrArg Value.bool (lt_no (b := 1) h1)
  · exact congrArg Value.bool (lt_no (a := 64) (by omega))
  · rw [lt_no hm]; rfl
  · exact eq_of_add v m
  · exact congrArg Value.bool (lt_no (Nat.le_refl _))
  · rw [wsub v v (Nat.le_refl _) (by omega), Nat.sub_self]
    refine congrArg i64 ?_
    split
    · rename_i h
      have : (m : Int) < 0 := h
      omega
    · rfl
theorem notes_ok (st i ta tb : Int) (n k v m : Nat) (b : Bool) (hb : intEq i (bandF st 7) = b) (h1 : 1 ≤ k) (h2 : k ≤ 16) (hn : n ≤ 63) (hv : v < n) (hm : m = min k (n - v)) : NotedOk (notes (xv st i ta tb n k v) m b) := by
  have hmk : m ≤ k := by omega
  have hmn : v + m ≤ 63 := by omega
  unfold notes
  refine NotedOk.cons ?_ (NotedOk.append (askN_ok _ _ _ _ _ _ _ h1 h2) (NotedOk.append (askN_ok _ _ _ _ _ _ _ h1 h2) (NotedOk.append (takeN_ok _ _ _ _ _ _ _ _ h1 h2 hmk hmn) (NotedOk.append (takeN_ok _ _ _ _ _ _ _ _ h1 h2 hmk hmn) (NotedOk.cons ?_ (NotedOk.cons ?_ (NotedOk.cons ?_ (NotedOk.cons ?_ NotedOk.nil))))))))
  · unfold left xv
    dsimp only
    rw [wsub n v (by omega) (by omega)]
    refine congrArg i64 ?_
    split
    · rename_i h
      have : ((n - v : Nat) : Int) < (k : Int) := h
      show ((n - v : Nat) : Int) = (m : Int)
      omega
    · rename_i h
      have : ¬ ((n - v : Nat) : Int) < (k : Int) := h
      show (k : Int) = (m : Int)
      omega
  · unfold xv; dsimp only; rw [eq_yes, eq_yes]; rfl
  · unfold xv; dsimp only; rw [eq_yes]; rfl
  · unfold xv; dsimp only; rw [eq_yes]; rfl
  · exact congrArg Value.bool hb
theorem own : ownKnob Tryd.prog.godebug = none := by kernel_rfl
theorem vb : vflat 8 (.bool true) = true := rfl
theorem laidOut : laidOutB Tryd.prog = true := by kernel_rfl
theorem rd7 : Tryd.f7.params.toList.all (fun t => Tryd.prog.readableRec t && Nat.blt t Tryd.prog.types.size) = true := by kernel_rfl
theorem int_of_ok {P : Program} {W : World} {r : Reach} {base : Nat} {t : TypeId} {k : IntKind} {v : Value} (ht : P.underlying t = some (.int k)) (h : Value.okWide P W r base t v) : ∃ n, v = .int k n := by
  unfold Value.okWide at h
  rw [ht] at h
  unfold Cell.okWide Cell.ok at h
  rw [ht] at h
  cases v <;> first | (obtain ⟨rfl, _⟩ := h; exact ⟨_, rfl⟩) | exact h.elim
set_option maxRecDepth 100000 in
/-- A round, or the end. -/
theorem rounds {W : World} : ∀ (fuel : Nat) (st i ta tb : Int) (n k v : Nat) (jt : Nat → Value) (m : Mu) (a : Act) (w : World), n - v < fuel → 1 ≤ k → k ≤ 16 → n ≤ 63 → v ≤ n →
    TRel m 202 (S (xv st i ta tb n k v) jt).1 a.tmps → Rel Tryd.prog (baseOf W) m (S (xv st i ta tb n k v) jt).2 w → GRel 8 m → a.defers = [] →
    Code.rounds Tryd.prog lp (Exit.inBlock 0 (Exit.then (rest.wp Tryd.prog (bodyPost Tryd.prog Tryd.f7 fun e w' => e = .returned (.bool true) ∧ Below W.heap.size W w')) (bodyPost Tryd.prog Tryd.f7 fun e w' => e = .returned (.bool true) ∧ Below W.heap.size W w'))) fuel a w := by
  intro fuel
  induction fuel with
  | zero => intro st i ta tb n k v jt m a w h; omega
  | succ fuel ih =>
    intro st i ta tb n k v jt m a w hf h1 h2 hn hv hT hr hG hdf
    rw [rounds_succ, e4]
    by_cases hvn : v = n
    · subst hvn
      have ho := out (xv st i ta tb v k v) jt
      obtain ⟨tp, hx⟩ := exit_of (r := hd0 (xv st i ta tb v k v) jt) ho
      refine wp_seq (oneC_wp (n := 202) (mk := mkR 7) (K := 1000) (e := .exit 0) (s := S (xv st i ta tb v k v) jt) (s' := stOf (hd0 (xv st i ta tb v k v) jt)) entersOk zerosOk CBok CCok DCok DBok pl2 ok2 hx (NotedOk.cons (congrArg Value.bool (lt_no (Nat.le_refl _))) NotedOk.nil) hT hr hG ?_)
      intro m1 a1 w1 g1 t1 d1 q1
      have he := upTo_eq _ _ (ends (xv st i ta tb v k v) jt) v (Nat.zero_le _) (by omega)
      have he2 : saidOf (fin (xv st i ta tb v k v) jt) = some (.bool true, []) := he
      unfold saidOf at he2
      split at he2
      · rename_i o ho2
        simp only [Option.some.injEq, Prod.mk.injEq] at he2
        exact lastC_wp (n := 202) entersOk zerosOk CBok CCok DCok DBok pl6 ok6 vb ho2 he2.1 (by rw [he2.2]; exact NotedOk.nil) t1 q1 g1 (d1.trans hdf)
      · cases he2
    · have hlt : v < n := by omega
      have hh := head (xv st i ta tb n k v) jt
      obtain ⟨tp, hx⟩ := norm_of (r := hd (xv st i ta tb n k v) jt) hh
      refine wp_seq (oneC_wp (n := 202) (mk := mkR 7) (K := 1000) (e := .normal) (s := S (xv st i ta tb n k v) jt) (s' := stOf (hd (xv st i ta tb n k v) jt)) entersOk zerosOk CBok CCok DCok DBok pl2 ok2 hx (NotedOk.cons (congrArg Value.bool (lt_yes hlt)) NotedOk.nil) hT hr hG ?_)
      intro m1 a1 w1 g1 t1 d1 q1
      show lp2.wp Tryd.prog _ a1 w1
      rw [e5]
      obtain ⟨mm, hmm⟩ : ∃ mm, mm = min k (n - v) := ⟨_, rfl⟩
      obtain ⟨b, hb⟩ : ∃ b, intEq i (bandF st 7) = b := ⟨_, rfl⟩
      obtain ⟨y, hy⟩ : ∃ y, md (xv st i ta tb n k v) mm b jt = y := ⟨_, rfl⟩
      have hmid : ∀ jt2 jh2, (y.ok, y.lg, canonS (shM y.s) 8 y.s jt2 jh2) = (true, revN (notes (xv st i ta tb n k v) mm b) [], some (M (after (xv st i ta tb n k v) mm) b jt2)) := by
        intro jt2 jh2
        have := upTo_eq _ _ (mid (xv st i ta tb n k v) b jt jt2 jh2) mm (by omega) (by omega)
        dsimp only at this
        rwa [hy] at this
      have hmok : y.ok = true := (Prod.mk.inj (hmid jt (fun _ _ => undef))).1
      have hmlg : y.lg = revN (notes (xv st i ta tb n k v) mm b) [] := (Prod.mk.inj (Prod.mk.inj (hmid jt (fun _ _ => undef))).2).1
      have hmc : ∀ jt2 jh2, canonS (shM y.s) 8 y.s jt2 jh2 = some (M (after (xv st i ta tb n k v) mm) b jt2) := fun jt2 jh2 => (Prod.mk.inj (Prod.mk.inj (hmid jt2 jh2)).2).2
      refine wp_seq (wp_block (goNC_wp (n := 202) (mk := mkR 7) (K := 1000) (k := 9) (x := ⟨stOf (hd (xv st i ta tb n k v) jt), tape mm b, [], true⟩) (y := y) entersOk zerosOk CBok CCok DCok DBok k3 hy hmok (by rw [hmlg]; exact revN_ok _ _ (notes_ok st i ta tb n k v mm b hb h1 h2 hn hlt hmm) NotedOk.nil) t1 q1 g1 ?_))
      intro m2 a2 w2 g2 t2 d2 q2
      show cnd.wp Tryd.prog _ a2 w2
      obtain ⟨m3, jt3, jh3, g3, t3, q3⟩ := canon (S := shM y.s) (S2 := fun jt2 _ => M (after (xv st i ta tb n k v) mm) b jt2) hmc t2 q2 g2
      rw [after_eq st i ta tb n k v mm (by omega)] at t3 q3
      generalize wrapF .i64 (Int.add ta (.ofNat mm)) = ta' at t3 q3
      generalize wrapF .i64 (Int.add tb (.ofNat mm)) = tb' at t3 q3
      have last : ∀ (x' : X) (tb2 : Int), x' = xv st i ta' tb' n k (v + mm) → (∀ jt2 jh2, (isN (sec x' b jt3), isN (inc2 x' b jt3), canonS (shS (stOf (inc2 x' b jt3))) 8 (stOf (inc2 x' b jt3)) jt2 jh2) = (some [], some [], some (S (xv st (wrapF .i64 (Int.add i 1)) ta' tb2 n k (v + mm)) jt2))) →
          cnd.wp Tryd.prog (Exit.inBlock 1 (Exit.then (inc.wp Tryd.prog (Exit.then (Code.rounds Tryd.prog lp (Exit.inBlock 0 (Exit.then (rest.wp Tryd.prog (bodyPost Tryd.prog Tryd.f7 fun e w' => e = .returned (.bool true) ∧ Below W.heap.size W w')) (bodyPost Tryd.prog Tryd.f7 fun e w' => e = .returned (.bool true) ∧ Below W.heap.size W w'))) fuel) (Exit.inBlock 0 (Exit.then (rest.wp Tryd.prog (bodyPost Tryd.prog Tryd.f7 fun e w' => e = .returned (.bool true) ∧ Below W.heap.size W w')) (bodyPost Tryd.prog Tryd.f7 fun e w' => e = .returned (.bool true) ∧ Below W.heap.size W w'))))) (Exit.then (Code.rounds Tryd.prog lp (Exit.inBlock 0 (Exit.then (rest.wp Tryd.prog (bodyPost Tryd.prog Tryd.f7 fun e w' => e = .returned (.bool true) ∧ Below W.heap.size W w')) (bodyPost Tryd.prog Tryd.f7 fun e w' => e = .returned (.bool true) ∧ Below W.heap.size W w'))) fuel) (Exit.inBlock 0 (Exit.then (rest.wp Tryd.prog (bodyPost Tryd.prog Tryd.f7 fun e w' => e = .returned (.bool true) ∧ Below W.heap.size W w')) (bodyPost Tryd.prog Tryd.f7 fun e w' => e = .returned (.bool true) ∧ Below W.heap.size W w')))))) a2 w2 := by
        intro x' tb2 hx' hs
        subst hx'
        obtain ⟨tp1, e1⟩ := norm_of (r := sec (xv st i ta' tb' n k (v + mm)) b jt3) (Prod.mk.inj (hs jt (fun _ _ => undef))).1
        obtain ⟨tp2, e2⟩ := norm_of (r := inc2 (xv st i ta' tb' n k (v + mm)) b jt3) (Prod.mk.inj (Prod.mk.inj (hs jt (fun _ _ => undef))).2).1
        refine oneC_wp (n := 202) (mk := mkR 7) (K := 1000) (e := .normal) (s := M (xv st i ta' tb' n k (v + mm)) b jt3) entersOk zerosOk CBok CCok DCok DBok pl4 ok4 e1 NotedOk.nil t3 q3 g3 ?_
        intro m4 a4 w4 g4 t4 d4 q4
        show inc.wp Tryd.prog _ a4 w4
        refine oneC_wp (n := 202) (mk := mkR 7) (K := 1000) (e := .normal) (s := stOf (sec (xv st i ta' tb' n k (v + mm)) b jt3)) entersOk zerosOk CBok CCok DCok DBok pl5 ok5 e2 NotedOk.nil t4 q4 g4 ?_
        intro m5 a5 w5 g5 t5 d5 q5
        obtain ⟨m6, jt6, jh6, g6, t6, q6⟩ := canon (S := shS (stOf (inc2 (xv st i ta' tb' n k (v + mm)) b jt3))) (S2 := fun jt2 _ => S (xv st (wrapF .i64 (Int.add i 1)) ta' tb2 n k (v + mm)) jt2) (fun jt2 jh2 => (Prod.mk.inj (Prod.mk.inj (hs jt2 jh2)).2).2) t5 q5 g5
        exact ih _ _ _ _ _ _ _ _ _ _ _ (by omega) h1 h2 hn (by omega) t6 q6 g6 (by rw [d5, d4, d2, d1]; exact hdf)
      cases b with
      | false => exact last _ tb' rfl (fun jt2 jh2 => sec0 (xv st i ta' tb' n k (v + mm)) jt3 jt2 jh2)
      | true =>
        refine last _ 0 rfl fun jt2 jh2 => ?_
        exact upTo_eq _ _ (sec1 (xv st i ta' tb' n k (v + mm)) jt3 jt2 jh2) (v + mm) (by omega) (by omega)
set_option maxRecDepth 100000 in
theorem walk (W : World) (many stop size : Int) : Calls Tryd.prog 7 (args many stop size) W fun e W' => e = .returned (.bool true) ∧ Below W.heap.size W W' := by
  obtain ⟨n, hn, en⟩ := bandF_lt many (c := 63) (by decide)
  obtain ⟨k, hk, ek⟩ := bandF_lt size (c := 15) (by decide)
  have hah := ahead many stop size (fun _ => undef) (fun _ _ => undef)
  refine calls_of_wp Tryd.func7 hasBody ?_
  have hT : TRel (muG 8) 202 (s0 many stop size).1 (args many stop size ++ Array.replicate (Tryd.f7.ntmps - (args many stop size).size) undef) :=
    initT_rel (args := args many stop size) (args' := args many stop size) (n := 202) ⟨rfl, fun i h1 h2 => (match i, h1, h2 with
      | 0, _, _ => .int _ _
      | 1, _, _ => .int _ _
      | 2, _, _ => .int _ _)⟩ (show 3 ≤ 202 by decide)
  refine goNC_wp (n := 202) (mk := mkR 7) (K := 1000) (k := 5) (x := ⟨s0 many stop size, [], [], true⟩) (y := y1 many stop size) entersOk zerosOk CBok CCok DCok DBok k0 rfl (Prod.mk.inj hah).1 (by rw [(Prod.mk.inj (Prod.mk.inj hah).2).1]; exact NotedOk.nil) hT (initRel 8 W) (muG_rel 8) ?_
  intro m1 a1 w1 g1 t1 d1 q1
  show c5.wp Tryd.prog _ a1 w1
  rw [e1]
  refine wp_seq (goNC_wp (n := 202) (mk := mkR 7) (K := 1000) (k := 1) (x := ⟨(y1 many stop size).s, [], [], true⟩) (y := y2 many stop size) entersOk zerosOk CBok CCok DCok DBok k1 rfl (Prod.mk.inj (Prod.mk.inj (Prod.mk.inj hah).2).2).1 (by rw [(Prod.mk.inj (Prod.mk.inj (Prod.mk.inj (Prod.mk.inj hah).2).2).2).1]; exact NotedOk.nil) t1 q1 g1 ?_)
  intro m2 a2 w2 g2 t2 d2 q2
  rw [e2, e3]
  obtain ⟨m3, jt3, jh3, g3, t3, q3⟩ := canon (S := shS (y2 many stop size).s) (S2 := fun jt2 _ => S (x0 many stop size) jt2) (fun jt2 jh2 => (Prod.mk.inj (Prod.mk.inj (Prod.mk.inj (Prod.mk.inj (ahead many stop size jt2 jh2)).2).2).2).2) t2 q2 g2
  have hx0 : x0 many stop size = xv stop 0 0 0 n (1 + k) 0 := by
    unfold x0 xv
    rw [en, ek, show (1 : Int) = .ofNat 1 from rfl, wadd 1 k (by omega)]
    rfl
  rw [hx0] at t3 q3
  exact wp_block (wp_loop_rounds 64 (rounds 64 _ _ _ _ _ _ _ _ _ _ _ (by omega) (by omega) (by omega) hn (Nat.zero_le _) t3 q3 g3 (by rw [d2, d1])))
set_option maxRecDepth 100000 in
theorem contract (H : Type) (enc : TypeId × Value → H) (W : World) (base : Nat) (args : Array Value) (ds gs : List (DataW H)) (before : List MemPlace)
    (hval : ∀ (j : Nat) t v, Tryd.f7.params[j]? = some t → args[j]? = some v → Value.okWide Tryd.prog W .any base t v)
    (hW : DataW.Whole enc Tryd.prog Tryd.f7.params.toList Rows.fanCursorSpec.vars false W args.toList ds gs before) :
    Calls Tryd.prog 7 args W fun e W' => ∃ v, e = .returned v ∧ Rows.fanCursorSpec.post enc Tryd.prog Tryd.f7 false true false false W args v W' := by
  have hW' := hW
  obtain ⟨p, q, hA0, hV, rfl, hfz, hnd⟩ := hW
  have hA : DataW.TrodAll enc Tryd.prog W 0 (fun _ => true) true Tryd.f7.params.toList args.toList ds p := hA0
  rw [Tryd.params7] at hA hval
  obtain ⟨v0, vs0, d0, ds0, p0, q0, hargs, rfl, rfl, h0, r0⟩ := trodAll_cons hA
  obtain ⟨v1, vs1, d1, ds1, p1, q1, rfl, rfl, rfl, h1, r1⟩ := trodAll_cons r0
  obtain ⟨v2, vs2, d2, ds2, p2, q2, rfl, rfl, rfl, h2, r2⟩ := trodAll_cons r1
  obtain ⟨rfl, rfl, rfl⟩ := trodAll_nil r2
  obtain rfl : args = #[v0, v1, v2] := by cases args; simp_all
  obtain ⟨rfl, rfl⟩ := trodVars_none hV
  obtain ⟨n0, rfl⟩ := int_of_ok Tryd.underlying3 (hval 0 3 v0 (by simp) (by simp))
  obtain ⟨n1, rfl⟩ := int_of_ok Tryd.underlying3 (hval 1 3 v1 (by simp) (by simp))
  obtain ⟨n2, rfl⟩ := int_of_ok Tryd.underlying3 (hval 2 3 v2 (by simp) (by simp))
  refine (walk W n0 n1 n2).mono fun e W' ⟨he, hb⟩ => ?_
  subst he
  exact ⟨_, rfl, post_true laidOut rd7 hW' rfl rfl rfl rfl (by kernel_rfl) Tryd.underlying4 hb⟩

def dcells : Nat → DataW Unit → List Value
  | _, .lit (.int k n) => [.int k n]
  | f + 1, .agg l => l.flatMap (dcells f)
  | _, _ => []
/-- A WORLD FOR THE WITNESS. -/
noncomputable def laidWorld (os : Os) : World :=
  let w0 := World.holding Tryd.prog os ⟨#[.cells #[.string ⟨#[118, 97, 108, 117, 101, 32, 111, 117, 116, 32, 111, 102, 32, 114, 97, 110, 103, 101]⟩] 148 (0, 0), .cells #[.string ⟨#[105, 110, 118, 97, 108, 105, 100, 32, 115, 121, 110, 116, 97, 120]⟩] 148 (0, 0)], #[], []⟩
  let e := (World.settled Tryd.prog os).heap.size
  let put (h : Array Obj) (g : Nat) (cs : List Value) : Array Obj := h.modify g fun
    | .cells _ t frozen => .cells cs.toArray t frozen
    | o => o
  { w0 with heap := put (put (put (put (put (put (put w0.heap 0 (dcells 3 Rows.laid_unicode_utf8_first)) 1 (dcells 3 Rows.laid_unicode_utf8_acceptRanges)) 5 (dcells 3 Rows.laid_internal_strconv_uint64pow10)) 6 (dcells 3 Rows.laid_math_bits_deBruijn32tab)) 7 (dcells 3 Rows.laid_math_bits_deBruijn64tab)) 4 [.iface 146 (.pointer (some ⟨e, 0, none⟩))]) 3 [.iface 146 (.pointer (some ⟨e + 1, 0, none⟩))] }
noncomputable def wargs : Array Value := #[.int .i64 0, .int .i64 0, .int .i64 0]
theorem laid_met (os : Os) : laidMet Tryd.prog Rows.fanCursorRow.laid ((laidWorld os).forCall (fun _ _ => 0) ⟨#[], wargs, []⟩).memory :=
  laidMet_of_run3 8 (by kernel_rfl) (by kernel_rfl) (by kernel_rfl)
theorem reads (os : Os) {H : Type} (enc : TypeId × Value → H) : ∃ places, DataW.whole enc Tryd.prog ((laidWorld os).forCall (fun _ _ => 0) ⟨#[], wargs, []⟩).memory Tryd.f7.params.toList Rows.fanCursorSpec.vars false wargs.toList 8 =
    some ([.lit (.int .i64 0), .lit (.int .i64 0), .lit (.int .i64 0)], [], places) :=
  ⟨[], by kernel_rfl⟩
set_option maxRecDepth 100000 in
theorem lifted (os : Os) (started : os.Started) (H : Type) (enc : TypeId × Value → H) (F : Stop.Interp) :
    ReturnsInHanded {} Tryd.checked os 7 .any ((OpenSpec.ofChange Rows.fanCursorSpec).preRow enc Tryd.prog Tryd.f7 Rows.fanCursorRow.domain false Rows.fanCursorRow.laid) (((OpenSpec.ofChange Rows.fanCursorSpec).at F).post enc Tryd.prog Tryd.f7 false true false false) := by
  obtain ⟨places, hx⟩ := reads os enc
  refine returnsInHanded_of_row (C := Tryd.checked) (s := OpenSpec.ofChange Rows.fanCursorSpec) own started (by kernel_rfl) Tryd.func7
    (witness_row_at (enc := enc) (C := Tryd.checked) false (laidWorld os) wargs rfl (by kernel_rfl) (by kernel_rfl) (by kernel_rfl)
      (OpenSpec.preRow_of_cond 8 hx (by kernel_rfl) (fun k hk => by cases hk) (by kernel_rfl) (laid_met os))) ?_
  intro W base args ds gs before hval hW _ _ _ _ _ _
  exact contract H enc W base args ds gs before hval hW
theorem said : Rows.FanCursorSaid :=
  OpenClaim.holds_of_cond 7 Tryd.f7 rfl rfl rfl rfl rfl rfl rfl ⟨rfl, rfl, rfl, rfl, rfl⟩ rfl rfl rfl rfl rfl (by kernel_rfl) Tryd.func7 (by kernel_rfl)
    (of_decide_eq_true (by kernel_rfl)) (by unfold Func.isWrapper; first | (rw [if_pos (by decide +kernel)]; kernel_rfl) | (rw [if_neg (by decide +kernel)]; exact ⟨rfl, rfl⟩))
    (fun os started H enc _ F => by rw [OpenClaim.pre_eq_preRow]; exact lifted os started H enc F)
/-- No parameter wants a stand-in; the program's own looks are on: what both cards ask. -/
theorem plain (f : FuncId) (fn : Func) (hf : Tryd.pinned.checked.prog.funcNamed "rookery/rookerylaw19.FanCursor" = some f) (hfn : Tryd.pinned.checked.prog.funcs[f]? = some fn) :
    true = Tryd.pinned.checked.prog.looks [] ∧ ∀ (j : Nat) t, fn.params[j]? = some t → Tryd.pinned.checked.prog.wantsStandIn t = false := by
  obtain rfl : f = 7 := Option.some.inj ((show Tryd.prog.funcNamed "rookery/rookerylaw19.FanCursor" = some 7 by kernel_rfl).symm.trans hf) |>.symm
  obtain rfl : fn = Tryd.f7 := (Option.some.inj (Tryd.func7.symm.trans hfn)).symm
  refine ⟨by kernel_rfl, fun j t ht => ?_⟩
  rw [Tryd.params7] at ht
  obtain rfl : t = 3 := by simpa using Array.mem_of_getElem? ht
  exact (show Tryd.prog.wantsStandIn 3 = false by kernel_rfl)
/-- ████ THE CARD ████ -/
theorem card : Rows.FanCursorCardSaid :=
  Claim7.holds_tied_plain_at .later [] _ _ _ _ said (fun _ h => by cases h) (by kernel_rfl) (fun _ h => by cases h) fanCursor_row_tie rfl ⟨rfl, rfl⟩ (by kernel_rfl) rfl plain (by kernel_rfl)
end Go.Proofs.YtbkgnlcjnimpcaaDoor.fanCursor
