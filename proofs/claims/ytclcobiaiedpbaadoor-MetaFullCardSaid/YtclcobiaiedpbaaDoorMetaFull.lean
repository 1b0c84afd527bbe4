/- MetaFull is proved: there are so many that wait, and no more, at any number; the package-level tables that the row lists are tied to the text by the card. -/
import Derived.Test.YtclcobiaiedpbaaDoorAbV
import Derived.Test.YtclcobiaiedpbaaDoorMetaFullB
import Derived.Test.YtclcobiaiedpbaaDoorMetaFullC
import Derived.Test.YtclcobiaiedpbaaDoorMetaFullD
import Derived.Test.YtclcobiaiedpbaaDoorCards
import Derived.Test.YtclcobiaiedpbaaDoorTie
import Derived.WalkKit
namespace Go.Proofs.YtclcobiaiedpbaaDoor.metaFull
open Go Go.Ab Go.ChangeShapes Go.WideShapes Go.ChangeAt Go.RowKit

theorem round_all (more : Int) (j0 jt : Nat → Value) (jh : Nat → Nat → Value) (i : Nat) (h : i < 67) : roundL more j0 jt jh i = roundR more jt i := by
  by_cases h0 : i < 24
  · exact upTo_eq _ _ (round0 more j0 jt jh) i (by omega) (by omega)
  by_cases h1 : i < 34
  · exact upTo_eq _ _ (round24 more j0 jt jh) i (by omega) (by omega)
  by_cases h2 : i < 42
  · exact upTo_eq _ _ (round34 more j0 jt jh) i (by omega) (by omega)
  by_cases h3 : i < 48
  · exact upTo_eq _ _ (round42 more j0 jt jh) i (by omega) (by omega)
  by_cases h4 : i < 53
  · exact upTo_eq _ _ (round48 more j0 jt jh) i (by omega) (by omega)
  by_cases h5 : i < 57
  · exact upTo_eq _ _ (round53 more j0 jt jh) i (by omega) (by omega)
  by_cases h6 : i < 61
  · exact upTo_eq _ _ (round57 more j0 jt jh) i (by omega) (by omega)
  by_cases h7 : i < 64
  · exact upTo_eq _ _ (round61 more j0 jt jh) i (by omega) (by omega)
  · exact upTo_eq _ _ (round64 more j0 jt jh) i (by omega) (by omega)
theorem lt_yes {a b : Nat} (h : a < b) : intLt (.ofNat a) (.ofNat b) = true := by
  show Nat.blt a b = true
  rw [Nat.blt_eq]; exact h
theorem lt_no {a b : Nat} (h : b ≤ a) : intLt (.ofNat a) (.ofNat b) = false := by
  show Nat.blt a b = false
  rw [Bool.eq_false_iff]
  intro q
  rw [Nat.blt_eq] at q
  omega
theorem lim_eq (more : Int) : ∃ j, j ≤ 7 ∧ lim more = .ofNat (60 + j) := by
  obtain ⟨j, hj, ej⟩ := bandF_lt more (c := 7) (by decide)
  refine ⟨j, hj, ?_⟩
  unfold lim
  rw [ej, wrapF_eq]
  exact wrap_u (show 60 + j < 9223372036854775808 by omega)
theorem own : ownKnob Tryd.prog.godebug = none := by kernel_rfl
theorem vb : vflat 8 (.bool true) = true := rfl
theorem laidOut : laidOutB Tryd.prog = true := by kernel_rfl
theorem rd5 : Tryd.f5.params.toList.all (fun t => Tryd.prog.readableRec t && Nat.blt t Tryd.prog.types.size) = true := by kernel_rfl
theorem int_of_ok {P : Program} {W : World} {r : Reach} {base : Nat} {t : TypeId} {k : IntKind} {v : Value} (ht : P.underlying t = some (.int k)) (h : Value.okWide P W r base t v) : ∃ n, v = .int k n := by
  unfold Value.okWide at h
  rw [ht] at h
  unfold Cell.okWide Cell.ok at h
  rw [ht] at h
  cases v <;> first | (obtain ⟨rfl, _⟩ := h; exact ⟨_, rfl⟩) | exact h.elim
set_option maxRecDepth 100000 in
/-- A round, or the end. -/
theorem rounds {W : World} (more : Int) (j : Nat) (hj : j ≤ 7) (hlim : lim more = .ofNat (60 + j)) : ∀ (fuel : Nat) (i : Nat) (jt : Nat → Value) (m : Mu) (a : Act) (w : World), 60 + j - i < fuel → i ≤ 60 + j →
    TRel m 71 (S more (capN i) i jt).1 a.tmps → Rel Tryd.prog (baseOf W) m (S more (capN i) i jt).2 w → GRel 2 m → a.defers = [] →
    Code.rounds Tryd.prog lp (Exit.inBlock 0 (Exit.then (rest.wp Tryd.prog (bodyPost Tryd.prog Tryd.f5 fun e w' => e = .returned (.bool true) ∧ Below W.heap.size W w')) (bodyPost Tryd.prog Tryd.f5 fun e w' => e = .returned (.bool true) ∧ Below W.heap.size W w'))) fuel a w := by
  intro fuel
  induction fuel with
  | zero => intro i jt m a w h; omega
  | succ fuel ih =>
    intro i jt m a w hf hi hT hr hG hdf
    rw [rounds_succ]
    by_cases hvn : i = 60 + j
    · subst hvn
      have he := upTo_eq _ _ (ends more jt) j (Nat.zero_le _) (by omega)
      obtain ⟨he1, he2⟩ := Prod.mk.inj he
      obtain ⟨tp, hx⟩ := exit_of (r := hd0 more j jt) he1
      rw [e4]
      refine wp_seq (oneC_wp (n := 71) (mk := mkR 5) (K := 1000) (e := .exit 0) (s := S more (capN (60 + j)) (60 + j) jt) (s' := stOf (hd0 more j jt)) entersOk zerosOk CBok CCok DCok DBok pl2 ok2 hx (NotedOk.cons (congrArg Value.bool (by rw [hlim]; exact lt_no (Nat.le_refl _))) NotedOk.nil) hT hr hG ?_)
      intro m1 a1 w1 g1 t1 d1 q1
      unfold saidOf at he2
      split at he2
      · rename_i o ho2
        simp only [Option.some.injEq, Prod.mk.injEq] at he2
        exact lastC_wp (n := 71) entersOk zerosOk CBok CCok DCok DBok pl6 ok6 vb ho2 he2.1 (by rw [he2.2]; exact NotedOk.cons (congrArg i64 hlim) NotedOk.nil) t1 q1 g1 (d1.trans hdf)
      · cases he2
    · have hr2 := fun jt2 jh2 => round_all more jt jt2 jh2 i (by omega)
      obtain ⟨tp, hx⟩ := norm_of (r := rnd more i jt) (Prod.mk.inj (hr2 jt (fun _ _ => undef))).1
      refine oneC_wp (n := 71) (mk := mkR 5) (K := 1000) (e := .normal) (s := S more (capN i) i jt) (s' := stOf (rnd more i jt)) entersOk zerosOk CBok CCok DCok DBok pl1 ok1 hx (NotedOk.cons (congrArg Value.bool (by rw [hlim]; exact lt_yes (by omega))) NotedOk.nil) hT hr hG ?_
      intro m1 a1 w1 g1 t1 d1 q1
      obtain ⟨m6, jt6, jh6, g6, t6, q6⟩ := canon (S := shOf (capN (i + 1)) (stOf (rnd more i jt))) (S2 := fun jt2 _ => S more (capN (i + 1)) (i + 1) jt2) (fun _ => rfl) (fun jt2 jh2 => (Prod.mk.inj (hr2 jt2 jh2)).2) t1 q1 g1
      exact ih _ _ _ _ _ (by omega) (by omega) t6 q6 g6 (by rw [d1]; exact hdf)
set_option maxRecDepth 100000 in
theorem walk (W : World) (more : Int) : Calls Tryd.prog 5 (args more) W fun e W' => e = .returned (.bool true) ∧ Below W.heap.size W W' := by
  obtain ⟨j, hj, hlim⟩ := lim_eq more
  have hah := ahead more (fun _ => undef) (fun _ _ => undef)
  refine calls_of_wp Tryd.func5 hasBody ?_
  have hT : TRel (muG 2) 71 (s0 more).1 (args more ++ Array.replicate (Tryd.f5.ntmps - (args more).size) undef) :=
    initT_rel (args := args more) (args' := args more) (n := 71) ⟨rfl, fun i h1 h2 => (match i, h1, h2 with
      | 0, _, _ => .int _ _)⟩ (show 1 ≤ 71 by decide)
  refine goNC_wp (n := 71) (mk := mkR 5) (K := 1000) (k := 3) (x := ⟨s0 more, [], [], true⟩) (y := y1 more) entersOk zerosOk CBok CCok DCok DBok k0 rfl (Prod.mk.inj hah).1 (by rw [(Prod.mk.inj (Prod.mk.inj hah).2).1]; exact NotedOk.nil) hT (initRel 2 W) (muG_rel 2) ?_
  intro m1 a1 w1 g1 t1 d1 q1
  show c3.wp Tryd.prog _ a1 w1
  rw [e1]
  refine wp_seq (goNC_wp (n := 71) (mk := mkR 5) (K := 1000) (k := 1) (x := ⟨(y1 more).s, [], [], true⟩) (y := y2 more) entersOk zerosOk CBok CCok DCok DBok k1 rfl (Prod.mk.inj (Prod.mk.inj (Prod.mk.inj hah).2).2).1 (by rw [(Prod.mk.inj (Prod.mk.inj (Prod.mk.inj (Prod.mk.inj hah).2).2).2).1]; exact NotedOk.nil) t1 q1 g1 ?_)
  intro m2 a2 w2 g2 t2 d2 q2
  rw [e2, e3]
  obtain ⟨m3, jt3, jh3, g3, t3, q3⟩ := canon (S := shOf 0 (y2 more).s) (S2 := fun jt2 _ => S more 0 0 jt2) (fun _ => rfl) (fun jt2 jh2 => (Prod.mk.inj (Prod.mk.inj (Prod.mk.inj (Prod.mk.inj (ahead more jt2 jh2)).2).2).2).2) t2 q2 g2
  exact wp_block (wp_loop_rounds 68 (rounds more j hj hlim 68 0 _ _ _ _ (by omega) (Nat.zero_le _) t3 q3 g3 (by rw [d2, d1])))
set_option maxRecDepth 100000 in
theorem contract (H : Type) (enc : TypeId × Value → H) (W : World) (base : Nat) (args : Array Value) (ds gs : List (DataW H)) (before : List MemPlace)
    (hval : ∀ (j : Nat) t v, Tryd.f5.params[j]? = some t → args[j]? = some v → Value.okWide Tryd.prog W .any base t v)
    (hW : DataW.Whole enc Tryd.prog Tryd.f5.params.toList Rows.metaFullSpec.vars false W args.toList ds gs before) :
    Calls Tryd.prog 5 args W fun e W' => ∃ v, e = .returned v ∧ Rows.metaFullSpec.post enc Tryd.prog Tryd.f5 false true false false W args v W' := by
  have hW' := hW
  obtain ⟨p, q, hA0, hV, rfl, hfz, hnd⟩ := hW
  have hA : DataW.TrodAll enc Tryd.prog W 0 (fun _ => true) true Tryd.f5.params.toList args.toList ds p := hA0
  rw [Tryd.params5] at hA hval
  obtain ⟨v0, vs0, d0, ds0, p0, q0, hargs, rfl, rfl, h0, r0⟩ := trodAll_cons hA
  obtain ⟨rfl, rfl, rfl⟩ := trodAll_nil r0
  obtain rfl : args = #[v0] := by cases args; simp_all
  obtain ⟨rfl, rfl⟩ := trodVars_none hV
  obtain ⟨n, rfl⟩ := int_of_ok Tryd.underlying3 (hval 0 3 v0 (by simp) (by simp))
  refine (walk W n).mono fun e W' ⟨he, hb⟩ => ?_
  subst he
  exact ⟨_, rfl, post_true laidOut rd5 hW' rfl rfl rfl rfl (by kernel_rfl) Tryd.underlying4 hb⟩

def dcells : Nat → DataW Unit → List Value
  | _, .lit (.int k n) => [.int k n]
  | f + 1, .agg l => l.flatMap (dcells f)
  | _, _ => []
/-- A WORLD FOR THE WITNESS. -/
noncomputable def laidWorld (os : Os) : World :=
  let w0 := World.holding Tryd.prog os ⟨#[], #[], []⟩
  let put (h : Array Obj) (g : Nat) (cs : List Value) : Array Obj := h.modify g fun
    | .cells _ t frozen => .cells cs.toArray t frozen
    | o => o
  { w0 with heap := put (put w0.heap 0 (dcells 3 Rows.laid_unicode_utf8_first)) 1 (dcells 3 Rows.laid_unicode_utf8_acceptRanges) }
noncomputable def wargs : Array Value := #[.int .i64 0]
theorem laid_met (os : Os) : laidMet Tryd.prog Rows.metaFullRow.laid ((laidWorld os).forCall (fun _ _ => 0) ⟨#[], wargs, []⟩).memory :=
  laidMet_of_run3 8 (by kernel_rfl) (by kernel_rfl) (by kernel_rfl)
theorem reads (os : Os) {H : Type} (enc : TypeId × Value → H) : ∃ places, DataW.whole enc Tryd.prog ((laidWorld os).forCall (fun _ _ => 0) ⟨#[], wargs, []⟩).memory Tryd.f5.params.toList Rows.metaFullSpec.vars false wargs.toList 8 =
    some ([.lit (.int .i64 0)], [], places) :=
  ⟨[], by kernel_rfl⟩
set_option maxRecDepth 100000 in
theorem lifted (os : Os) (started : os.Started) (H : Type) (enc : TypeId × Value → H) (F : Stop.Interp) :
    ReturnsInHanded {} Tryd.checked os 5 .any ((OpenSpec.ofChange Rows.metaFullSpec).preRow enc Tryd.prog Tryd.f5 Rows.metaFullRow.domain false Rows.metaFullRow.laid) (((OpenSpec.ofChange Rows.metaFullSpec).at F).post enc Tryd.prog Tryd.f5 false true false false) := by
  obtain ⟨places, hx⟩ := reads os enc
  refine returnsInHanded_of_row (C := Tryd.checked) (s := OpenSpec.ofChange Rows.metaFullSpec) own started (by kernel_rfl) Tryd.func5
    (witness_row_at (enc := enc) (C := Tryd.checked) false (laidWorld os) wargs rfl (by kernel_rfl) (by kernel_rfl) (by kernel_rfl)
      (OpenSpec.preRow_of_cond 8 hx (by kernel_rfl) (fun k hk => by cases hk) (by kernel_rfl) (laid_met os))) ?_
  intro W base args ds gs before hval hW _ _ _ _ _ _
  exact contract H enc W base args ds gs before hval hW
theorem said : Rows.MetaFullSaid :=
  OpenClaim.holds_of_cond 5 Tryd.f5 rfl rfl rfl rfl rfl rfl rfl ⟨rfl, rfl, rfl, rfl, rfl⟩ rfl rfl rfl rfl rfl (by kernel_rfl) Tryd.func5 (by kernel_rfl)
    (of_decide_eq_true (by kernel_rfl)) (by unfold Func.isWrapper; first | (rw [if_pos (by decide +kernel)]; kernel_rfl) | (rw [if_neg (by decide +kernel)]; exact ⟨rfl, rfl⟩))
    (fun os started H enc _ F => by rw [OpenClaim.pre_eq_preRow]; exact lifted os started H enc F)
/-- No parameter wants a stand-in; the program's own looks are off: what both cards ask. -/
theorem plain (f : FuncId) (fn : Func) (hf : Tryd.pinned.checked.prog.funcNamed "rookery/rookerylaw14.MetaFull" = some f) (hfn : Tryd.pinned.checked.prog.funcs[f]? = some fn) :
    false = Tryd.pinned.checked.prog.looks [] ∧ ∀ (j : Nat) t, fn.params[j]? = some t → Tryd.pinned.checked.prog.wantsStandIn t = false := by
  obtain rfl : f = 5 := Option.some.inj ((show Tryd.prog.funcNamed "rookery/rookerylaw14.MetaFull" = some 5 by kernel_rfl).symm.trans hf) |>.symm
  obtain rfl : fn = Tryd.f5 := (Option.some.inj (Tryd.func5.symm.trans hfn)).symm
  refine ⟨by kernel_rfl, fun j t ht => ?_⟩
  rw [Tryd.params5] at ht
  obtain rfl : t = 3 := by simpa using Array.mem_of_getElem? ht
  exact (show Tryd.prog.wantsStandIn 3 = false by kernel_rfl)
/-- ████ THE CARD ████ -/
theorem card : Rows.MetaFullCardSaid :=
  Claim7.holds_tied_plain_at .later [] _ _ _ _ said (fun _ h => by cases h) (by kernel_rfl) (fun _ h => by cases h) metaFull_row_tie rfl ⟨rfl, rfl⟩ (by kernel_rfl) rfl plain (by kernel_rfl)
end Go.Proofs.YtclcobiaiedpbaaDoor.metaFull
