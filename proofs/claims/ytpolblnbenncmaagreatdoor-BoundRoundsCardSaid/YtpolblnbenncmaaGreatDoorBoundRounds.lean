/- BoundRounds is proved: the bound, and the steps of starts and rounds, of any config and numbers; the package-level tables that the row lists are tied to the text by the card. -/
import Derived.Test.YtpolblnbenncmaaGreatDoorAbV
import Derived.Test.YtpolblnbenncmaaGreatDoorBoundRoundsC
import Derived.Test.YtpolblnbenncmaaGreatDoorBoundRoundsD
import Derived.Test.YtpolblnbenncmaaGreatDoorBoundRoundsE
import Derived.Test.YtpolblnbenncmaaGreatDoorBoundRoundsK
import Derived.Test.YtpolblnbenncmaaGreatDoorCards
import Derived.Test.YtpolblnbenncmaaGreatDoorTie
import Derived.WalkKit
namespace Go.Proofs.YtpolblnbenncmaaGreatDoor.boundRounds
open Go Go.Ab Go.ChangeShapes Go.WideShapes Go.ChangeAt Go.RowKit
set_option maxRecDepth 100000
def ks6 : List LK := [.i .i64, .i .i64, .i .i64, .i .i64, .i .i64, .i .i64]
theorem leaves23 : leavesK Tryz.prog 30 23 = some ks6 := by kernel_rfl
theorem six_of : ∀ l : List Value, AllOk ks6 l → ∃ n g c d s k, l = [i64 n, i64 g, i64 c, i64 d, i64 s, i64 k] := by
  intro l h
  match l, h with
  | [_, _, _, _, _, _], ⟨⟨n, rfl⟩, ⟨g, rfl⟩, ⟨c, rfl⟩, ⟨d, rfl⟩, ⟨s, rfl⟩, ⟨k, rfl⟩, _⟩ => exact ⟨n, g, c, d, s, k, rfl⟩
theorem eq_same (a : Int) : same1 a := by
  show Value.bool (intEq a a) = Tr
  rw [intEq_eq]
  simp [Tr]
theorem ffN_ok : ∀ (k : Nat) (t : Noted), NotedOk t → NotedOk (ffN k t) := by
  intro k
  induction k with
  | zero => intro t ht; exact ht
  | succ k ih => intro t ht; exact NotedOk.cons rfl (NotedOk.cons rfl (ih t ht))
theorem veq_tick (x : Int) (j : Nat) : ((veq 8 (tickV x j) (tickV x j) && true) && true) = true := by
  simp [tickV, i64, veq, veq.veqs]
theorem tickN_ok (x : Int) : ∀ (m j : Nat) (t : Noted), NotedOk t → NotedOk (tickN x m j t) := by
  intro m
  induction m with
  | zero => intro j t ht; exact ht
  | succ m ih =>
    intro j t ht
    refine NotedOk.cons (veq_tick x j) (NotedOk.cons ?_ (ffN_ok 3 _ (ih (j + 1) t ht)))
    show Value.bool (notB (intEq _ _)) = F
    rw [intEq_eq]
    simp [F, notB]
theorem low_yes {x : Int} (h : x < 0) : low1 x Tr := by
  show Value.bool (intLt x 0) = Tr
  rw [intLt_eq, decide_eq_true h]; rfl
theorem low_no {x : Int} (h : 0 ≤ x) : low1 x F := congrArg Value.bool (lt_of h)
theorem top_yes {x : Int} (h : 1048576 < x) : top1 x Tr := by
  show Value.bool (intLt 1048576 x) = Tr
  rw [intLt_eq, decide_eq_true h]; rfl
theorem top_no {x : Int} (h : x ≤ 1048576) : top1 x F := congrArg Value.bool (lt_of h)
/-- Behind the first part. -/
theorem part1 (n g c d s k calls x : Int) : ∃ tp lg a e, NotedOk lg ∧ ∀ jt jh, p1L n g c d s k calls x tp jt jh = (true, revN lg [], some (S n g c d s k x a e jt)) := by
  rcases conds_or (conds n g c d s k) with h | ⟨h, i, hi, hn⟩
  · have hm : may1 n g c d s k Tr := congrArg Value.bool h
    rcases Int.lt_or_le calls 0 with h0 | h0
    · exact ⟨_, _, _, _, NotedOk.cons hm (NotedOk.cons (low_yes h0) (condN_ok h (NotedOk.cons (low_yes h0) NotedOk.nil))), fun jt jh => (Prod.mk.inj (good1 n g c d s k calls x jt jh)).1⟩
    · rcases Int.lt_or_le 1048576 calls with h1 | h1
      · exact ⟨_, _, _, _, NotedOk.cons hm (NotedOk.cons (low_no h0) (NotedOk.cons (top_yes h1) (condN_ok h (NotedOk.cons (low_no h0) (NotedOk.cons (top_yes h1) NotedOk.nil))))), fun jt jh => (Prod.mk.inj (Prod.mk.inj (good1 n g c d s k calls x jt jh)).2).1⟩
      · exact ⟨_, _, _, _, NotedOk.cons hm (NotedOk.cons (low_no h0) (NotedOk.cons (top_no h1) (condN_ok h (NotedOk.cons (low_no h0) (NotedOk.cons (top_no h1) NotedOk.nil))))), fun jt jh => (Prod.mk.inj (Prod.mk.inj (good1 n g c d s k calls x jt jh)).2).2⟩
  · have hm : may1 n g c d s k F := congrArg Value.bool h
    have hl : (conds n g c d s k).length = 12 := rfl
    exact ⟨_, _, _, _, NotedOk.cons hm hn, fun jt jh => upTo_eq _ _ (bad1 n g c d s k calls x jt jh) i (Nat.zero_le _) (by omega)⟩
theorem ok_of (m : Nat) (h1 : 1 ≤ m) (h7 : m ≤ 7) (g d s k x a e : Int) (jt : Nat → Value) (c : Nat) (hc : c ≤ 8) : okL m g d s k x a e jt c = some (.bool true, revN (okN m g d s k x a e c) []) := by
  have three : ∀ {m : Nat}, upTo (okL m g d s k x a e jt) 3 0 = upTo (fun c => some (.bool true, revN (okN m g d s k x a e c) [])) 3 0 → upTo (okL m g d s k x a e jt) 3 3 = upTo (fun c => some (.bool true, revN (okN m g d s k x a e c) [])) 3 3 → upTo (okL m g d s k x a e jt) 3 6 = upTo (fun c => some (.bool true, revN (okN m g d s k x a e c) [])) 3 6 → okL m g d s k x a e jt c = some (.bool true, revN (okN m g d s k x a e c) []) := by
    intro m p q r
    by_cases h3 : c < 3
    · exact upTo_eq _ _ p c (Nat.zero_le _) (by omega)
    by_cases h6 : c < 6
    · exact upTo_eq _ _ q c (by omega) (by omega)
    exact upTo_eq _ _ r c (by omega) (by omega)
  match m, h1, h7 with
  | 1, _, _ => exact three (ok1a g d s k x a e jt) (ok1b g d s k x a e jt) (ok1c g d s k x a e jt)
  | 2, _, _ => exact three (ok2a g d s k x a e jt) (ok2b g d s k x a e jt) (ok2c g d s k x a e jt)
  | 3, _, _ => exact three (ok3a g d s k x a e jt) (ok3b g d s k x a e jt) (ok3c g d s k x a e jt)
  | 4, _, _ => exact three (ok4a g d s k x a e jt) (ok4b g d s k x a e jt) (ok4c g d s k x a e jt)
  | 5, _, _ => exact three (ok5a g d s k x a e jt) (ok5b g d s k x a e jt) (ok5c g d s k x a e jt)
  | 6, _, _ => exact three (ok6a g d s k x a e jt) (ok6b g d s k x a e jt) (ok6c g d s k x a e jt)
  | 7, _, _ => exact three (ok7a g d s k x a e jt) (ok7b g d s k x a e jt) (ok7c g d s k x a e jt)
theorem part2 (n g c d s k x a e : Int) (jt : Nat → Value) : ∃ tp lg, NotedOk lg ∧ saidOf (fin (S n g c d s k x a e jt) tp) = some (.bool true, revN lg []) := by
  rcases conds_or (conds n g c d s k) with h | ⟨h, i, hi, hn⟩
  · have hm : may1 n g c d s k Tr := congrArg Value.bool h
    have hc := h
    simp only [conds, List.all_cons, List.all_nil, id, Bool.and_eq_true, and_true] at hc
    obtain ⟨c1, c2, c3, c4, c5, c6, c7, c8, c9, c10, c11, c12⟩ := hc
    obtain ⟨m, rfl, m1, m7⟩ := nat_of (lo := 1) (hi := 7) c1 c2
    obtain ⟨cc, rfl, _, cc8⟩ := nat_of (lo := 0) (hi := 8) c5 c6
    have hst : ∀ t, NotedOk t → NotedOk (startsN (.ofNat m) g (.ofNat cc) d s k a e t) := fun t ht => NotedOk.cons hm (condN_ok h (NotedOk.cons (eq_same a) (NotedOk.cons (eq_same e) ht)))
    rcases Int.lt_or_le x 0 with h0 | h0
    · exact ⟨_, _, NotedOk.cons hm (NotedOk.cons (low_yes h0) (condN_ok h (NotedOk.cons (low_yes h0) (hst _ (ffN_ok m _ NotedOk.nil))))), upTo_eq _ _ (low2 g (.ofNat cc) d s k x a e jt) m m1 (by omega)⟩
    · rcases Int.lt_or_le 1048576 x with hx | hx
      · exact ⟨_, _, NotedOk.cons hm (NotedOk.cons (low_no h0) (NotedOk.cons (top_yes hx) (condN_ok h (NotedOk.cons (low_no h0) (NotedOk.cons (top_yes hx) (hst _ (ffN_ok m _ NotedOk.nil))))))), upTo_eq _ _ (top2 g (.ofNat cc) d s k x a e jt) m m1 (by omega)⟩
      · exact ⟨_, _, NotedOk.cons hm (NotedOk.cons (low_no h0) (NotedOk.cons (top_no hx) (condN_ok h (NotedOk.cons (low_no h0) (NotedOk.cons (top_no hx) (hst _ (tickN_ok x m 0 _ (ffN_ok (cc + 3 + m) _ NotedOk.nil)))))))), ok_of m m1 m7 g d s k x a e jt cc cc8⟩
  · have hm : may1 n g c d s k F := congrArg Value.bool h
    have hl : (conds n g c d s k).length = 12 := rfl
    exact ⟨_, _, NotedOk.cons hm (NotedOk.append hn (NotedOk.cons hm (NotedOk.append hn (NotedOk.cons (eq_same a) (NotedOk.cons (eq_same e) NotedOk.nil))))), upTo_eq _ _ (bad2 n g c d s k x a e jt) i (Nat.zero_le _) (by omega)⟩
theorem vb : vflat 8 (.bool true) = true := rfl
theorem walk (W : World) (n g c d s k calls x : Int) : Calls Tryz.prog 3 #[cfg n g c d s k, i64 calls, i64 x] W fun e W' => e = .returned (.bool true) ∧ Below W.heap.size W W' := by
  obtain ⟨tp, lg, a0, e0, hlg, hah⟩ := part1 n g c d s k calls x
  obtain ⟨p1e, pr1⟩ := Prod.mk.inj (hah (fun _ => undef) (fun _ _ => undef))
  obtain ⟨p2e, _⟩ := Prod.mk.inj pr1
  refine calls_of_wp Tryz.func3 hasBody ?_
  have hT : TRel (muG 7) 84 (s0 n g c d s k calls x).1 (#[cfg n g c d s k, i64 calls, i64 x] ++ Array.replicate (Tryz.f3.ntmps - #[cfg n g c d s k, i64 calls, i64 x].size) undef) :=
    initT_rel (args := #[cfg n g c d s k, i64 calls, i64 x]) (args' := #[cfg n g c d s k, i64 calls, i64 x]) (n := 84) ⟨rfl, fun i h1 h2 => (match i, h1, h2 with
      | 0, _, _ => vflat_rel (muG 7) 8 _ rfl
      | 1, _, _ => .int _ _
      | 2, _, _ => .int _ _)⟩ (show 3 ≤ 84 by decide)
  refine goNC_wp (n := 84) (mk := mkR 3) (K := 1000) (k := 3) (x := ⟨s0 n g c d s k calls x, tp, [], true⟩) (y := p1 n g c d s k calls x tp) entersOk zerosOk CBok CCok DCok DBok k0 rfl p1e (by rw [p2e]; exact revN_ok _ _ hlg NotedOk.nil) hT (initRel 7 W) (muG_rel 7) ?_
  intro m1 a1 w1 g1 t1 d1 q1
  show rest.wp Tryz.prog _ a1 w1
  obtain ⟨m2, j2, _, g2, t2, q2⟩ := canon (S := shS (p1 n g c d s k calls x tp).s) (S2 := fun jt _ => S n g c d s k x a0 e0 jt) (fun _ => rfl) (fun jt jh => (Prod.mk.inj (Prod.mk.inj (hah jt jh)).2).2) t1 q1 g1
  obtain ⟨tp2, lg2, hlg2, h2⟩ := part2 n g c d s k x a0 e0 j2
  unfold saidOf at h2
  split at h2
  · rename_i o ho2
    simp only [Option.some.injEq, Prod.mk.injEq] at h2
    exact lastC_wp (n := 84) entersOk zerosOk CBok CCok DCok DBok plR okR vb ho2 h2.1 (by rw [h2.2]; exact revN_ok _ _ hlg2 NotedOk.nil) t2 q2 g2 d1
  · cases h2
theorem own : ownKnob Tryz.prog.godebug = none := by kernel_rfl
theorem laidOut : laidOutB Tryz.prog = true := by kernel_rfl
theorem rd3 : Tryz.f3.params.toList.all (fun t => Tryz.prog.readableRec t && Nat.blt t Tryz.prog.types.size) = true := by kernel_rfl
theorem int_of_ok {P : Program} {W : World} {r : Reach} {base : Nat} {t : TypeId} {k : IntKind} {v : Value} (ht : P.underlying t = some (.int k)) (h : Value.okWide P W r base t v) : ∃ n, v = .int k n := by
  unfold Value.okWide at h
  rw [ht] at h
  unfold Cell.okWide Cell.ok at h
  rw [ht] at h
  cases v <;> first | (obtain ⟨rfl, _⟩ := h; exact ⟨_, rfl⟩) | exact h.elim
theorem agg_of_ok {P : Program} {W : World} {r : Reach} {base : Nat} {t : TypeId} {fs : Array Field} {v : Value} (ht : P.underlying t = some (.struct fs)) (h : Value.okWide P W r base t v) : ∃ cs, v = .agg cs := by
  unfold Value.okWide at h
  rw [ht] at h
  obtain ⟨cs, rfl, _⟩ := h
  exact ⟨cs, rfl⟩
theorem contract (H : Type) (enc : TypeId × Value → H) (W : World) (base : Nat) (args : Array Value) (ds gs : List (DataW H)) (before : List MemPlace)
    (hval : ∀ (j : Nat) t v, Tryz.f3.params[j]? = some t → args[j]? = some v → Value.okWide Tryz.prog W .any base t v)
    (hW : DataW.Whole enc Tryz.prog Tryz.f3.params.toList Rows.boundRoundsSpec.vars false W args.toList ds gs before) :
    Calls Tryz.prog 3 args W fun e W' => ∃ v, e = .returned v ∧ Rows.boundRoundsSpec.post enc Tryz.prog Tryz.f3 false true false false W args v W' := by
  have hW' := hW
  obtain ⟨p, q, hA0, hV, rfl, hfz, hnd⟩ := hW
  have hA : DataW.TrodAll enc Tryz.prog W 0 (fun _ => true) true Tryz.f3.params.toList args.toList ds p := hA0
  rw [Tryz.params3] at hA hval
  obtain ⟨v0, vs0, d0, ds0, p0, q0, hargs, rfl, rfl, h0, r0⟩ := trodAll_cons hA
  obtain ⟨v1, vs1, d1, ds1, p1, q1, rfl, rfl, rfl, h1, r1⟩ := trodAll_cons r0
  obtain ⟨v2, vs2, d2, ds2, p2, q2, rfl, rfl, rfl, h2, r2⟩ := trodAll_cons r1
  obtain ⟨rfl, rfl, rfl⟩ := trodAll_nil r2
  obtain rfl : args = #[v0, v1, v2] := by cases args; simp_all
  obtain ⟨rfl, rfl⟩ := trodVars_none hV
  obtain ⟨calls, rfl⟩ := int_of_ok Tryz.underlying3 (hval 1 3 v1 (by simp) (by simp))
  obtain ⟨x, rfl⟩ := int_of_ok Tryz.underlying3 (hval 2 3 v2 (by simp) (by simp))
  obtain ⟨cs, rfl⟩ := agg_of_ok Tryz.underlying23 (hval 0 23 v0 (by simp) (by simp))
  obtain ⟨fuel, hf⟩ := h0
  obtain ⟨n, g, c, d, s, k, hcs⟩ := six_of _ (trod_leaves 30 23 ks6 leaves23 _ _ _ hf)
  obtain rfl : cs = ⟨[i64 n, i64 g, i64 c, i64 d, i64 s, i64 k]⟩ := by
    cases cs
    exact congrArg Array.mk hcs
  refine (walk W n g c d s k calls x).mono fun e W' ⟨he, hb⟩ => ?_
  subst he
  exact ⟨_, rfl, post_true laidOut rd3 hW' rfl rfl rfl rfl (by kernel_rfl) Tryz.underlying4 hb⟩

def dcells : Nat → DataW Unit → List Value
  | _, .lit (.int k n) => [.int k n]
  | f + 1, .agg l => l.flatMap (dcells f)
  | _, _ => []
/-- A WORLD FOR THE WITNESS. -/
noncomputable def laidWorld (os : Os) : World :=
  let w0 := World.holding Tryz.prog os ⟨#[.cells #[.string ⟨#[118, 97, 108, 117, 101, 32, 111, 117, 116, 32, 111, 102, 32, 114, 97, 110, 103, 101]⟩] 286 (0, 0), .cells #[.string ⟨#[105, 110, 118, 97, 108, 105, 100, 32, 115, 121, 110, 116, 97, 120]⟩] 286 (0, 0)], #[], []⟩
  let e := (World.settled Tryz.prog os).heap.size
  let put (h : Array Obj) (g : Nat) (cs : List Value) : Array Obj := h.modify g fun
    | .cells _ t frozen => .cells cs.toArray t frozen
    | o => o
  { w0 with heap := put (put (put (put (put (put (put w0.heap 3 (dcells 3 Rows.laid_unicode_utf8_first)) 4 (dcells 3 Rows.laid_unicode_utf8_acceptRanges)) 2 (dcells 3 Rows.laid_internal_strconv_uint64pow10)) 5 (dcells 3 Rows.laid_math_bits_deBruijn32tab)) 6 (dcells 3 Rows.laid_math_bits_deBruijn64tab)) 1 [.iface 284 (.pointer (some ⟨e, 0, none⟩))]) 0 [.iface 284 (.pointer (some ⟨e + 1, 0, none⟩))] }
noncomputable def wargs : Array Value := #[cfg 0 0 0 0 0 0, .int .i64 0, .int .i64 0]
theorem laid_met (os : Os) : laidMet Tryz.prog Rows.boundRoundsRow.laid ((laidWorld os).forCall (fun _ _ => 0) ⟨#[], wargs, []⟩).memory :=
  laidMet_of_run3 8 (by kernel_rfl) (by kernel_rfl) (by kernel_rfl)
theorem reads (os : Os) {H : Type} (enc : TypeId × Value → H) : ∃ places, DataW.whole enc Tryz.prog ((laidWorld os).forCall (fun _ _ => 0) ⟨#[], wargs, []⟩).memory Tryz.f3.params.toList Rows.boundRoundsSpec.vars false wargs.toList 8 =
    some ([.agg [.lit (.int .i64 0), .lit (.int .i64 0), .lit (.int .i64 0), .lit (.int .i64 0), .lit (.int .i64 0), .lit (.int .i64 0)], .lit (.int .i64 0), .lit (.int .i64 0)], [], places) :=
  ⟨[], by kernel_rfl⟩
set_option maxRecDepth 100000 in
theorem lifted (os : Os) (started : os.Started) (H : Type) (enc : TypeId × Value → H) (F : Stop.Interp) :
    ReturnsInHanded {} Tryz.checked os 3 .any ((OpenSpec.ofChange Rows.boundRoundsSpec).preRow enc Tryz.prog Tryz.f3 Rows.boundRoundsRow.domain false Rows.boundRoundsRow.laid) (((OpenSpec.ofChange Rows.boundRoundsSpec).at F).post enc Tryz.prog Tryz.f3 false true false false) := by
  obtain ⟨places, hx⟩ := reads os enc
  refine returnsInHanded_of_row (C := Tryz.checked) (s := OpenSpec.ofChange Rows.boundRoundsSpec) own started (by kernel_rfl) Tryz.func3
    (witness_row_at (enc := enc) (C := Tryz.checked) false (laidWorld os) wargs rfl (by kernel_rfl) (by kernel_rfl) (by kernel_rfl)
      (OpenSpec.preRow_of_cond 8 hx (by kernel_rfl) (fun k hk => by cases hk) (by kernel_rfl) (laid_met os))) ?_
  intro W base args ds gs before hval hW _ _ _ _ _ _
  exact contract H enc W base args ds gs before hval hW
theorem said : Rows.BoundRoundsSaid :=
  OpenClaim.holds_of_cond 3 Tryz.f3 rfl rfl rfl rfl rfl rfl rfl ⟨rfl, rfl, rfl, rfl, rfl⟩ rfl rfl rfl rfl rfl (by kernel_rfl) Tryz.func3 (by kernel_rfl)
    (of_decide_eq_true (by kernel_rfl)) (by unfold Func.isWrapper; first | (rw [if_pos (by decide +kernel)]; kernel_rfl) | (rw [if_neg (by decide +kernel)]; exact ⟨rfl, rfl⟩))
    (fun os started H enc _ F => by rw [OpenClaim.pre_eq_preRow]; exact lifted os started H enc F)
/-- No parameter wants a stand-in; the program's own looks are on: what both cards ask. -/
theorem plain (f : FuncId) (fn : Func) (hf : Tryz.pinned.checked.prog.funcNamed "rookery/rookerylaw20.BoundRounds" = some f) (hfn : Tryz.pinned.checked.prog.funcs[f]? = some fn) :
    true = Tryz.pinned.checked.prog.looks [] ∧ ∀ (j : Nat) t, fn.params[j]? = some t → Tryz.pinned.checked.prog.wantsStandIn t = false := by
  obtain rfl : f = 3 := Option.some.inj ((show Tryz.prog.funcNamed "rookery/rookerylaw20.BoundRounds" = some 3 by kernel_rfl).symm.trans hf) |>.symm
  obtain rfl : fn = Tryz.f3 := (Option.some.inj (Tryz.func3.symm.trans hfn)).symm
  refine ⟨by kernel_rfl, fun j t ht => ?_⟩
  rw [Tryz.params3] at ht
  have h2 : t = 23 ∨ t = 3 := by simpa using Array.mem_of_getElem? ht
  rcases h2 with rfl | rfl
  · exact (show Tryz.prog.wantsStandIn 23 = false by kernel_rfl)
  · exact (show Tryz.prog.wantsStandIn 3 = false by kernel_rfl)
/-- ████ THE CARD ████ -/
theorem card : Rows.BoundRoundsCardSaid :=
  Claim7.holds_tied_plain_at .later [] _ _ _ _ said (fun _ h => by cases h) (by kernel_rfl) (fun _ h => by cases h) boundRounds_row_tie rfl ⟨rfl, rfl⟩ (by kernel_rfl) rfl plain (by kernel_rfl)
end Go.Proofs.YtpolblnbenncmaaGreatDoor.boundRounds
