/- FanGone is proved: a channel that is gone is told to be gone, at any number of pages ahead; the package-level tables that the row lists are tied to the text by the card. -/
import Derived.Test.YtbkgnlcjnimpcaaDoorAbV
import Derived.Test.YtbkgnlcjnimpcaaDoorFanGoneB
import Derived.Test.YtbkgnlcjnimpcaaDoorFanGoneC
import Derived.Test.YtbkgnlcjnimpcaaDoorFanGoneD
import Derived.Test.YtbkgnlcjnimpcaaDoorFanGoneE
import Derived.Test.YtbkgnlcjnimpcaaDoorCards
import Derived.Test.YtbkgnlcjnimpcaaDoorTie
import Derived.WalkKit
namespace Go.Proofs.YtbkgnlcjnimpcaaDoor.fanGone
open Go Go.Ab Go.ChangeShapes Go.WideShapes Go.ChangeAt Go.RowKit

theorem own : ownKnob Tryd.prog.godebug = none := by kernel_rfl
theorem vb : vflat 8 (.bool true) = true := rfl
theorem laidOut : laidOutB Tryd.prog = true := by kernel_rfl
theorem rd4 : Tryd.f4.params.toList.all (fun t => Tryd.prog.readableRec t && Nat.blt t Tryd.prog.types.size) = true := by kernel_rfl

theorem int_of_ok {P : Program} {W : World} {r : Reach} {base : Nat} {t : TypeId} {k : IntKind} {v : Value} (ht : P.underlying t = some (.int k)) (h : Value.okWide P W r base t v) : ∃ n, v = .int k n := by
  unfold Value.okWide at h
  rw [ht] at h
  unfold Cell.okWide Cell.ok at h
  rw [ht] at h
  cases v <;> first | (obtain ⟨rfl, _⟩ := h; exact ⟨_, rfl⟩) | exact h.elim
theorem ends_all (n : Int) : ∀ k : Nat, k < 16 → ends n k = some (.bool true)
  | 0, _ => end0 n
  | 1, _ => end1 n
  | 2, _ => end2 n
  | 3, _ => end3 n
  | 4, _ => end4 n
  | 5, _ => end5 n
  | 6, _ => end6 n
  | 7, _ => end7 n
  | 8, _ => end8 n
  | 9, _ => end9 n
  | 10, _ => end10 n
  | 11, _ => end11 n
  | 12, _ => end12 n
  | 13, _ => end13 n
  | 14, _ => end14 n
  | 15, _ => end15 n
  | k + 16, h => absurd h (by omega)
set_option maxRecDepth 100000 in
theorem walk (W : World) (n : Int) : Calls Tryd.prog 4 #[.int .i64 n] W fun e W' => e = .returned (.bool true) ∧ Below W.heap.size W W' := by
  obtain ⟨k, hk, hl⟩ := low4_lt n
  refine calls_of_wp Tryd.func4 hasBody ?_
  rw [e0]
  have hT : TRel (muG 8) 142 (s0 n).1 (#[Value.int .i64 n] ++ Array.replicate (Tryd.f4.ntmps - #[Value.int .i64 n].size) undef) :=
    initT_rel (args := #[.int .i64 n]) (args' := #[.int .i64 n]) (n := 142) ⟨rfl, fun i h1 h2 => (match i, h1, h2 with | 0, _, _ => .int _ _)⟩ (by simp)
  refine stp_wp (n := 142) (K := 900) (s := s0 n) entersOk zerosOk calleeOk drwOk k0 (o0 n) hT (initRel 8 W) (muG_rel 8) ?_
  intro m1 a1 w1 g1 t1 d1 q1
  rw [e1]
  refine stp_wp (n := 142) (K := 900) (s := s1 n) entersOk zerosOk calleeOk drwOk k1 (o1 n) t1 q1 g1 ?_
  intro m2 a2 w2 g2 t2 d2 q2
  rw [e2]
  refine stp_wp (n := 142) (K := 900) (s := s2 n) entersOk zerosOk calleeOk drwOk k2 (o2 n) t2 q2 g2 ?_
  intro m3 a3 w3 g3 t3 d3 q3
  rw [e3]
  refine stp_wp (n := 142) (K := 900) (s := s3 n) entersOk zerosOk calleeOk drwOk k3 (o3 n) t3 q3 g3 ?_
  intro m4 a4 w4 g4 t4 d4 q4
  have t5 : TRel m4 142 (at5 n k).1 a4.tmps := by
    have := t4.name (slot n)
    rw [hl] at this
    exact this
  exact fin_wp (n := 142) (K := 900) (s := at5 n k) entersOk zerosOk calleeOk drwOk k4 vb (ends_all n k hk) t5 q4 g4 (by rw [d4, d3, d2, d1])
set_option maxRecDepth 100000 in
theorem contract (H : Type) (enc : TypeId × Value → H) (W : World) (base : Nat) (args : Array Value) (ds gs : List (DataW H)) (before : List MemPlace)
    (hval : ∀ (j : Nat) t v, Tryd.f4.params[j]? = some t → args[j]? = some v → Value.okWide Tryd.prog W .any base t v)
    (hW : DataW.Whole enc Tryd.prog Tryd.f4.params.toList Rows.fanGoneSpec.vars false W args.toList ds gs before) :
    Calls Tryd.prog 4 args W fun e W' => ∃ v, e = .returned v ∧ Rows.fanGoneSpec.post enc Tryd.prog Tryd.f4 false true false false W args v W' := by
  have hW' := hW
  obtain ⟨p, q, hA0, hV, rfl, hfz, hnd⟩ := hW
  have hA : DataW.TrodAll enc Tryd.prog W 0 (fun _ => true) true Tryd.f4.params.toList args.toList ds p := hA0
  rw [Tryd.params4] at hA hval
  obtain ⟨v0, vs0, d0, ds0, p0, q0, hargs, rfl, rfl, h0, r0⟩ := trodAll_cons hA
  obtain ⟨rfl, rfl, rfl⟩ := trodAll_nil r0
  obtain rfl : args = #[v0] := by cases args; simp_all
  obtain ⟨rfl, rfl⟩ := trodVars_none hV
  obtain ⟨n, rfl⟩ := int_of_ok Tryd.underlying3 (hval 0 3 v0 (by simp) (by simp))
  refine (walk W n).mono fun e W' ⟨he, hb⟩ => ?_
  subst he
  exact ⟨_, rfl, post_true laidOut rd4 hW' rfl rfl rfl rfl (by kernel_rfl) Tryd.underlying4 hb⟩

def dcells : Nat → DataW Unit → List Value
  | _, .lit (.int k n) => [.int k n]
  | f + 1, .agg l => l.flatMap (dcells f)
  | _, _ => []
/-- A WORLD FOR THE WITNESS. -/
noncomputable def laidWorld (os : Os) : World :=
  let w0 := World.holding Tryd.prog os ⟨#[], #[], []⟩
  let put (h : Array Obj) (g : Nat) (cs : List Value) : Array Obj := h.modify g fun
    | .cells _ t frozen => .cells cs.toArray t frozen
    | o => o
  { w0 with heap := put (put (put (put (put w0.heap 0 (dcells 3 Rows.laid_unicode_utf8_first)) 1 (dcells 3 Rows.laid_unicode_utf8_acceptRanges)) 5 (dcells 3 Rows.laid_internal_strconv_uint64pow10)) 6 (dcells 3 Rows.laid_math_bits_deBruijn32tab)) 7 (dcells 3 Rows.laid_math_bits_deBruijn64tab) }
noncomputable def wargs : Array Value := #[.int .i64 0]
theorem laid_met (os : Os) : laidMet Tryd.prog Rows.fanGoneRow.laid ((laidWorld os).forCall (fun _ _ => 0) ⟨#[], wargs, []⟩).memory :=
  laidMet_of_run3 8 (by kernel_rfl) (by kernel_rfl) (by kernel_rfl)
theorem reads (os : Os) {H : Type} (enc : TypeId × Value → H) : ∃ places, DataW.whole enc Tryd.prog ((laidWorld os).forCall (fun _ _ => 0) ⟨#[], wargs, []⟩).memory Tryd.f4.params.toList Rows.fanGoneSpec.vars false wargs.toList 8 =
    some ([.lit (.int .i64 0)], [], places) :=
  ⟨[], by kernel_rfl⟩
set_option maxRecDepth 100000 in
theorem lifted (os : Os) (started : os.Started) (H : Type) (enc : TypeId × Value → H) (F : Stop.Interp) :
    ReturnsInHanded {} Tryd.checked os 4 .any ((OpenSpec.ofChange Rows.fanGoneSpec).preRow enc Tryd.prog Tryd.f4 Rows.fanGoneRow.domain false Rows.fanGoneRow.laid) (((OpenSpec.ofChange Rows.fanGoneSpec).at F).post enc Tryd.prog Tryd.f4 false true false false) := by
  obtain ⟨places, hx⟩ := reads os enc
  refine returnsInHanded_of_row (C := Tryd.checked) (s := OpenSpec.ofChange Rows.fanGoneSpec) own started (by kernel_rfl) Tryd.func4
    (witness_row_at (enc := enc) (C := Tryd.checked) false (laidWorld os) wargs rfl (by kernel_rfl) (by kernel_rfl) (by kernel_rfl)
      (OpenSpec.preRow_of_cond 8 hx (by kernel_rfl) (fun k hk => by cases hk) (by kernel_rfl) (laid_met os))) ?_
  intro W base args ds gs before hval hW _ _ _ _ _ _
  exact contract H enc W base args ds gs before hval hW
theorem said : Rows.FanGoneSaid :=
  OpenClaim.holds_of_cond 4 Tryd.f4 rfl rfl rfl rfl rfl rfl rfl ⟨rfl, rfl, rfl, rfl, rfl⟩ rfl rfl rfl rfl rfl (by kernel_rfl) Tryd.func4 (by kernel_rfl)
    (of_decide_eq_true (by kernel_rfl)) (by unfold Func.isWrapper; first | (rw [if_pos (by decide +kernel)]; kernel_rfl) | (rw [if_neg (by decide +kernel)]; exact ⟨rfl, rfl⟩))
    (fun os started H enc _ F => by rw [OpenClaim.pre_eq_preRow]; exact lifted os started H enc F)
/-- No parameter wants a stand-in; the program's own looks are off: what both cards ask. -/
theorem plain (f : FuncId) (fn : Func) (hf : Tryd.pinned.checked.prog.funcNamed "rookery/rookerylaw19.FanGone" = some f) (hfn : Tryd.pinned.checked.prog.funcs[f]? = some fn) :
    true = Tryd.pinned.checked.prog.looks [] ∧ ∀ (j : Nat) t, fn.params[j]? = some t → Tryd.pinned.checked.prog.wantsStandIn t = false := by
  obtain rfl : f = 4 := Option.some.inj ((show Tryd.prog.funcNamed "rookery/rookerylaw19.FanGone" = some 4 by kernel_rfl).symm.trans hf) |>.symm
  obtain rfl : fn = Tryd.f4 := (Option.some.inj (Tryd.func4.symm.trans hfn)).symm
  refine ⟨by kernel_rfl, fun j t ht => ?_⟩
  rw [Tryd.params4] at ht
  obtain rfl : t = 3 := by simpa using Array.mem_of_getElem? ht
  exact (show Tryd.prog.wantsStandIn 3 = false by kernel_rfl)
/-- ████ THE CARD ████ -/
theorem card : Rows.FanGoneCardSaid :=
  Claim7.holds_tied_plain_at .later [] _ _ _ _ said (fun _ h => by cases h) (by kernel_rfl) (fun _ h => by cases h) fanGone_row_tie rfl ⟨rfl, rfl⟩ (by kernel_rfl) rfl plain (by kernel_rfl)
end Go.Proofs.YtbkgnlcjnimpcaaDoor.fanGone
