/- NodeConfigs: its contract, a world for the witness. -/
import Derived.Test.YtdkomnkcemmdoaaGreatDoorNcM
import Derived.Test.YtdkomnkcemmdoaaGreatDoorRows
import Derived.WalkKit
namespace Go.Proofs.YtdkomnkcemmdoaaGreatDoor.nodeConfigs
open Go Go.Ab Go.ChangeShapes Go.WideShapes Go.ChangeAt Go.RowKit

theorem own : ownKnob Tryz.prog.godebug = none := by kernel_rfl
theorem vb : vflat 8 (.bool true) = true := rfl
theorem laidOut : laidOutB Tryz.prog = true := by kernel_rfl
theorem rd3 : Tryz.f3.params.toList.all (fun t => Tryz.prog.readableRec t && Nat.blt t Tryz.prog.types.size) = true := by kernel_rfl

theorem int_of_ok {P : Program} {W : World} {r : Reach} {base : Nat} {t : TypeId} {k : IntKind} {v : Value} (ht : P.underlying t = some (.int k)) (h : Value.okWide P W r base t v) : ∃ n, v = .int k n := by
  unfold Value.okWide at h
  rw [ht] at h
  unfold Cell.okWide Cell.ok at h
  rw [ht] at h
  cases v <;> first | (obtain ⟨rfl, _⟩ := h; exact ⟨_, rfl⟩) | exact h.elim
theorem agg_of_ok {P : Program} {W : World} {r : Reach} {base : Nat} {t : TypeId} {fs : Array Field} {v : Value} (ht : P.underlying t = some (.struct fs)) (h : Value.okWide P W r base t v) : ∃ cs, v = .agg cs := by
  unfold Value.okWide at h
  rw [ht] at h
  obtain ⟨cs, rfl, _⟩ := h
  exact ⟨cs, rfl⟩
def ks6 : List LK := [.i .i64, .i .i64, .i .i64, .i .i64, .i .i64, .i .i64]
theorem leaves23 : leavesK Tryz.prog 30 23 = some ks6 := by kernel_rfl
theorem six_of : ∀ l : List Value, AllOk ks6 l → ∃ n g c d s k, l = [i64 n, i64 g, i64 c, i64 d, i64 s, i64 k] := by
  intro l h
  match l, h with
  | [_, _, _, _, _, _], ⟨⟨n, rfl⟩, ⟨g, rfl⟩, ⟨c, rfl⟩, ⟨d, rfl⟩, ⟨s, rfl⟩, ⟨k, rfl⟩, _⟩ => exact ⟨n, g, c, d, s, k, rfl⟩
set_option maxRecDepth 100000 in
theorem contract (H : Type) (enc : TypeId × Value → H) (W : World) (base : Nat) (args : Array Value) (ds gs : List (DataW H)) (before : List MemPlace)
    (hval : ∀ (j : Nat) t v, Tryz.f3.params[j]? = some t → args[j]? = some v → Value.okWide Tryz.prog W .any base t v)
    (hW : DataW.Whole enc Tryz.prog Tryz.f3.params.toList Rows.nodeConfigsSpec.vars false W args.toList ds gs before) :
    Calls Tryz.prog 3 args W fun e W' => ∃ v, e = .returned v ∧ Rows.nodeConfigsSpec.post enc Tryz.prog Tryz.f3 false true false false W args v W' := by
  have hW' := hW
  obtain ⟨p, q, hA0, hV, rfl, hfz, hnd⟩ := hW
  have hA : DataW.TrodAll enc Tryz.prog W 0 (fun _ => true) true Tryz.f3.params.toList args.toList ds p := hA0
  rw [Tryz.params3] at hA hval
  obtain ⟨v0, vs0, d0, ds0, p0, q0, hargs, rfl, rfl, h0, r0⟩ := trodAll_cons hA
  obtain ⟨v1, vs1, d1, ds1, p1, q1, rfl, rfl, rfl, h1, r1⟩ := trodAll_cons r0
  obtain ⟨v2, vs2, d2, ds2, p2, q2, rfl, rfl, rfl, h2, r2⟩ := trodAll_cons r1
  obtain ⟨rfl, rfl, rfl⟩ := trodAll_nil r2
  obtain rfl : args = #[v0, v1, v2] := by cases args; simp_all
  obtain ⟨rfl, rfl⟩ := trodVars_none hV
  obtain ⟨id, rfl⟩ := int_of_ok Tryz.underlying3 (hval 1 3 v1 (by simp) (by simp))
  obtain ⟨dr, rfl⟩ := int_of_ok Tryz.underlying3 (hval 2 3 v2 (by simp) (by simp))
  obtain ⟨cs, rfl⟩ := agg_of_ok Tryz.underlying23 (hval 0 23 v0 (by simp) (by simp))
  obtain ⟨fuel, hf⟩ := h0
  obtain ⟨n, g, c, d, s, k, hcs⟩ := six_of _ (trod_leaves 30 23 ks6 leaves23 _ _ _ hf)
  obtain rfl : cs = ⟨[i64 n, i64 g, i64 c, i64 d, i64 s, i64 k]⟩ := by
    cases cs
    exact congrArg Array.mk hcs
  have walk : Calls Tryz.prog 3 #[cfg n g c d s k, i64 id, i64 dr] W fun e W' => e = .returned (.bool true) ∧ Below W.heap.size W W' := (law_ok n g c d s k id dr).2.2 W
  refine walk.mono fun e W' ⟨he, hb⟩ => ?_
  subst he
  exact ⟨_, rfl, post_true laidOut rd3 hW' rfl rfl rfl rfl (by kernel_rfl) Tryz.underlying4 hb⟩

def dcells : Nat → DataW Unit → List Value
  | _, .lit (.int k n) => [.int k n]
  | f + 1, .agg l => l.flatMap (dcells f)
  | _, _ => []
/-- A WORLD FOR THE WITNESS. -/
noncomputable def laidWorld (os : Os) : World :=
  let w0 := World.holding Tryz.prog os ⟨#[], #[], []⟩
  let put (h : Array Obj) (g : Nat) (cs : List Value) : Array Obj := h.modify g fun
    | .cells _ t frozen => .cells cs.toArray t frozen
    | o => o
  let n := w0.heap.size
  let h1 := put (put (put w0.heap 4 (dcells 3 Rows.laid_internal_strconv_uint64pow10)) 5 (dcells 3 Rows.laid_math_bits_deBruijn32tab)) 6 (dcells 3 Rows.laid_math_bits_deBruijn64tab)
  let h2 := put (put h1 2 (dcells 3 Rows.laid_unicode_utf8_first)) 3 (dcells 3 Rows.laid_unicode_utf8_acceptRanges)
  let h3 := put (put h2 0 [.iface 425 (.pointer (some ⟨n, 0, none⟩))]) 1 [.iface 425 (.pointer (some ⟨n + 1, 0, none⟩))]
  { w0 with heap := (h3.push (.cells #[.string ⟨#[105, 110, 118, 97, 108, 105, 100, 32, 115, 121, 110, 116, 97, 120]⟩] 427)).push (.cells #[.string ⟨#[118, 97, 108, 117, 101, 32, 111, 117, 116, 32, 111, 102, 32, 114, 97, 110, 103, 101]⟩] 427) }
noncomputable def wargs : Array Value := #[cfg 0 0 0 0 0 0, .int .i64 0, .int .i64 0]
theorem laid_met (os : Os) : laidMet Tryz.prog Rows.nodeConfigsRow.laid ((laidWorld os).forCall (fun _ _ => 0) ⟨#[], wargs, []⟩).memory :=
  laidMet_of_run3 8 (by kernel_rfl) (by kernel_rfl) (by kernel_rfl)
theorem reads (os : Os) {H : Type} (enc : TypeId × Value → H) : ∃ places, DataW.whole enc Tryz.prog ((laidWorld os).forCall (fun _ _ => 0) ⟨#[], wargs, []⟩).memory Tryz.f3.params.toList Rows.nodeConfigsSpec.vars false wargs.toList 8 =
    some ([.agg [.lit (.int .i64 0), .lit (.int .i64 0), .lit (.int .i64 0), .lit (.int .i64 0), .lit (.int .i64 0), .lit (.int .i64 0)], .lit (.int .i64 0), .lit (.int .i64 0)], [], places) :=
  ⟨[], by kernel_rfl⟩
set_option maxRecDepth 100000 in
theorem lifted (os : Os) (started : os.Started) (H : Type) (enc : TypeId × Value → H) (F : Stop.Interp) :
    ReturnsInHanded {} Tryz.checked os 3 .any ((OpenSpec.ofChange Rows.nodeConfigsSpec).preRow enc Tryz.prog Tryz.f3 Rows.nodeConfigsRow.domain false Rows.nodeConfigsRow.laid) (((OpenSpec.ofChange Rows.nodeConfigsSpec).at F).post enc Tryz.prog Tryz.f3 false true false false) := by
  obtain ⟨places, hx⟩ := reads os enc
  refine returnsInHanded_of_row (C := Tryz.checked) (s := OpenSpec.ofChange Rows.nodeConfigsSpec) own started (by kernel_rfl) Tryz.func3
    (witness_row_at (enc := enc) (C := Tryz.checked) false (laidWorld os) wargs rfl (by kernel_rfl) (by kernel_rfl) (by kernel_rfl)
      (OpenSpec.preRow_of_cond 8 hx (by kernel_rfl) (fun k hk => by cases hk) (by kernel_rfl) (laid_met os))) ?_
  intro W base args ds gs before hval hW _ _ _ _ _ _
  exact contract H enc W base args ds gs before hval hW
end Go.Proofs.YtdkomnkcemmdoaaGreatDoor.nodeConfigs
