/- NodeNobody: its run, its contract, a world for the witness. -/
import Derived.Test.YtdkomnkcemmdoaaGreatDoorNodeC
import Derived.Test.YtdkomnkcemmdoaaGreatDoorRows
import Derived.WalkKit
namespace Go.Proofs.YtdkomnkcemmdoaaGreatDoor.nodeNobody
open Go Go.Ab Go.ChangeShapes Go.WideShapes Go.ChangeAt Go.RowKit

theorem own : ownKnob Tryz.prog.godebug = none := by kernel_rfl
theorem vb : vflat 8 (.bool true) = true := rfl
theorem laidOut : laidOutB Tryz.prog = true := by kernel_rfl
noncomputable def knZ : Known := orK (memoK [node.awakeM]) node.knN
theorem knZok : CallSound Tryz.prog 7 knZ.call := orK_sound (memoK_sound (fun x hx => by rw [List.mem_singleton] at hx; rw [hx]; exact node.awakeOk)) node.knNok
set_option maxRecDepth 100000 in
theorem runs : (callOf (richQ knZ 3) 4 #[un, un] (bareOf 7)).map (·.1) = some (.bool true) := by kernel_rfl
theorem rd4 : Tryz.f4.params.toList.all (fun t => Tryz.prog.readableRec t && Nat.blt t Tryz.prog.types.size) = true := by kernel_rfl

set_option maxRecDepth 100000 in
theorem contract (H : Type) (enc : TypeId × Value → H) (W : World) (base : Nat) (args : Array Value) (ds gs : List (DataW H)) (before : List MemPlace)
    (hval : ∀ (j : Nat) t v, Tryz.f4.params[j]? = some t → args[j]? = some v → Value.okWide Tryz.prog W .any base t v)
    (hW : DataW.Whole enc Tryz.prog Tryz.f4.params.toList Rows.nodeNobodySpec.vars false W args.toList ds gs before) :
    Calls Tryz.prog 4 args W fun e W' => ∃ v, e = .returned v ∧ Rows.nodeNobodySpec.post enc Tryz.prog Tryz.f4 false true false false W args v W' := by
  have hW' := hW
  obtain ⟨p, q, hA0, hV, rfl, hfz, hnd⟩ := hW
  have hA : DataW.TrodAll enc Tryz.prog W 0 (fun _ => true) true Tryz.f4.params.toList args.toList ds p := hA0
  rw [Tryz.params4] at hA hval
  obtain ⟨v0, vs0, d0, ds0, p0, q0, hargs, rfl, rfl, h0, r0⟩ := trodAll_cons hA
  obtain ⟨v1, vs1, d1, ds1, p1, q1, rfl, rfl, rfl, h1, r1⟩ := trodAll_cons r0
  obtain ⟨rfl, rfl, rfl⟩ := trodAll_nil r1
  obtain rfl : args = #[v0, v1] := by cases args; simp_all
  obtain ⟨rfl, rfl⟩ := trodVars_none hV
  have a0 := any_cell (m := muG 7) Tryz.underlying9 rfl (hval 0 9 v0 (by simp) (by simp))
  have a1 := any_cell (m := muG 7) Tryz.underlying3 rfl (hval 1 3 v1 (by simp) (by simp))
  refine (calls_of_run (richQ_sound knZok 3) vb runs (W := W) (args := #[v0, v1]) ⟨rfl, fun i h1 h2 => ?_⟩).mono fun e W' ⟨he, hb⟩ => ?_
  · match i, h1, h2 with
    | 0, _, _ => exact a0
    | 1, _, _ => exact a1
  · subst he
    exact ⟨_, rfl, post_true laidOut rd4 hW' rfl rfl rfl rfl (by kernel_rfl) Tryz.underlying4 hb⟩

def dcells : Nat → DataW Unit → List Value
  | _, .lit (.int k n) => [.int k n]
  | f + 1, .agg l => l.flatMap (dcells f)
  | _, _ => []
/-- A WORLD FOR THE WITNESS. -/
noncomputable def laidWorld (os : Os) : World :=
  let w0 := World.holding Tryz.prog os ⟨#[], #[], []⟩
  let put (h : Array Obj) (g : Nat) (cs : List Value) : Array Obj := h.modify g fun
    | .cells _ t frozen => .cells cs.toArray t frozen
    | o => o
  let n := w0.heap.size
  let h1 := put (put (put w0.heap 4 (dcells 3 Rows.laid_internal_strconv_uint64pow10)) 5 (dcells 3 Rows.laid_math_bits_deBruijn32tab)) 6 (dcells 3 Rows.laid_math_bits_deBruijn64tab)
  let h2 := put (put h1 2 (dcells 3 Rows.laid_unicode_utf8_first)) 3 (dcells 3 Rows.laid_unicode_utf8_acceptRanges)
  let h3 := put (put h2 0 [.iface 425 (.pointer (some ⟨n, 0, none⟩))]) 1 [.iface 425 (.pointer (some ⟨n + 1, 0, none⟩))]
  { w0 with heap := (h3.push (.cells #[.string ⟨#[105, 110, 118, 97, 108, 105, 100, 32, 115, 121, 110, 116, 97, 120]⟩] 427)).push (.cells #[.string ⟨#[118, 97, 108, 117, 101, 32, 111, 117, 116, 32, 111, 102, 32, 114, 97, 110, 103, 101]⟩] 427) }
noncomputable def wargs : Array Value := #[.string ⟨#[]⟩, .int .i64 0]
theorem laid_met (os : Os) : laidMet Tryz.prog Rows.nodeNobodyRow.laid ((laidWorld os).forCall (fun _ _ => 0) ⟨#[], wargs, []⟩).memory :=
  laidMet_of_run3 8 (by kernel_rfl) (by kernel_rfl) (by kernel_rfl)
theorem reads (os : Os) {H : Type} (enc : TypeId × Value → H) : ∃ places, DataW.whole enc Tryz.prog ((laidWorld os).forCall (fun _ _ => 0) ⟨#[], wargs, []⟩).memory Tryz.f4.params.toList Rows.nodeNobodySpec.vars false wargs.toList 8 =
    some ([.lit (.string []), .lit (.int .i64 0)], [], places) :=
  ⟨[], by kernel_rfl⟩
set_option maxRecDepth 100000 in
theorem lifted (os : Os) (started : os.Started) (H : Type) (enc : TypeId × Value → H) (F : Stop.Interp) :
    ReturnsInHanded {} Tryz.checked os 4 .any ((OpenSpec.ofChange Rows.nodeNobodySpec).preRow enc Tryz.prog Tryz.f4 Rows.nodeNobodyRow.domain false Rows.nodeNobodyRow.laid) (((OpenSpec.ofChange Rows.nodeNobodySpec).at F).post enc Tryz.prog Tryz.f4 false true false false) := by
  obtain ⟨places, hx⟩ := reads os enc
  refine returnsInHanded_of_row (C := Tryz.checked) (s := OpenSpec.ofChange Rows.nodeNobodySpec) own started (by kernel_rfl) Tryz.func4
    (witness_row_at (enc := enc) (C := Tryz.checked) false (laidWorld os) wargs rfl (by kernel_rfl) (by kernel_rfl) (by kernel_rfl)
      (OpenSpec.preRow_of_cond 8 hx (by kernel_rfl) (fun k hk => by cases hk) (by kernel_rfl) (laid_met os))) ?_
  intro W base args ds gs before hval hW _ _ _ _ _ _
  exact contract H enc W base args ds gs before hval hW
end Go.Proofs.YtdkomnkcemmdoaaGreatDoor.nodeNobody
