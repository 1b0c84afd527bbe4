/- What must come of a node, comes. -/
import Derived.Test.YtdkomnkcemmdoaaGreatDoorNodeU
import Derived.Test.YtdkomnkcemmdoaaGreatDoorNodeM
namespace Go.Proofs.YtdkomnkcemmdoaaGreatDoor.node
open Go Go.Ab
set_option maxRecDepth 100000
def stepN : Nat → Nat → Nat
  | 0, c => c
  | k + 1, c => stepN k (Nat.xor (Nat.div c 2) (Nat.mul (Nat.mod c 2) 2197175160))
/-- What is known: sums' shares, how many bytes a disk has, a record ahead of a record. -/
def sharesL : Nat → Nat → List Value
  | 0, _ => []
  | k + 1, i => .int .u32 (.ofNat (stepN 8 i)) :: sharesL k (i + 1)
def sharesV : Value := .agg ⟨sharesL 256 0⟩
def sharesM : Memo := ⟨238, [], sharesV⟩
theorem sharesOk : MemoOk Tryz.prog sharesM := memo_of_quick (quickB_sound noneK_sound 40) rfl (by kernel_rfl) (by kernel_rfl)
noncomputable def knN : Known := orK usedK (orK insertK (memoK [sharesM]))
theorem knNok : CallSound Tryz.prog 7 knN.call := orK_sound usedK_sound (orK_sound insertK_sound (memoK_sound (fun x hx => by rw [List.mem_singleton] at hx; rw [hx]; exact sharesOk)))
noncomputable def CBn : CallB := richQ knN 3
theorem CBnOk : CallSound Tryz.prog 7 (callOf CBn) := richQ_sound knNok 3


end Go.Proofs.YtdkomnkcemmdoaaGreatDoor.node
