/- What must come of a node, comes. -/
import Derived.Test.YtdkomnkcemmdoaaGreatDoorNodeB
namespace Go.Proofs.YtdkomnkcemmdoaaGreatDoor.node
open Go Go.Ab
set_option maxRecDepth 100000
def awakeM : Memo := ⟨10, [], .bool true⟩
theorem awakeOk : MemoOk Tryz.prog awakeM := memo_of_quick (richQ_sound knBok 3) rfl rfl (by kernel_rfl)
end Go.Proofs.YtdkomnkcemmdoaaGreatDoor.node
