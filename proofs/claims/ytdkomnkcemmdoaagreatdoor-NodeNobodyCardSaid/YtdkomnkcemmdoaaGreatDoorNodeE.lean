/- NodeNobody: the closed facts of its row. -/
import Derived.Test.YtdkomnkcemmdoaaGreatDoorRows
import Derived.JoinedCond
namespace Go.Proofs.YtdkomnkcemmdoaaGreatDoor.nodeNobody
open Go
set_option maxRecDepth 100000
theorem andT {a b : Bool} (ha : a = true) (hb : b = true) : (a && b) = true := by rw [ha, hb]; rfl
theorem named4 : Tryz.pinned.checked.prog.funcNamed "rookery/rookerylaw16.NodeNobody" = some 4 := by kernel_rfl
set_option maxHeartbeats 40000000 in
theorem closed4 : joinedFacts Tryz.pinned.checked.prog 4 Tryz.f4 (OpenSpec.ofChange Rows.nodeNobodySpec).bare Rows.nodeNobodyRow = true := by
  unfold joinedFacts
  refine (andT (andT (andT (andT (andT (andT (andT (andT (andT (andT (andT (andT (andT (andT (andT (andT (andT (andT (andT (andT (andT (andT (andT (andT (andT (andT (andT (andT (andT (andT (andT ?_ ?_) ?_) ?_) ?_) ?_) ?_) ?_) ?_) ?_) ?_) ?_) ?_) ?_) ?_) ?_) ?_) ?_) ?_) ?_) ?_) ?_) ?_) ?_) ?_) ?_) ?_) ?_) ?_) ?_) ?_) ?_)
  all_goals (as_aux_lemma => kernel_rfl)
end Go.Proofs.YtdkomnkcemmdoaaGreatDoor.nodeNobody
