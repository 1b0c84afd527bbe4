/- NodeConfigs: the closed facts of its row. -/
import Derived.Test.YtdkomnkcemmdoaaGreatDoorRows
import Derived.JoinedCond
namespace Go.Proofs.YtdkomnkcemmdoaaGreatDoor.nodeConfigs
open Go
set_option maxRecDepth 100000
theorem andT {a b : Bool} (ha : a = true) (hb : b = true) : (a && b) = true := by rw [ha, hb]; rfl
theorem named3 : Tryz.pinned.checked.prog.funcNamed "rookery/rookerylaw16.NodeConfigs" = some 3 := by kernel_rfl
set_option maxHeartbeats 40000000 in
theorem closed3 : joinedFacts Tryz.pinned.checked.prog 3 Tryz.f3 (OpenSpec.ofChange Rows.nodeConfigsSpec).bare Rows.nodeConfigsRow = true := by
  unfold joinedFacts
  refine (andT (andT (andT (andT (andT (andT (andT (andT (andT (andT (andT (andT (andT (andT (andT (andT (andT (andT (andT (andT (andT (andT (andT (andT (andT (andT (andT (andT (andT (andT (andT ?_ ?_) ?_) ?_) ?_) ?_) ?_) ?_) ?_) ?_) ?_) ?_) ?_) ?_) ?_) ?_) ?_) ?_) ?_) ?_) ?_) ?_) ?_) ?_) ?_) ?_) ?_) ?_) ?_) ?_) ?_) ?_)
  all_goals (as_aux_lemma => kernel_rfl)
end Go.Proofs.YtdkomnkcemmdoaaGreatDoor.nodeConfigs
