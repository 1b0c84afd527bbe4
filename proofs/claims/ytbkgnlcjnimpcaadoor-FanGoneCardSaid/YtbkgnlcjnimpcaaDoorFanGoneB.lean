/- FanGone's run behind that part, at 0 to 3 pages. -/
import Derived.Test.YtbkgnlcjnimpcaaDoorFanGoneA
namespace Go.Proofs.YtbkgnlcjnimpcaaDoor.fanGone
open Go Go.Ab
theorem end0 (n : Int) : ends n 0 = some (.bool true) := by kernel_rfl
theorem end1 (n : Int) : ends n 1 = some (.bool true) := by kernel_rfl
theorem end2 (n : Int) : ends n 2 = some (.bool true) := by kernel_rfl
theorem end3 (n : Int) : ends n 3 = some (.bool true) := by kernel_rfl
end Go.Proofs.YtbkgnlcjnimpcaaDoor.fanGone
