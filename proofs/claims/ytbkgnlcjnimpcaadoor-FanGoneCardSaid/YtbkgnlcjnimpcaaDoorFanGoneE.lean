/- FanGone's run behind that part, at 12 to 15 pages. -/
import Derived.Test.YtbkgnlcjnimpcaaDoorFanGoneA
namespace Go.Proofs.YtbkgnlcjnimpcaaDoor.fanGone
open Go Go.Ab
theorem end12 (n : Int) : ends n 12 = some (.bool true) := by kernel_rfl
theorem end13 (n : Int) : ends n 13 = some (.bool true) := by kernel_rfl
theorem end14 (n : Int) : ends n 14 = some (.bool true) := by kernel_rfl
theorem end15 (n : Int) : ends n 15 = some (.bool true) := by kernel_rfl
end Go.Proofs.YtbkgnlcjnimpcaaDoor.fanGone
