/- FanGone's run behind that part, at 4 to 7 pages. -/
import Derived.Test.YtbkgnlcjnimpcaaDoorFanGoneA
namespace Go.Proofs.YtbkgnlcjnimpcaaDoor.fanGone
open Go Go.Ab
theorem end4 (n : Int) : ends n 4 = some (.bool true) := by kernel_rfl
theorem end5 (n : Int) : ends n 5 = some (.bool true) := by kernel_rfl
theorem end6 (n : Int) : ends n 6 = some (.bool true) := by kernel_rfl
theorem end7 (n : Int) : ends n 7 = some (.bool true) := by kernel_rfl
end Go.Proofs.YtbkgnlcjnimpcaaDoor.fanGone
