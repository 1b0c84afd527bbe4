/- FanGone's run behind that part, at 8 to 11 pages. -/
import Derived.Test.YtbkgnlcjnimpcaaDoorFanGoneA
namespace Go.Proofs.YtbkgnlcjnimpcaaDoor.fanGone
open Go Go.Ab
theorem end8 (n : Int) : ends n 8 = some (.bool true) := by kernel_rfl
theorem end9 (n : Int) : ends n 9 = some (.bool true) := by kernel_rfl
theorem end10 (n : Int) : ends n 10 = some (.bool true) := by kernel_rfl
theorem end11 (n : Int) : ends n 11 = some (.bool true) := by kernel_rfl
end Go.Proofs.YtbkgnlcjnimpcaaDoor.fanGone
