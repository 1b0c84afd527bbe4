/- NodeConfigs: its runs, told: all is well, 5 to 8 groups. -/
import Derived.Test.YtdkomnkcemmdoaaGreatDoorNcA
namespace Go.Proofs.YtdkomnkcemmdoaaGreatDoor.nodeConfigs
open Go Go.Ab
set_option maxRecDepth 100000
theorem good5 (n c d s k id dr : Int) : run n (.ofNat 5) c d s k id dr (goodT 5) = some (.bool true, revN (goodN n (.ofNat 5) c d s k id dr 5) []) := by kernel_rfl
theorem good6 (n c d s k id dr : Int) : run n (.ofNat 6) c d s k id dr (goodT 6) = some (.bool true, revN (goodN n (.ofNat 6) c d s k id dr 6) []) := by kernel_rfl
theorem good7 (n c d s k id dr : Int) : run n (.ofNat 7) c d s k id dr (goodT 7) = some (.bool true, revN (goodN n (.ofNat 7) c d s k id dr 7) []) := by kernel_rfl
theorem good8 (n c d s k id dr : Int) : run n (.ofNat 8) c d s k id dr (goodT 8) = some (.bool true, revN (goodN n (.ofNat 8) c d s k id dr 8) []) := by kernel_rfl
end Go.Proofs.YtdkomnkcemmdoaaGreatDoor.nodeConfigs
