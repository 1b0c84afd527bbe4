/- NodeConfigs: its runs, told: all is well, 1 to 4 groups. -/
import Derived.Test.YtdkomnkcemmdoaaGreatDoorNcA
namespace Go.Proofs.YtdkomnkcemmdoaaGreatDoor.nodeConfigs
open Go Go.Ab
set_option maxRecDepth 100000
theorem good1 (n c d s k id dr : Int) : run n (.ofNat 1) c d s k id dr (goodT 1) = some (.bool true, revN (goodN n (.ofNat 1) c d s k id dr 1) []) := by kernel_rfl
theorem good2 (n c d s k id dr : Int) : run n (.ofNat 2) c d s k id dr (goodT 2) = some (.bool true, revN (goodN n (.ofNat 2) c d s k id dr 2) []) := by kernel_rfl
theorem good3 (n c d s k id dr : Int) : run n (.ofNat 3) c d s k id dr (goodT 3) = some (.bool true, revN (goodN n (.ofNat 3) c d s k id dr 3) []) := by kernel_rfl
theorem good4 (n c d s k id dr : Int) : run n (.ofNat 4) c d s k id dr (goodT 4) = some (.bool true, revN (goodN n (.ofNat 4) c d s k id dr 4) []) := by kernel_rfl
end Go.Proofs.YtdkomnkcemmdoaaGreatDoor.nodeConfigs
