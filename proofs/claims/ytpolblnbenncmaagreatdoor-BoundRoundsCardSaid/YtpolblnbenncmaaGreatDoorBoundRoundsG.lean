/- BoundRounds: which configs may be, by runs that are told: 2 to 5 groups. -/
import Derived.Test.YtpolblnbenncmaaGreatDoorBoundRoundsA
namespace Go.Proofs.YtpolblnbenncmaaGreatDoor.boundRounds
open Go Go.Ab
set_option maxRecDepth 100000
theorem mayg2 (n c d s k : Int) : saidC ((CC0 12).un #[cfg n (.ofNat 2) c d s k] (bareOf 7) (goodT 2) []) = some (.bool true, revN (goodN n (.ofNat 2) c d s k 2) []) := by kernel_rfl
theorem mayg3 (n c d s k : Int) : saidC ((CC0 12).un #[cfg n (.ofNat 3) c d s k] (bareOf 7) (goodT 3) []) = some (.bool true, revN (goodN n (.ofNat 3) c d s k 3) []) := by kernel_rfl
theorem mayg4 (n c d s k : Int) : saidC ((CC0 12).un #[cfg n (.ofNat 4) c d s k] (bareOf 7) (goodT 4) []) = some (.bool true, revN (goodN n (.ofNat 4) c d s k 4) []) := by kernel_rfl
theorem mayg5 (n c d s k : Int) : saidC ((CC0 12).un #[cfg n (.ofNat 5) c d s k] (bareOf 7) (goodT 5) []) = some (.bool true, revN (goodN n (.ofNat 5) c d s k 5) []) := by kernel_rfl
end Go.Proofs.YtpolblnbenncmaaGreatDoor.boundRounds
