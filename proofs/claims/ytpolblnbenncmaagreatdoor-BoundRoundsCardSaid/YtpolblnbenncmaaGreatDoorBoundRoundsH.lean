/- BoundRounds: which configs may be, by runs that are told: 6 to 8 groups. -/
import Derived.Test.YtpolblnbenncmaaGreatDoorBoundRoundsA
namespace Go.Proofs.YtpolblnbenncmaaGreatDoor.boundRounds
open Go Go.Ab
set_option maxRecDepth 100000
theorem mayg6 (n c d s k : Int) : saidC ((CC0 12).un #[cfg n (.ofNat 6) c d s k] (bareOf 7) (goodT 6) []) = some (.bool true, revN (goodN n (.ofNat 6) c d s k 6) []) := by kernel_rfl
theorem mayg7 (n c d s k : Int) : saidC ((CC0 12).un #[cfg n (.ofNat 7) c d s k] (bareOf 7) (goodT 7) []) = some (.bool true, revN (goodN n (.ofNat 7) c d s k 7) []) := by kernel_rfl
theorem mayg8 (n c d s k : Int) : saidC ((CC0 12).un #[cfg n (.ofNat 8) c d s k] (bareOf 7) (goodT 8) []) = some (.bool true, revN (goodN n (.ofNat 8) c d s k 8) []) := by kernel_rfl
end Go.Proofs.YtpolblnbenncmaaGreatDoor.boundRounds
