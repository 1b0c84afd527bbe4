/- BoundRounds' run with numbers that are good: 4 nodes. -/
import Derived.Test.YtpolblnbenncmaaGreatDoorBoundRoundsB
namespace Go.Proofs.YtpolblnbenncmaaGreatDoor.boundRounds
open Go Go.Ab
set_option maxRecDepth 100000
theorem ok4a (g d s k x a e : Int) (jt : Nat → Value) : upTo (okL 4 g d s k x a e jt) 3 0 = upTo (fun c => some (.bool true, revN (okN 4 g d s k x a e c) [])) 3 0 := by kernel_rfl
theorem ok4b (g d s k x a e : Int) (jt : Nat → Value) : upTo (okL 4 g d s k x a e jt) 3 3 = upTo (fun c => some (.bool true, revN (okN 4 g d s k x a e c) [])) 3 3 := by kernel_rfl
theorem ok4c (g d s k x a e : Int) (jt : Nat → Value) : upTo (okL 4 g d s k x a e jt) 3 6 = upTo (fun c => some (.bool true, revN (okN 4 g d s k x a e c) [])) 3 6 := by kernel_rfl
end Go.Proofs.YtpolblnbenncmaaGreatDoor.boundRounds
