/- BoundRounds' run with numbers that are good: 5 or 6 nodes. -/
import Derived.Test.YtpolblnbenncmaaGreatDoorBoundRoundsB
namespace Go.Proofs.YtpolblnbenncmaaGreatDoor.boundRounds
open Go Go.Ab
set_option maxRecDepth 100000
theorem ok5a (g d s k x a e : Int) (jt : Nat → Value) : upTo (okL 5 g d s k x a e jt) 3 0 = upTo (fun c => some (.bool true, revN (okN 5 g d s k x a e c) [])) 3 0 := by kernel_rfl
theorem ok5b (g d s k x a e : Int) (jt : Nat → Value) : upTo (okL 5 g d s k x a e jt) 3 3 = upTo (fun c => some (.bool true, revN (okN 5 g d s k x a e c) [])) 3 3 := by kernel_rfl
theorem ok5c (g d s k x a e : Int) (jt : Nat → Value) : upTo (okL 5 g d s k x a e jt) 3 6 = upTo (fun c => some (.bool true, revN (okN 5 g d s k x a e c) [])) 3 6 := by kernel_rfl
theorem ok6a (g d s k x a e : Int) (jt : Nat → Value) : upTo (okL 6 g d s k x a e jt) 3 0 = upTo (fun c => some (.bool true, revN (okN 6 g d s k x a e c) [])) 3 0 := by kernel_rfl
theorem ok6b (g d s k x a e : Int) (jt : Nat → Value) : upTo (okL 6 g d s k x a e jt) 3 3 = upTo (fun c => some (.bool true, revN (okN 6 g d s k x a e c) [])) 3 3 := by kernel_rfl
theorem ok6c (g d s k x a e : Int) (jt : Nat → Value) : upTo (okL 6 g d s k x a e jt) 3 6 = upTo (fun c => some (.bool true, revN (okN 6 g d s k x a e c) [])) 3 6 := by kernel_rfl
end Go.Proofs.YtpolblnbenncmaaGreatDoor.boundRounds
