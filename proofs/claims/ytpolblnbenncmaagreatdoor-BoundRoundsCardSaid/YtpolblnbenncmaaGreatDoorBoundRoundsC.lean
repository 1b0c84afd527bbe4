/- BoundRounds' run with numbers that are good: one, two or three nodes. -/
import Derived.Test.YtpolblnbenncmaaGreatDoorBoundRoundsB
namespace Go.Proofs.YtpolblnbenncmaaGreatDoor.boundRounds
open Go Go.Ab
set_option maxRecDepth 100000
theorem ok1a (g d s k x a e : Int) (jt : Nat → Value) : upTo (okL 1 g d s k x a e jt) 3 0 = upTo (fun c => some (.bool true, revN (okN 1 g d s k x a e c) [])) 3 0 := by kernel_rfl
theorem ok1b (g d s k x a e : Int) (jt : Nat → Value) : upTo (okL 1 g d s k x a e jt) 3 3 = upTo (fun c => some (.bool true, revN (okN 1 g d s k x a e c) [])) 3 3 := by kernel_rfl
theorem ok1c (g d s k x a e : Int) (jt : Nat → Value) : upTo (okL 1 g d s k x a e jt) 3 6 = upTo (fun c => some (.bool true, revN (okN 1 g d s k x a e c) [])) 3 6 := by kernel_rfl
theorem ok2a (g d s k x a e : Int) (jt : Nat → Value) : upTo (okL 2 g d s k x a e jt) 3 0 = upTo (fun c => some (.bool true, revN (okN 2 g d s k x a e c) [])) 3 0 := by kernel_rfl
theorem ok2b (g d s k x a e : Int) (jt : Nat → Value) : upTo (okL 2 g d s k x a e jt) 3 3 = upTo (fun c => some (.bool true, revN (okN 2 g d s k x a e c) [])) 3 3 := by kernel_rfl
theorem ok2c (g d s k x a e : Int) (jt : Nat → Value) : upTo (okL 2 g d s k x a e jt) 3 6 = upTo (fun c => some (.bool true, revN (okN 2 g d s k x a e c) [])) 3 6 := by kernel_rfl
theorem ok3a (g d s k x a e : Int) (jt : Nat → Value) : upTo (okL 3 g d s k x a e jt) 3 0 = upTo (fun c => some (.bool true, revN (okN 3 g d s k x a e c) [])) 3 0 := by kernel_rfl
theorem ok3b (g d s k x a e : Int) (jt : Nat → Value) : upTo (okL 3 g d s k x a e jt) 3 3 = upTo (fun c => some (.bool true, revN (okN 3 g d s k x a e c) [])) 3 3 := by kernel_rfl
theorem ok3c (g d s k x a e : Int) (jt : Nat → Value) : upTo (okL 3 g d s k x a e jt) 3 6 = upTo (fun c => some (.bool true, revN (okN 3 g d s k x a e c) [])) 3 6 := by kernel_rfl
end Go.Proofs.YtpolblnbenncmaaGreatDoor.boundRounds
