/- MetaLate's run, where a row of none comes late. -/
import Derived.Test.YtclcobiaiedpbaaGreatDoorMetaLateA
namespace Go.Proofs.YtclcobiaiedpbaaGreatDoor.metaLate
open Go Go.Ab
set_option maxRecDepth 100000
theorem ahead_emp (many : Int) (c : Nat) (jt : Nat → Value) (jh : Nat → Nat → Value) : aheadL many (.empty c) jt jh (y1 many (.empty c)) (y2 many (.empty c)) = (true, [], true, [], Option.some (SA many (.empty c) 0 jt jh)) := by kernel_rfl
theorem round_emp0 (many : Int) (c : Nat) (j0 jt : Nat → Value) (h0 jh : Nat → Nat → Value) : roundL many (.empty c) j0 jt h0 jh 0 = roundR many (.empty c) jt jh 0 := by kernel_rfl
theorem round_emp1 (many : Int) (c : Nat) (j0 jt : Nat → Value) (h0 jh : Nat → Nat → Value) : roundL many (.empty c) j0 jt h0 jh 1 = roundR many (.empty c) jt jh 1 := by kernel_rfl
theorem round_emp2 (many : Int) (c : Nat) (j0 jt : Nat → Value) (h0 jh : Nat → Nat → Value) : roundL many (.empty c) j0 jt h0 jh 2 = roundR many (.empty c) jt jh 2 := by kernel_rfl
theorem round_emp3 (many : Int) (c : Nat) (j0 jt : Nat → Value) (h0 jh : Nat → Nat → Value) : roundL many (.empty c) j0 jt h0 jh 3 = roundR many (.empty c) jt jh 3 := by kernel_rfl
theorem round_emp4 (many : Int) (c : Nat) (j0 jt : Nat → Value) (h0 jh : Nat → Nat → Value) : roundL many (.empty c) j0 jt h0 jh 4 = roundR many (.empty c) jt jh 4 := by kernel_rfl
theorem mid_emp (many : Int) (c : Nat) (j0 jt : Nat → Value) (h0 jh : Nat → Nat → Value) : upTo (midL many (.empty c) j0 jt h0 jh) 5 1 = upTo (midR many (.empty c) jt jh) 5 1 := by kernel_rfl
theorem ends_emp (c : Nat) (j0 : Nat → Value) (h0 : Nat → Nat → Value) : upTo (fun w => (isX (outB (.empty c) w (sL w) 0 [F] j0 h0), saidOf (fin (stOf (outB (.empty c) w (sL w) 0 [F] j0 h0))))) 5 1 = upTo (fun _ => (Option.some (6, [pr F F]), Option.some (.bool true, []))) 5 1 := by kernel_rfl
end Go.Proofs.YtclcobiaiedpbaaGreatDoor.metaLate
