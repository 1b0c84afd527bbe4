/- MetaLate's run, where a row comes late. -/
import Derived.Test.YtclcobiaiedpbaaGreatDoorMetaLateA
namespace Go.Proofs.YtclcobiaiedpbaaGreatDoor.metaLate
open Go Go.Ab
set_option maxRecDepth 100000
theorem ahead_row (many : Int) (n c : Nat) (f : Nat → Value) (jt : Nat → Value) (jh : Nat → Nat → Value) : aheadL many (.some n c f) jt jh (y1 many (.some n c f)) (y2 many (.some n c f)) = (true, [], true, [], Option.some (SA many (.some n c f) 0 jt jh)) := by kernel_rfl
theorem round_row0 (many : Int) (n c : Nat) (f : Nat → Value) (j0 jt : Nat → Value) (h0 jh : Nat → Nat → Value) : roundL many (.some n c f) j0 jt h0 jh 0 = roundR many (.some n c f) jt jh 0 := by kernel_rfl
theorem round_row1 (many : Int) (n c : Nat) (f : Nat → Value) (j0 jt : Nat → Value) (h0 jh : Nat → Nat → Value) : roundL many (.some n c f) j0 jt h0 jh 1 = roundR many (.some n c f) jt jh 1 := by kernel_rfl
theorem round_row2 (many : Int) (n c : Nat) (f : Nat → Value) (j0 jt : Nat → Value) (h0 jh : Nat → Nat → Value) : roundL many (.some n c f) j0 jt h0 jh 2 = roundR many (.some n c f) jt jh 2 := by kernel_rfl
theorem round_row3 (many : Int) (n c : Nat) (f : Nat → Value) (j0 jt : Nat → Value) (h0 jh : Nat → Nat → Value) : roundL many (.some n c f) j0 jt h0 jh 3 = roundR many (.some n c f) jt jh 3 := by kernel_rfl
theorem round_row4 (many : Int) (n c : Nat) (f : Nat → Value) (j0 jt : Nat → Value) (h0 jh : Nat → Nat → Value) : roundL many (.some n c f) j0 jt h0 jh 4 = roundR many (.some n c f) jt jh 4 := by kernel_rfl
theorem mid_row (many : Int) (n c : Nat) (f : Nat → Value) (j0 jt : Nat → Value) (h0 jh : Nat → Nat → Value) : upTo (midL many (.some n c f) j0 jt h0 jh) 5 1 = upTo (midR many (.some n c f) jt jh) 5 1 := by kernel_rfl
theorem ends_row (n c : Nat) (f : Nat → Value) (i : Nat) (j0 : Nat → Value) (h0 : Nat → Nat → Value) : upTo (fun w => (isX (outB (.some n c f) w (sL w) i [F] j0 h0), saidOf (fin (stOf (outB (.some n c f) w (sL w) i [F] j0 h0))), isX (outB (.some n c f) w (sL w) i [Tr, F] j0 h0), saidOf (fin (stOf (outB (.some n c f) w (sL w) i [Tr, F] j0 h0))))) 5 1 =
  upTo (fun _ => (Option.some (6, [pr (.bool (intLt (.ofNat i) (.ofNat n))) F]), Option.some (.bool true, []), Option.some (6, [pr (.bool (intLt (.ofNat i) 60)) F, pr (.bool (intLt (.ofNat i) (.ofNat n))) Tr]), Option.some (.bool true, []))) 5 1 := by kernel_rfl
end Go.Proofs.YtclcobiaiedpbaaGreatDoor.metaLate
