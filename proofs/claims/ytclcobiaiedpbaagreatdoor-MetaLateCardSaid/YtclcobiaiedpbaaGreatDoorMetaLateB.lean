/- MetaLate's run, where nothing comes late. -/
import Derived.Test.YtclcobiaiedpbaaGreatDoorMetaLateA
namespace Go.Proofs.YtclcobiaiedpbaaGreatDoor.metaLate
open Go Go.Ab
set_option maxRecDepth 100000
theorem ahead_nil (many : Int) (jt : Nat → Value) (jh : Nat → Nat → Value) : aheadL many .nil jt jh (y1 many .nil) (y2 many .nil) = (true, [], true, [], Option.some (SA many .nil 0 jt jh)) := by kernel_rfl
theorem round_nil0 (many : Int) (j0 jt : Nat → Value) (h0 jh : Nat → Nat → Value) : roundL many .nil j0 jt h0 jh 0 = roundR many .nil jt jh 0 := by kernel_rfl
theorem round_nil1 (many : Int) (j0 jt : Nat → Value) (h0 jh : Nat → Nat → Value) : roundL many .nil j0 jt h0 jh 1 = roundR many .nil jt jh 1 := by kernel_rfl
theorem round_nil2 (many : Int) (j0 jt : Nat → Value) (h0 jh : Nat → Nat → Value) : roundL many .nil j0 jt h0 jh 2 = roundR many .nil jt jh 2 := by kernel_rfl
theorem round_nil3 (many : Int) (j0 jt : Nat → Value) (h0 jh : Nat → Nat → Value) : roundL many .nil j0 jt h0 jh 3 = roundR many .nil jt jh 3 := by kernel_rfl
theorem round_nil4 (many : Int) (j0 jt : Nat → Value) (h0 jh : Nat → Nat → Value) : roundL many .nil j0 jt h0 jh 4 = roundR many .nil jt jh 4 := by kernel_rfl
theorem mid_nil (many : Int) (j0 jt : Nat → Value) (h0 jh : Nat → Nat → Value) : upTo (midL many .nil j0 jt h0 jh) 5 1 = upTo (midR many .nil jt jh) 5 1 := by kernel_rfl
theorem ends_nil (j0 : Nat → Value) (h0 : Nat → Nat → Value) : upTo (fun w => (isX (outB .nil w (sL w) 0 [F] j0 h0), saidOf (fin (stOf (outB .nil w (sL w) 0 [F] j0 h0))))) 5 1 = upTo (fun _ => (Option.some (6, [pr F F]), Option.some (.bool true, []))) 5 1 := by kernel_rfl
end Go.Proofs.YtclcobiaiedpbaaGreatDoor.metaLate
