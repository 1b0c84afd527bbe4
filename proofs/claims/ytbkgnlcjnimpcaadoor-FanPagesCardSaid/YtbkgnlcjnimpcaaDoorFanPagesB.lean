/- FanPages' run: ahead of its loops, the rounds that write the posts, what stands between the loops, the end. -/
import Derived.Test.YtbkgnlcjnimpcaaDoorFanPagesA
namespace Go.Proofs.YtbkgnlcjnimpcaaDoor.fanPages
open Go Go.Ab
set_option maxRecDepth 100000
theorem ahead (many : Int) (VV : Value) (OO : AObj) (jt : Nat → Value) (jh : Nat → Nat → Value) : (fun y z => (y.ok, y.lg, z.ok, z.lg, canonS (shOf false keepA z.s) 8 z.s jt jh)) (y1 many VV OO) (y2 many VV OO) = (true, [], true, [], some (SA VV OO (bandF many 63) 0 jt)) := by kernel_rfl
theorem roundA (VV : Value) (OO : AObj) (nn : Int) (j0 jt : Nat → Value) (jh : Nat → Nat → Value) : upTo (fun i => (fun r => (isN r, canonS (shOf false keepA (stOf r)) 8 (stOf r) jt jh)) (rndA VV OO nn i j0)) 63 0 = upTo (fun i => (some [pr (.bool (intLt (.ofNat i) nn)) Tr], some (SA VV OO nn (i + 1) jt))) 63 0 := by kernel_rfl
theorem mid (VV : Value) (OO : AObj) (j0 jt : Nat → Value) (jh : Nat → Nat → Value) : upTo (fun i => (fun y z => (isX (outA VV OO i j0), y.ok, y.lg, z.ok, z.lg, canonS (shOf false keepB z.s) 8 z.s jt jh)) (y3 VV OO i j0) (y4 VV OO i j0)) 64 0 =
  upTo (fun i => (some (0, [pr (.bool (intLt (.ofNat i) (.ofNat i))) F]), true, [], true, [], some (SB VV OO i 0 0 jt))) 64 0 := by kernel_rfl
theorem ends (VV : Value) (OO : AObj) (j0 : Nat → Value) : upTo (fun n => (isX (outB VV OO n j0), saidOf (fin (stOf (outB VV OO n j0))))) 64 0 = upTo (fun _ => (some (2, [pr F F]), some (.bool true, []))) 64 0 := by kernel_rfl
end Go.Proofs.YtbkgnlcjnimpcaaDoor.fanPages
