/- FanPages' run: a round of the second loop, where 31 to 41 posts come. -/
import Derived.Test.YtbkgnlcjnimpcaaDoorFanPagesC
namespace Go.Proofs.YtbkgnlcjnimpcaaDoor.fanPages
open Go Go.Ab
set_option maxRecDepth 100000
theorem fulld (VV : Value) (OO : AObj) (n a i k : Nat) (j0 jt : Nat → Value) (jh : Nat → Nat → Value) : upTo (rndL VV OO n a i k true j0 jt jh) 6 31 = upTo (rndR VV OO n a i k true jt) 6 31 := by kernel_rfl
theorem lastd (VV : Value) (OO : AObj) (n a i k : Nat) (j0 jt : Nat → Value) (jh : Nat → Nat → Value) : upTo (rndL VV OO n a i k false j0 jt jh) 6 31 = upTo (rndR VV OO n a i k false jt) 6 31 := by kernel_rfl
theorem fulle (VV : Value) (OO : AObj) (n a i k : Nat) (j0 jt : Nat → Value) (jh : Nat → Nat → Value) : upTo (rndL VV OO n a i k true j0 jt jh) 5 37 = upTo (rndR VV OO n a i k true jt) 5 37 := by kernel_rfl
theorem laste (VV : Value) (OO : AObj) (n a i k : Nat) (j0 jt : Nat → Value) (jh : Nat → Nat → Value) : upTo (rndL VV OO n a i k false j0 jt jh) 5 37 = upTo (rndR VV OO n a i k false jt) 5 37 := by kernel_rfl
end Go.Proofs.YtbkgnlcjnimpcaaDoor.fanPages
