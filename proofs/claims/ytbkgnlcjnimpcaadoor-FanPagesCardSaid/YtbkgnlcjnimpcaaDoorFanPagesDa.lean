/- FanPages' run: a round of the second loop, where 0 to 30 posts come. -/
import Derived.Test.YtbkgnlcjnimpcaaDoorFanPagesC
namespace Go.Proofs.YtbkgnlcjnimpcaaDoor.fanPages
open Go Go.Ab
set_option maxRecDepth 100000
theorem fulla (VV : Value) (OO : AObj) (n a i k : Nat) (j0 jt : Nat → Value) (jh : Nat → Nat → Value) : upTo (rndL VV OO n a i k true j0 jt jh) 17 0 = upTo (rndR VV OO n a i k true jt) 17 0 := by kernel_rfl
theorem lasta (VV : Value) (OO : AObj) (n a i k : Nat) (j0 jt : Nat → Value) (jh : Nat → Nat → Value) : upTo (rndL VV OO n a i k false j0 jt jh) 17 0 = upTo (rndR VV OO n a i k false jt) 17 0 := by kernel_rfl
theorem fullb (VV : Value) (OO : AObj) (n a i k : Nat) (j0 jt : Nat → Value) (jh : Nat → Nat → Value) : upTo (rndL VV OO n a i k true j0 jt jh) 8 17 = upTo (rndR VV OO n a i k true jt) 8 17 := by kernel_rfl
theorem lastb (VV : Value) (OO : AObj) (n a i k : Nat) (j0 jt : Nat → Value) (jh : Nat → Nat → Value) : upTo (rndL VV OO n a i k false j0 jt jh) 8 17 = upTo (rndR VV OO n a i k false jt) 8 17 := by kernel_rfl
theorem fullc (VV : Value) (OO : AObj) (n a i k : Nat) (j0 jt : Nat → Value) (jh : Nat → Nat → Value) : upTo (rndL VV OO n a i k true j0 jt jh) 6 25 = upTo (rndR VV OO n a i k true jt) 6 25 := by kernel_rfl
theorem lastc (VV : Value) (OO : AObj) (n a i k : Nat) (j0 jt : Nat → Value) (jh : Nat → Nat → Value) : upTo (rndL VV OO n a i k false j0 jt jh) 6 25 = upTo (rndR VV OO n a i k false jt) 6 25 := by kernel_rfl
end Go.Proofs.YtbkgnlcjnimpcaaDoor.fanPages
