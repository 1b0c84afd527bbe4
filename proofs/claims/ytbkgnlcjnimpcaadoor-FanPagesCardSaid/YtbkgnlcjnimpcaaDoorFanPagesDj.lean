/- FanPages' run: a round of the second loop, where 58 to 63 posts come. -/
import Derived.Test.YtbkgnlcjnimpcaaDoorFanPagesC
namespace Go.Proofs.YtbkgnlcjnimpcaaDoor.fanPages
open Go Go.Ab
set_option maxRecDepth 100000
theorem fullj (VV : Value) (OO : AObj) (n a i k : Nat) (j0 jt : Nat → Value) (jh : Nat → Nat → Value) : upTo (rndL VV OO n a i k true j0 jt jh) 3 58 = upTo (rndR VV OO n a i k true jt) 3 58 := by kernel_rfl
theorem lastj (VV : Value) (OO : AObj) (n a i k : Nat) (j0 jt : Nat → Value) (jh : Nat → Nat → Value) : upTo (rndL VV OO n a i k false j0 jt jh) 3 58 = upTo (rndR VV OO n a i k false jt) 3 58 := by kernel_rfl
theorem fullk (VV : Value) (OO : AObj) (n a i k : Nat) (j0 jt : Nat → Value) (jh : Nat → Nat → Value) : upTo (rndL VV OO n a i k true j0 jt jh) 3 61 = upTo (rndR VV OO n a i k true jt) 3 61 := by kernel_rfl
theorem lastk (VV : Value) (OO : AObj) (n a i k : Nat) (j0 jt : Nat → Value) (jh : Nat → Nat → Value) : upTo (rndL VV OO n a i k false j0 jt jh) 3 61 = upTo (rndR VV OO n a i k false jt) 3 61 := by kernel_rfl
end Go.Proofs.YtbkgnlcjnimpcaaDoor.fanPages
