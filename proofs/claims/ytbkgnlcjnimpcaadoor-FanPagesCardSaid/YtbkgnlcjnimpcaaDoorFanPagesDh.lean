/- FanPages' run: a round of the second loop, where 51 to 57 posts come. -/
import Derived.Test.YtbkgnlcjnimpcaaDoorFanPagesC
namespace Go.Proofs.YtbkgnlcjnimpcaaDoor.fanPages
open Go Go.Ab
set_option maxRecDepth 100000
theorem fullh (VV : Value) (OO : AObj) (n a i k : Nat) (j0 jt : Nat → Value) (jh : Nat → Nat → Value) : upTo (rndL VV OO n a i k true j0 jt jh) 4 51 = upTo (rndR VV OO n a i k true jt) 4 51 := by kernel_rfl
theorem lasth (VV : Value) (OO : AObj) (n a i k : Nat) (j0 jt : Nat → Value) (jh : Nat → Nat → Value) : upTo (rndL VV OO n a i k false j0 jt jh) 4 51 = upTo (rndR VV OO n a i k false jt) 4 51 := by kernel_rfl
theorem fulli (VV : Value) (OO : AObj) (n a i k : Nat) (j0 jt : Nat → Value) (jh : Nat → Nat → Value) : upTo (rndL VV OO n a i k true j0 jt jh) 3 55 = upTo (rndR VV OO n a i k true jt) 3 55 := by kernel_rfl
theorem lasti (VV : Value) (OO : AObj) (n a i k : Nat) (j0 jt : Nat → Value) (jh : Nat → Nat → Value) : upTo (rndL VV OO n a i k false j0 jt jh) 3 55 = upTo (rndR VV OO n a i k false jt) 3 55 := by kernel_rfl
end Go.Proofs.YtbkgnlcjnimpcaaDoor.fanPages
