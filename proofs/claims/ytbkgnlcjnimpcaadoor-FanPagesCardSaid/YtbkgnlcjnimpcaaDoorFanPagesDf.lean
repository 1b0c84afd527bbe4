/- FanPages' run: a round of the second loop, where 42 to 50 posts come. -/
import Derived.Test.YtbkgnlcjnimpcaaDoorFanPagesC
namespace Go.Proofs.YtbkgnlcjnimpcaaDoor.fanPages
open Go Go.Ab
set_option maxRecDepth 100000
theorem fullf (VV : Value) (OO : AObj) (n a i k : Nat) (j0 jt : Nat → Value) (jh : Nat → Nat → Value) : upTo (rndL VV OO n a i k true j0 jt jh) 5 42 = upTo (rndR VV OO n a i k true jt) 5 42 := by kernel_rfl
theorem lastf (VV : Value) (OO : AObj) (n a i k : Nat) (j0 jt : Nat → Value) (jh : Nat → Nat → Value) : upTo (rndL VV OO n a i k false j0 jt jh) 5 42 = upTo (rndR VV OO n a i k false jt) 5 42 := by kernel_rfl
theorem fullg (VV : Value) (OO : AObj) (n a i k : Nat) (j0 jt : Nat → Value) (jh : Nat → Nat → Value) : upTo (rndL VV OO n a i k true j0 jt jh) 4 47 = upTo (rndR VV OO n a i k true jt) 4 47 := by kernel_rfl
theorem lastg (VV : Value) (OO : AObj) (n a i k : Nat) (j0 jt : Nat → Value) (jh : Nat → Nat → Value) : upTo (rndL VV OO n a i k false j0 jt jh) 4 47 = upTo (rndR VV OO n a i k false jt) 4 47 := by kernel_rfl
end Go.Proofs.YtbkgnlcjnimpcaaDoor.fanPages
