/- FanWhole's run: rounds that ask, the others. -/
import Derived.Test.YtbkgnlcjnimpcaaDoorFanWholeC
namespace Go.Proofs.YtbkgnlcjnimpcaaDoor.fanWhole
open Go Go.Ab
set_option maxRecDepth 100000
theorem ask_f1 (N c1 : Nat) (V11 : Value) (fO fR : Nat → Value) (O11 O15 O16 : AObj) (st a t n i k y b L : Nat) (z : Int) (j0 jt : Nat → Value) (jh : Nat → Nat → Value) : upTo (ask1 N c1 V11 (.slice (some ⟨11, 0, none⟩) n openN) fO fR O11 O15 O16 st a t n i k y b (L + 1) z false j0 jt jh) 16 0 = upTo (ask2 N c1 V11 (.slice (some ⟨11, 0, none⟩) n openN) fO fR O11 O15 O16 st a t n i k y b (L + 1) z false j0 jt) 16 0 := by kernel_rfl
theorem ask_t1 (N c1 : Nat) (V11 : Value) (fO fR : Nat → Value) (O11 O15 O16 : AObj) (st a t n i k y b L : Nat) (z : Int) (j0 jt : Nat → Value) (jh : Nat → Nat → Value) : upTo (ask1 N c1 V11 (.slice (some ⟨11, 0, none⟩) n openN) fO fR O11 O15 O16 st a t n i k y b (L + 1) z true j0 jt jh) 17 0 = upTo (ask2 N c1 V11 (.slice (some ⟨11, 0, none⟩) n openN) fO fR O11 O15 O16 st a t n i k y b (L + 1) z true j0 jt) 17 0 := by kernel_rfl
end Go.Proofs.YtbkgnlcjnimpcaaDoor.fanWhole
