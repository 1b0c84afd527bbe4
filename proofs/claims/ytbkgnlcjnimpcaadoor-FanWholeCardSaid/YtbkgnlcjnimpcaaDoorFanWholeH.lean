/- FanWhole's run: rounds that take. -/
import Derived.Test.YtbkgnlcjnimpcaaDoorFanWholeG
namespace Go.Proofs.YtbkgnlcjnimpcaaDoor.fanWhole
open Go Go.Ab
set_option maxRecDepth 100000
theorem tak_00 (N c1 : Nat) (V10 Vp : Value) (fT : Nat → Value) (O11 O13 O14 O16 O17 : AObj) (st a T n i k q L x fr m at_ c kn : Nat) (z : Int) (j0 jt : Nat → Value) (jh : Nat → Nat → Value) : upTo (tak1 N c1 V10 Vp fT O11 O13 O14 O16 O17 st a 0 n i k q L x fr m at_ 0 kn z j0 jt jh) 1 0 = upTo (tak2 N c1 V10 Vp fT O11 O13 O14 O16 O17 st a 0 n i k q L x fr m at_ 0 kn z jt) 1 0 := by kernel_rfl
theorem tak_10 (N c1 : Nat) (V10 Vp : Value) (fT : Nat → Value) (O11 O13 O14 O16 O17 : AObj) (st a T n i k q L x fr m at_ c kn : Nat) (z : Int) (j0 jt : Nat → Value) (jh : Nat → Nat → Value) : upTo (tak1 N c1 V10 Vp fT O11 O13 O14 O16 O17 st a (T + 1) n i k q L x fr m at_ 0 kn z j0 jt jh) 1 0 = upTo (tak2 N c1 V10 Vp fT O11 O13 O14 O16 O17 st a (T + 1) n i k q L x fr m at_ 0 kn z jt) 1 0 := by kernel_rfl
theorem tak_01 (N c1 : Nat) (V10 Vp : Value) (fT : Nat → Value) (O11 O13 O14 O16 O17 : AObj) (st a T n i k q L x fr m at_ c kn : Nat) (z : Int) (j0 jt : Nat → Value) (jh : Nat → Nat → Value) : upTo (tak1 N c1 V10 Vp fT O11 O13 O14 O16 O17 st a 0 n i k q L x fr m at_ (c + 1) kn z j0 jt jh) 17 0 = upTo (tak2 N c1 V10 Vp fT O11 O13 O14 O16 O17 st a 0 n i k q L x fr m at_ (c + 1) kn z jt) 17 0 := by kernel_rfl
theorem tak_11 (N c1 : Nat) (V10 Vp : Value) (fT : Nat → Value) (O11 O13 O14 O16 O17 : AObj) (st a T n i k q L x fr m at_ c kn : Nat) (z : Int) (j0 jt : Nat → Value) (jh : Nat → Nat → Value) : upTo (tak1 N c1 V10 Vp fT O11 O13 O14 O16 O17 st a (T + 1) n i k q L x fr m at_ (c + 1) kn z j0 jt jh) 17 0 = upTo (tak2 N c1 V10 Vp fT O11 O13 O14 O16 O17 st a (T + 1) n i k q L x fr m at_ (c + 1) kn z jt) 17 0 := by kernel_rfl
end Go.Proofs.YtbkgnlcjnimpcaaDoor.fanWhole
