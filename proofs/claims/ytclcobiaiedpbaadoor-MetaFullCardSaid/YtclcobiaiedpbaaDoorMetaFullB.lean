/- MetaFull's rounds, the first of them. -/
import Derived.Test.YtclcobiaiedpbaaDoorMetaFullA
namespace Go.Proofs.YtclcobiaiedpbaaDoor.metaFull
open Go Go.Ab
set_option maxRecDepth 100000
theorem round0 (more : Int) (j0 jt : Nat → Value) (jh : Nat → Nat → Value) : upTo (roundL more j0 jt jh) 24 0 = upTo (roundR more jt) 24 0 := by kernel_rfl
theorem round24 (more : Int) (j0 jt : Nat → Value) (jh : Nat → Nat → Value) : upTo (roundL more j0 jt jh) 10 24 = upTo (roundR more jt) 10 24 := by kernel_rfl
theorem round34 (more : Int) (j0 jt : Nat → Value) (jh : Nat → Nat → Value) : upTo (roundL more j0 jt jh) 8 34 = upTo (roundR more jt) 8 34 := by kernel_rfl
theorem round42 (more : Int) (j0 jt : Nat → Value) (jh : Nat → Nat → Value) : upTo (roundL more j0 jt jh) 6 42 = upTo (roundR more jt) 6 42 := by kernel_rfl
end Go.Proofs.YtclcobiaiedpbaaDoor.metaFull
