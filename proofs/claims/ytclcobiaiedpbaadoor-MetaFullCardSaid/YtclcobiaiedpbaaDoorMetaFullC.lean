/- MetaFull's rounds, those behind. -/
import Derived.Test.YtclcobiaiedpbaaDoorMetaFullA
namespace Go.Proofs.YtclcobiaiedpbaaDoor.metaFull
open Go Go.Ab
set_option maxRecDepth 100000
theorem round48 (more : Int) (j0 jt : Nat → Value) (jh : Nat → Nat → Value) : upTo (roundL more j0 jt jh) 5 48 = upTo (roundR more jt) 5 48 := by kernel_rfl
theorem round53 (more : Int) (j0 jt : Nat → Value) (jh : Nat → Nat → Value) : upTo (roundL more j0 jt jh) 4 53 = upTo (roundR more jt) 4 53 := by kernel_rfl
theorem round57 (more : Int) (j0 jt : Nat → Value) (jh : Nat → Nat → Value) : upTo (roundL more j0 jt jh) 4 57 = upTo (roundR more jt) 4 57 := by kernel_rfl
end Go.Proofs.YtclcobiaiedpbaaDoor.metaFull
