/- MetaFull's rounds, the last ones. -/
import Derived.Test.YtclcobiaiedpbaaDoorMetaFullA
namespace Go.Proofs.YtclcobiaiedpbaaDoor.metaFull
open Go Go.Ab
set_option maxRecDepth 100000
theorem round61 (more : Int) (j0 jt : Nat → Value) (jh : Nat → Nat → Value) : upTo (roundL more j0 jt jh) 3 61 = upTo (roundR more jt) 3 61 := by kernel_rfl
theorem round64 (more : Int) (j0 jt : Nat → Value) (jh : Nat → Nat → Value) : upTo (roundL more j0 jt jh) 3 64 = upTo (roundR more jt) 3 64 := by kernel_rfl
/-! ### The end -/
noncomputable def hd0 (more : Int) (j : Nat) (j0 : Nat → Value) : RCC := code hdc (S more (capN (60 + j)) (60 + j) j0) [F]
noncomputable def fin (more : Int) (j : Nat) (j0 : Nat → Value) : Option OutC := lastC Tryd.prog enters CB CC DC (mkR 5) 1000 Tryd.f5 rest (stOf (hd0 more j j0)) [i64 (.ofNat (60 + j))]
theorem ends (more : Int) (j0 : Nat → Value) : upTo (fun j => (isX (hd0 more j j0), saidOf (fin more j j0))) 8 0 = upTo (fun j => (some (0, [pr (.bool (intLt (.ofNat (60 + j)) (lim more))) F]), some (.bool true, [pr (i64 (lim more)) (i64 (.ofNat (60 + j)))]))) 8 0 := by kernel_rfl
end Go.Proofs.YtclcobiaiedpbaaDoor.metaFull
