/- FanPages' run: a round of the second loop. -/
import Derived.Test.YtbkgnlcjnimpcaaDoorFanPagesA
namespace Go.Proofs.YtbkgnlcjnimpcaaDoor.fanPages
open Go Go.Ab
set_option maxRecDepth 100000
/-! ### How much is asked for -/
noncomputable def hd (VV : Value) (OO : AObj) (n a i : Nat) (j0 : Nat → Value) : RCC := code hdB (SB VV OO n a i j0) [Tr]
noncomputable def hdN (i : Nat) : Noted := [pr (.bool (intLt (.ofNat i) 70)) Tr]
noncomputable def ptr16 (r : Nat) : Value := .pointer (some ⟨16, Nat.add 0 (Nat.mul r 1), none⟩)
noncomputable def sizeT (r k : Nat) (z : Int) : Ab.Tape := [e24 r, ptr16 r, i64 z, e24 (k + 1)]
noncomputable def sizeN (s c : Nat) (f : Nat → Value) (i r k : Nat) (z : Int) : Noted :=
  [pr (i64 (remF (.ofNat i) (s + 1))) (e24 r), (iaB Tryd.prog 22).un (sizesV (.some s c f)) (e24 r) = some (ptr16 r), (ldO Tryd.prog 3).un (roO (.some s c f)) (Nat.add 0 (Nat.mul r 1)) = some (i64 z), pr (i64 (wrapF .i64 (Int.add 1 (bandF z 63)))) (e24 (k + 1))]
noncomputable def sz (v : V) (n a i : Nat) (tp : Ab.Tape) (j0 : Nat → Value) : SC := parts 2 bb (stOf (hd (sizesV v) (roO v) n a i j0)) tp
theorem sz_nil (n a i : Nat) (j0 jt : Nat → Value) (jh : Nat → Nat → Value) : (fun y => (isN (hd (sizesV .nil) (roO .nil) (n + 1) a i j0), y.ok, y.lg, canonS (shOf true keepM y.s) 8 y.s jt jh)) (sz .nil (n + 1) a i [] j0) = (some (hdN i), true, [], some (SM (sizesV .nil) (roO .nil) (n + 1) a i 0 jt)) := by kernel_rfl
theorem sz_empty (c n a i : Nat) (j0 jt : Nat → Value) (jh : Nat → Nat → Value) : (fun y => (isN (hd (sizesV (.empty c)) (roO (.empty c)) (n + 1) a i j0), y.ok, y.lg, canonS (shOf true keepM y.s) 8 y.s jt jh)) (sz (.empty c) (n + 1) a i [] j0) = (some (hdN i), true, [], some (SM (sizesV (.empty c)) (roO (.empty c)) (n + 1) a i 0 jt)) := by kernel_rfl
theorem sz_some (s c : Nat) (f : Nat → Value) (n a i r k : Nat) (z : Int) (j0 jt : Nat → Value) (jh : Nat → Nat → Value) : (fun y => (isN (hd (sizesV (.some s c f)) (roO (.some s c f)) (n + 1) a i j0), y.ok, y.lg, canonS (shOf true keepM y.s) 8 y.s jt jh)) (sz (.some s c f) (n + 1) a i (sizeT r k z) j0) =
  (some (hdN i), true, revN (sizeN s c f i r k z) [], some (SM (sizesV (.some s c f)) (roO (.some s c f)) (n + 1) a i k jt)) := by kernel_rfl
/-! ### What comes, is taken and looked at -/
noncomputable def ptrP (k : Nat) : Value := .pointer (some ⟨11, Nat.add 0 (Nat.mul k 2), none⟩)
noncomputable def postV (k : Nat) : Value := .agg ⟨[ann, str [txt k]]⟩
noncomputable def withinT (a : Nat) : Nat → Nat → Ab.Tape → Ab.Tape
  | 0, _, t => t
  | m + 1, j, t => Tr :: Tr :: ptrP (a + j) :: postV (a + j) :: e24 (a + (j + 1)) :: withinT a m (j + 1) t
def takeT (a : Nat) : Nat → Nat → Ab.Tape → Ab.Tape
  | 0, _, t => t
  | m + 1, j, t => e24 (a + (j + 1)) :: takeT a m (j + 1) t
def lookT (a : Nat) : Nat → Nat → Ab.Tape → Ab.Tape
  | 0, _, t => t
  | m + 1, j, t => e24 (a + j) :: F :: e24 (33 + (a + j)) :: F :: lookT a m (j + 1) t
/-- e: are there more? -/
def endT : Bool → Ab.Tape → Ab.Tape
  | true, t => F :: t
  | false, t => Tr :: F :: t
noncomputable def rndT (a k c : Nat) (e : Bool) : Ab.Tape :=
  e24 (k + 1) :: F :: Tr :: Tr :: e24 a :: withinT a c 0 (endT e (F :: F :: F :: Tr :: Tr :: F :: e24 0 :: takeT a c 0 (e24 (a + c) :: e24 (k + 1) :: e24 c :: lookT a c 0 [e24 (a + c)])))
noncomputable def rnd (VV : Value) (OO : AObj) (n a i k c : Nat) (e : Bool) (j0 : Nat → Value) : RCC := code c2 (SM VV OO n a i k j0) (rndT a k c e)
noncomputable def inc2 (VV : Value) (OO : AObj) (n a i k c : Nat) (e : Bool) (j0 : Nat → Value) : RCC := code incB (stOf (rnd VV OO n a i k c e j0)) [e24 (i + 1)]
noncomputable def left (n a : Nat) : Int := wrapF .i64 (Int.sub (.ofNat n) (.ofNat a))
noncomputable def withinN (n k a : Nat) : Nat → Nat → Noted → Noted
  | 0, _, t => t
  | m + 1, j, t => pr (.bool (intLt (.ofNat j) (.ofNat (k + 1)))) Tr :: pr (.bool (intLt (.ofNat (a + j)) (.ofNat (n + 1)))) Tr :: ((iaB Tryd.prog 28).un (postsV (n + 1)) (e24 (a + j)) = some (ptrP (a + j))) ::
    ((ldO Tryd.prog 48).un (postsO (n + 1)) (Nat.add 0 (Nat.mul (a + j) 2)) = some (postV (a + j))) :: pr (i64 (wrapF .i64 (Int.add (.ofNat (a + j)) 1))) (e24 (a + (j + 1))) :: withinN n k a m (j + 1) t
noncomputable def takeN (a : Nat) : Nat → Nat → Noted → Noted
  | 0, _, t => t
  | m + 1, j, t => pr (i64 (wrapF .i64 (Int.add (.ofNat (a + j)) 1))) (e24 (a + (j + 1))) :: takeN a m (j + 1) t
noncomputable def lookN (a : Nat) : Nat → Nat → Noted → Noted
  | 0, _, t => t
  | m + 1, j, t => pr (i64 (wrapF .i64 (Int.add (.ofNat a) (.ofNat j)))) (e24 (a + j)) :: pr (.bool (notB (intEq (.ofNat (a + j)) (.ofNat (a + j))))) F ::
    pr (i64 (wrapF .i64 (Int.add (wrapF .i64 (Int.add 33 (.ofNat a))) (.ofNat j)))) (e24 (33 + (a + j))) :: pr (.bool (notB (eqL (byteList ⟨⟨[txt (a + j)]⟩⟩) (byteList ⟨⟨[UInt8.ofNat (wrapF .u8 (.ofNat (33 + (a + j)))).toNat]⟩⟩)))) F :: lookN a m (j + 1) t
noncomputable def endN (n k a c : Nat) : Bool → Noted → Noted
  | true, t => pr (.bool (intLt (.ofNat c) (.ofNat (k + 1)))) F :: t
  | false, t => pr (.bool (intLt (.ofNat c) (.ofNat (k + 1)))) Tr :: pr (.bool (intLt (.ofNat (a + c)) (.ofNat (n + 1)))) F :: t
def gotV (c : Nat) : Value := match c with
  | 0 => .slice none 0 0
  | _ + 1 => .slice (some ⟨60 + 13 * c, 0, none⟩) c openN
def replyV (a c : Nat) : Value := .agg ⟨[i64 0, e24 (a + c), gotV c]⟩
noncomputable def fitN (a c : Nat) : Prop := match c with
  | 0 => pr (.bool (notB (intLt (.ofNat a) (.ofNat a)))) Tr
  | _ + 1 => pr (.bool (intEq (.ofNat (a + c)) (wrapF .i64 (Int.add (.ofNat a) (.ofNat c))))) Tr
noncomputable def minK (k : Nat) : Prop := pr (i64 (if (64 : Int) < .ofNat (k + 1) then 64 else .ofNat (k + 1))) (e24 (k + 1))
noncomputable def rndN (n a k c : Nat) (e : Bool) : Noted :=
  minK k :: pr (.bool (intLt 64 (.ofNat (k + 1)))) F :: pr (.bool (notB (intLt 2147483647 (.ofNat a)))) Tr :: pr (.bool (notB (intLt 64 (.ofNat (k + 1))))) Tr ::
  pr (i64 (if (.ofNat (n + 1) : Int) < .ofNat a then .ofNat (n + 1) else .ofNat a)) (e24 a) :: withinN n k a c 0 (endN n k a c e ((((veq 8 (replyV a c) (replyV a c) && true) && true) = true) ::
  pr (.bool (notB (andB (intEq (.ofNat a) (.ofNat a)) (andB (intEq (.ofNat (k + 1)) (.ofNat (k + 1))) true)))) F :: pr (.bool (intLt 1073741824 (.ofNat a))) F :: pr (.bool (intLt 64 (.ofNat (k + 1)))) F :: pr (.bool (notB (intLt (.ofNat (k + 1)) (.ofNat c)))) Tr :: fitN a c ::
  pr (.bool (intLt (.ofNat a) (.ofNat a))) F :: pr (i64 (if (.ofNat c : Int) < wrapF .i64 (Int.sub (.ofNat a) (.ofNat a)) then .ofNat c else wrapF .i64 (Int.sub (.ofNat a) (.ofNat a)))) (e24 0) :: takeN a c 0 (
  pr (i64 (wrapF .i64 (Int.add (.ofNat a) (.ofNat c)))) (e24 (a + c)) :: minK k :: pr (i64 (if (.ofNat (k + 1) : Int) < left (n + 1) a then .ofNat (k + 1) else left (n + 1) a)) (e24 c) :: lookN a c 0 [pr (i64 (wrapF .i64 (Int.add (.ofNat a) (.ofNat c)))) (e24 (a + c))])))
noncomputable def incN (i : Nat) : Noted := [pr (i64 (wrapF .i64 (Int.add (.ofNat i) 1))) (e24 (i + 1))]
noncomputable def rndL (VV : Value) (OO : AObj) (n a i k : Nat) (e : Bool) (j0 jt : Nat → Value) (jh : Nat → Nat → Value) (c : Nat) : Option Noted × Option Noted × Option St :=
  (fun r => (isN (rnd VV OO (n + 1) a i k c e j0), isN r, canonS (shOf true keepB (stOf r)) 8 (stOf r) jt jh)) (inc2 VV OO (n + 1) a i k c e j0)
noncomputable def rndR (VV : Value) (OO : AObj) (n a i k : Nat) (e : Bool) (jt : Nat → Value) (c : Nat) : Option Noted × Option Noted × Option St :=
  (some (revN (rndN n a k c e) []), some (incN i), some (SB VV OO (n + 1) (a + c) (i + 1) jt))
end Go.Proofs.YtbkgnlcjnimpcaaDoor.fanPages
