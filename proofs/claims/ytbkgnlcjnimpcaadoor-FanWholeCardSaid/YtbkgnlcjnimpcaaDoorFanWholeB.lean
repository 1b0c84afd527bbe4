/- FanWhole's run: ahead of its loop, a round that posts. -/
import Derived.Test.YtbkgnlcjnimpcaaDoorFanWholeA
namespace Go.Proofs.YtbkgnlcjnimpcaaDoor.fanWhole
open Go Go.Ab
set_option maxRecDepth 100000
def v0 (V : Value) : Sl := ⟨V, .slice none 0 0, .slice none 0 0, .slice none 0 0⟩
def x0 (O : AObj) : Ob := ⟨.slice none 0 0, .dead, .dead, .dead, .dead, O, .dead⟩
noncomputable def ini1N (fr : Int) (st : Nat) : Noted := [pr (i64 (bandF fr 15)) (e24 st), pr (.bool (intLt 1073741824 (.ofNat st))) F]
theorem ahead (fr : Int) (st : Nat) (V : Value) (O : AObj) (jt : Nat → Value) (jh : Nat → Nat → Value) :
  (fun y z => (y.ok, y.lg, z.ok, z.lg, canonS (shOf toksA [1] 1011 1013 1014 1015 1017 z.s) 8 z.s jt jh)) (y1 fr st V O) (y2 fr st V O) = (true, revN (ini1N fr st) [], true, [], some (SL (v0 V) (x0 O) st st 0 0 0 jt)) := by kernel_rfl

/-! ### The head of a round -/
def ptr16 (i : Nat) : Value := .pointer (some ⟨16, Nat.add 0 (Nat.mul i 1), none⟩)
def scr (N c : Nat) : Value := .slice (some ⟨16, 0, none⟩) N c
noncomputable def hdT (i k q : Nat) (z : Int) (tp : Ab.Tape) : Ab.Tape := Tr :: Tr :: ptr16 i :: i64 z :: e24 k :: ptr16 i :: i64 z :: e24 q :: tp
noncomputable def hdN (N c : Nat) (O : AObj) (i k q : Nat) (z : Int) (t : Noted) : Noted :=
  pr (.bool (intLt (.ofNat i) (.ofNat N))) Tr :: pr (.bool (intLt (.ofNat i) 200)) Tr :: ((iaB Tryd.prog 22).un (scr N c) (e24 i) = some (ptr16 i)) :: ((ldO Tryd.prog 3).un O (Nat.add 0 (Nat.mul i 1)) = some (i64 z)) :: pr (i64 (bandF (shrF z 2) 65535)) (e24 k) ::
  ((iaB Tryd.prog 22).un (scr N c) (e24 i) = some (ptr16 i)) :: ((ldO Tryd.prog 3).un O (Nat.add 0 (Nat.mul i 1)) = some (i64 z)) :: pr (i64 (bandF z 3)) (e24 q) :: t

/-! ### A post -/
noncomputable def pOf (s : St) : Nat := blkElse (cellAt s (blkOf (cellAt s (blkOf (Tget s.1 5)) 0)) 3) 11
noncomputable def postT (i n : Nat) : Ab.Tape := [Tr, e24 (33 + n % 90), Tr, F, e24 n, e24 (n + 1), e24 (i + 1)]
noncomputable def vq2 (v : Value) : Bool := veq 8 v v && (veq 8 v v && true)
noncomputable def postQ (n : Nat) : Prop := (vq2 (.slice (some ⟨match n with | 0 => 242 | _ + 1 => 246, 0, none⟩) (n + 1) openN) && (vq2 (.agg ⟨[i64 0, e24 n, .slice none 0 0]⟩) && true)) = true
noncomputable def postA (f : Nat → Value) (n : Nat) : Noted := match n with
  | 0 => [appN0 (Row.ofList [ann, txtV 0]) 0 1 2]
  | n + 1 => [appN0 (rowFn f ((n + 1) * 2)) 0 (n + 1) 2, appN (Row.ofList ((rowFn f ((n + 1) * 2)).part 0 ((n + 1) * 2))).len (n + 1) 1 2]
noncomputable def postN (f : Nat → Value) (i n : Nat) : Noted :=
  pr Tr Tr :: pr (i64 (wrapF .i64 (Int.add 33 (remF (.ofNat n) 90)))) (e24 (33 + n % 90)) :: pr (.bool (intLt (wrapF .i64 (.ofNat (u8n (txt (n % 90))))) 128)) Tr :: pr (.bool (notB (intLt (.ofNat n) 1024))) F ::
  (postA f n ++ [pr (i64 (wrapF .i64 (Int.sub (.ofNat (n + 1)) 1))) (e24 n), postQ n,
    pr (i64 (wrapF .i64 (Int.add (.ofNat n) 1))) (e24 (n + 1)), pr (i64 (wrapF .i64 (Int.add (.ofNat i) 1))) (e24 (i + 1))])
noncomputable def postO (f : Nat → Value) (n : Nat) : AObj := match n with
  | 0 => .cells (Row.ofList [ann, txtV 0]) 48
  | n + 1 => .cells ((Row.ofList ((rowFn f ((n + 1) * 2)).part 0 ((n + 1) * 2))).more [ann, txtV (n + 1)]) 48
noncomputable def rndP (N c : Nat) (V9 V10 V11 : Value) (f : Nat → Value) (O13 O14 O15 O16 O17 : AObj) (st a t n i k : Nat) (z : Int) (j0 : Nat → Value) : RCC :=
  rnd (SL ⟨scr N c, V9, V10, V11⟩ ⟨sliceV 11 n, rowV f 2 48 n, O13, O14, O15, O16, O17⟩ st a t n i j0) (hdT i k 0 z (postT i n))
theorem post0 (N c : Nat) (V9 V10 V11 : Value) (f : Nat → Value) (O13 O14 O15 O16 O17 : AObj) (st a t i k : Nat) (z : Int) (j0 jt : Nat → Value) (jh : Nat → Nat → Value) :
  (fun r => (isN r, canonS (shOf toks [1, 9, 10, 11] (pOf (stOf r)) 13 14 15 17 (stOf r)) 8 (stOf r) jt jh)) (rndP N c V9 V10 V11 f O13 O14 O15 O16 O17 st a t 0 i k z j0) =
  (some (revN (hdN N c O16 i k 0 z (postN f i 0)) []), some (SL ⟨scr N c, V9, V10, V11⟩ ⟨sliceV 11 1, postO f 0, O13, O14, O15, O16, O17⟩ st a t 1 (i + 1) jt)) := by kernel_rfl
theorem post1 (N c : Nat) (V9 V10 V11 : Value) (f : Nat → Value) (O13 O14 O15 O16 O17 : AObj) (st a t n i k : Nat) (z : Int) (j0 jt : Nat → Value) (jh : Nat → Nat → Value) :
  (fun r => (isN r, canonS (shOf toks [1, 9, 10, 11] (pOf (stOf r)) 13 14 15 17 (stOf r)) 8 (stOf r) jt jh)) (rndP N c V9 V10 V11 f O13 O14 O15 O16 O17 st a t (n + 1) i k z j0) =
  (some (revN (hdN N c O16 i k 0 z (postN f i (n + 1))) []), some (SL ⟨scr N c, V9, V10, V11⟩ ⟨sliceV 11 (n + 2), postO f (n + 1), O13, O14, O15, O16, O17⟩ st a t (n + 2) (i + 1) jt)) := by kernel_rfl
end Go.Proofs.YtbkgnlcjnimpcaaDoor.fanWhole
