/- FanWhole's run: a round that asks. -/
import Derived.Test.YtbkgnlcjnimpcaaDoorFanWholeB
namespace Go.Proofs.YtbkgnlcjnimpcaaDoor.fanWhole
open Go Go.Ab
set_option maxRecDepth 100000
noncomputable def ptrP (k : Nat) : Value := .pointer (some ⟨11, Nat.add 0 (Nat.mul k 2), none⟩)
noncomputable def postV (k : Nat) : Value := .agg ⟨[ann, txtV k]⟩
noncomputable def withinT (b : Nat) : Nat → Nat → Ab.Tape → Ab.Tape
  | 0, _, t => t
  | m + 1, j, t => Tr :: Tr :: ptrP (b + j) :: postV (b + j) :: e24 (b + (j + 1)) :: withinT b m (j + 1) t
/-- e: as many as were asked for? -/
def endT : Bool → Ab.Tape → Ab.Tape
  | true, t => F :: t
  | false, t => Tr :: F :: t
noncomputable def askT (i b y c : Nat) (e : Bool) : Ab.Tape := F :: Tr :: e24 (y + 1) :: F :: Tr :: Tr :: e24 b :: withinT b c 0 (endT e [e24 (i + 1)])
noncomputable def withinN (Vp : Value) (O11 : AObj) (n y b : Nat) : Nat → Nat → Noted → Noted
  | 0, _, t => t
  | m + 1, j, t => pr (.bool (intLt (.ofNat j) (.ofNat (y + 1)))) Tr :: pr (.bool (intLt (.ofNat (b + j)) (.ofNat n))) Tr :: ((iaB Tryd.prog 28).un Vp (e24 (b + j)) = some (ptrP (b + j))) ::
    ((ldO Tryd.prog 48).un O11 (Nat.add 0 (Nat.mul (b + j) 2)) = some (postV (b + j))) :: pr (i64 (wrapF .i64 (Int.add (.ofNat (b + j)) 1))) (e24 (b + (j + 1))) :: withinN Vp O11 n y b m (j + 1) t
noncomputable def endN (n y b c : Nat) : Bool → Noted → Noted
  | true, t => pr (.bool (intLt (.ofNat c) (.ofNat (y + 1)))) F :: t
  | false, t => pr (.bool (intLt (.ofNat c) (.ofNat (y + 1)))) Tr :: pr (.bool (intLt (.ofNat (b + c)) (.ofNat n))) F :: t
def opL (a y : Nat) : List Value := [i64 4, str [119], str [99], str [], str [], str [], str [], e24 a, e24 (y + 1)]
def gotV (q c : Nat) : Value := match c with
  | 0 => .slice none 0 0
  | _ + 1 => .slice (some ⟨q, 0, none⟩) c openN
def repL (q b c : Nat) : List Value := [i64 0, e24 (b + c), gotV q c]
/-- A row with one element more. -/
noncomputable def moreO (f : Nat → Value) (size t : Nat) (xs : List Value) (n : Nat) : AObj := match n with
  | 0 => .cells (Row.ofList xs) t
  | n + 1 => .cells ((rowFn f ((n + 1) * size)).more xs) t
noncomputable def moreN (f : Nat → Value) (size : Nat) (xs : List Value) (n : Nat) : Prop := match n with
  | 0 => appN0 (Row.ofList xs) 0 1 size
  | n + 1 => appN ((n + 1) * size) (n + 1) 1 size
def bR (s : St) : Nat := blkOf (Tget s.1 10)
def bO (s : St) : Nat := blkOf (Tget s.1 9)
def bQ (s : St) : Nat := blkElse (cellAt s (blkOf (Tget s.1 18)) 2) 17
noncomputable def dead2 (s : St) : St := (s.1, heapPut (heapPut s.2 (bR s) .dead) (bQ s) .dead)
def askQ (q b c : Nat) : Prop := ((veq 8 (.agg ⟨repL q b c⟩) (.agg ⟨repL q b c⟩) && true) && true) = true
noncomputable def askN (Vp : Value) (O11 : AObj) (fO fR : Nat → Value) (L n a y i k b c q : Nat) (e : Bool) : Noted :=
  pr F F :: pr Tr Tr :: pr (i64 (wrapF .i64 (Int.add 1 (bandF (.ofNat k) 15)))) (e24 (y + 1)) :: pr (.bool (intLt 64 (.ofNat (y + 1)))) F :: pr (.bool (notB (intLt 2147483647 (.ofNat a)))) Tr :: pr (.bool (notB (intLt 64 (.ofNat (y + 1))))) Tr ::
  pr (i64 (if (.ofNat n : Int) < .ofNat a then .ofNat n else .ofNat a)) (e24 b) :: withinN Vp O11 n y b c 0 (endN n y b c e [askQ q b c, moreN fO 9 (opL a y) L, moreN fR 3 (repL q b c) L, pr (i64 (wrapF .i64 (Int.add (.ofNat i) 1))) (e24 (i + 1))])
noncomputable def rndA (N c1 : Nat) (V11 Vp : Value) (fO fR : Nat → Value) (O11 O15 O16 : AObj) (st a t n i k y b L : Nat) (z : Int) (e : Bool) (j0 : Nat → Value) (c : Nat) : RCC :=
  rnd (SL ⟨scr N c1, sliceV 13 L, sliceV 14 L, V11⟩ ⟨Vp, O11, rowV fO 9 34 L, rowV fR 3 30 L, O15, O16, .dead⟩ st a t n i j0) (hdT i k 1 z (askT i b y c e))
noncomputable def askL (s : St) (jt : Nat → Value) (jh : Nat → Nat → Value) : AObj × AObj × Option St := (heapGet s.2 (bR s), heapGet s.2 (bQ s), canonS (shOf toks [1, 11] (pOf s) (bO s) (bR s) 15 (bQ s) (dead2 s)) 8 (dead2 s) jt jh)
noncomputable def askR (N c1 : Nat) (V11 Vp : Value) (fO fR : Nat → Value) (O11 O15 O16 : AObj) (st a t n i y b L : Nat) (jt : Nat → Value) (c q : Nat) : AObj × AObj × Option St :=
  (moreO fR 3 30 (repL q b c) L, rowV (fP b) 2 48 c, some (SL ⟨scr N c1, sliceV 13 (L + 1), sliceV 14 (L + 1), V11⟩ ⟨Vp, O11, moreO fO 9 34 (opL a y) L, .dead, O15, O16, .dead⟩ st a t n (i + 1) jt))
noncomputable def ask1 (N c1 : Nat) (V11 Vp : Value) (fO fR : Nat → Value) (O11 O15 O16 : AObj) (st a t n i k y b L : Nat) (z : Int) (e : Bool) (j0 jt : Nat → Value) (jh : Nat → Nat → Value) (c : Nat) : Option Noted × AObj × AObj × Option St :=
  (fun r => (isN r, askL (stOf r) jt jh)) (rndA N c1 V11 Vp fO fR O11 O15 O16 st a t n i k y b L z e j0 c)
noncomputable def ask2 (N c1 : Nat) (V11 Vp : Value) (fO fR : Nat → Value) (O11 O15 O16 : AObj) (st a t n i k y b L : Nat) (z : Int) (e : Bool) (j0 jt : Nat → Value) (c : Nat) : Option Noted × AObj × AObj × Option St :=
  (fun q => (some (revN (hdN N c1 O16 i k 1 z (askN Vp O11 fO fR L n a y i k b c q e)) []), askR N c1 V11 Vp fO fR O11 O15 O16 st a t n i y b L jt c q)) (bQ (stOf (rndA N c1 V11 Vp fO fR O11 O15 O16 st a t n i k y b L z e j0 c)))
end Go.Proofs.YtbkgnlcjnimpcaaDoor.fanWhole
