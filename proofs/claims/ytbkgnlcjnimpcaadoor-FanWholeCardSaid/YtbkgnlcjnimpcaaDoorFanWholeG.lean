/- FanWhole's run: a round that takes. -/
import Derived.Test.YtbkgnlcjnimpcaaDoorFanWholeC
namespace Go.Proofs.YtbkgnlcjnimpcaaDoor.fanWhole
open Go Go.Ab
set_option maxRecDepth 100000
def ptrO (x : Nat) : Value := .pointer (some ⟨13, Nat.add 0 (Nat.mul x 9), none⟩)
def ptrR (x : Nat) : Value := .pointer (some ⟨14, Nat.add 0 (Nat.mul x 3), none⟩)
def opV (fr m : Nat) : Value := .agg ⟨opL fr m⟩
/-- What was answered: so many posts at number 17. -/
def reV (at_ c : Nat) : Value := .agg ⟨[i64 0, e24 at_, gotV 17 c]⟩
def partV (kn c d : Nat) : Value := match c with
  | 0 => .slice none 0 0
  | _ + 1 => match d with
    | 0 => .slice (some ⟨17, 0, none⟩) 0 0
    | _ + 1 => .slice (some ⟨17, kn * 2, none⟩) d d
noncomputable def takeT (a : Nat) : Nat → Nat → Ab.Tape → Ab.Tape
  | 0, _, t => t
  | m + 1, j, t => postV (a + j) :: e24 (a + (j + 1)) :: takeT a m (j + 1) t
noncomputable def lookT (a : Nat) : Nat → Nat → Ab.Tape → Ab.Tape
  | 0, _, t => t
  | m + 1, j, t => e24 (a + j) :: F :: e24 (33 + (a + j) % 90) :: F :: lookT a m (j + 1) t
/-- Does what was answered fit? -/
def fitT (c : Nat) (t : Ab.Tape) : Ab.Tape := match c with
  | 0 => F :: Tr :: t
  | _ + 1 => Tr :: Tr :: t
noncomputable def takT (i a T x fr m at_ c kn d : Nat) : Ab.Tape :=
  F :: F :: e24 x :: ptrO x :: opV fr m :: e24 x :: ptrR x :: reV at_ c :: F :: F :: F :: Tr :: fitT c (F :: e24 kn :: partV kn c d :: takeT a d 0 (e24 (T + d) :: lookT a d 0 [e24 (i + 1)]))
noncomputable def takeN (O17 : AObj) (a kn : Nat) : Nat → Nat → Noted → Noted
  | 0, _, t => t
  | m + 1, j, t => ((ldO Tryd.prog 48).un O17 (Nat.add (kn * 2) (Nat.mul j 2)) = some (postV (a + j))) :: pr (i64 (wrapF .i64 (Int.add (.ofNat (a + j)) 1))) (e24 (a + (j + 1))) :: takeN O17 a kn m (j + 1) t
/-- What was told, with so many texts more. -/
noncomputable def toldR (fT : Nat → Value) (T a : Nat) : Nat → Row
  | 0 => rowFn fT (T * 1)
  | d + 1 => match T, d with
    | 0, 0 => Row.ofList [txtV (a + 0)]
    | _, _ => (toldR fT T a d).more [txtV (a + d)]
noncomputable def toldO (fT : Nat → Value) (T a d : Nat) : AObj := match T, d with
  | 0, 0 => .dead
  | _, _ => .cells (toldR fT T a d) 9
noncomputable def toldN (T a j : Nat) : Prop := match T, j with
  | 0, 0 => appN0 (Row.ofList [txtV (a + 0)]) 0 1 1
  | 0, j + 1 => appN (j + 1) (j + 1) 1 1
  | T + 1, j => appN ((T + 1) * 1 + j) (T + 1 + j) 1 1
noncomputable def lookN (st a T : Nat) : Nat → Nat → Noted → Noted
  | 0, _, t => t
  | m + 1, j, t => pr (i64 (wrapF .i64 (Int.add (.ofNat st) (.ofNat (T + j))))) (e24 (a + j)) :: pr (.bool (notB (intEq (.ofNat (a + j)) (.ofNat (a + j))))) F :: pr (i64 (wrapF .i64 (Int.add 33 (remF (.ofNat (a + j)) 90)))) (e24 (33 + (a + j) % 90)) ::
    pr (.bool (notB (eqL (byteList ⟨⟨[txt ((a + j) % 90)]⟩⟩) (byteList ⟨⟨[UInt8.ofNat (wrapF .u8 (.ofNat (33 + (a + j) % 90))).toNat]⟩⟩)))) F :: toldN T a j :: lookN st a T m (j + 1) t
noncomputable def fitN (fr at_ c : Nat) (t : Noted) : Noted := match c with
  | 0 => pr F F :: pr (.bool (notB (intLt (.ofNat fr) (.ofNat at_)))) Tr :: t
  | c + 1 => pr Tr Tr :: pr (.bool (intEq (.ofNat at_) (wrapF .i64 (Int.add (.ofNat fr) (.ofNat (c + 1)))))) Tr :: t
noncomputable def takN (V10 : Value) (O13 O14 O17 : AObj) (st i a T k q L x fr m at_ c kn d : Nat) : Noted :=
  pr (.bool (intEq (.ofNat q) 0)) F :: pr (.bool (intEq (.ofNat q) 1)) F :: pr (i64 (remF (.ofNat k) (L + 1))) (e24 x) :: ((iaB Tryd.prog 38).un (sliceV 13 (L + 1)) (e24 x) = some (ptrO x)) :: ((ldO Tryd.prog 34).un O13 (Nat.add 0 (Nat.mul x 9)) = some (opV fr m)) ::
  pr (i64 (remF (.ofNat k) (L + 1))) (e24 x) :: ((iaB Tryd.prog 39).un V10 (e24 x) = some (ptrR x)) :: ((ldO Tryd.prog 30).un O14 (Nat.add 0 (Nat.mul x 3)) = some (reV at_ c)) ::
  pr (.bool (notB (andB (intEq (.ofNat fr) (.ofNat fr)) (andB (intEq (.ofNat (m + 1)) (.ofNat (m + 1))) true)))) F :: pr (.bool (intLt 1073741824 (.ofNat fr))) F :: pr (.bool (intLt 64 (.ofNat (m + 1)))) F :: pr (.bool (notB (intLt (.ofNat (m + 1)) (.ofNat c)))) Tr ::
  fitN fr at_ c (pr (.bool (intLt (.ofNat a) (.ofNat fr))) F :: pr (i64 (if (.ofNat c : Int) < wrapF .i64 (Int.sub (.ofNat a) (.ofNat fr)) then .ofNat c else wrapF .i64 (Int.sub (.ofNat a) (.ofNat fr)))) (e24 kn) ::
  sliceFact Tryd.prog 28 (gotV 17 c) (some (e24 kn)) (some (e24 c)) (some (e24 c)) (partV kn c d) ::
  takeN O17 a kn d 0 (pr (i64 (wrapF .i64 (Int.add (.ofNat T) (.ofNat d)))) (e24 (T + d)) :: lookN st a T d 0 [pr (i64 (wrapF .i64 (Int.add (.ofNat i) 1))) (e24 (i + 1))]))
noncomputable def rndK (N c1 : Nat) (V10 Vp : Value) (fT : Nat → Value) (O11 O13 O14 O16 O17 : AObj) (st a T n i k q L x fr m at_ c kn : Nat) (z : Int) (j0 : Nat → Value) (d : Nat) : RCC :=
  rnd (SL ⟨scr N c1, sliceV 13 (L + 1), V10, sliceV 15 T⟩ ⟨Vp, O11, O13, O14, rowV fT 1 9 T, O16, O17⟩ st a T n i j0) (hdT i k q z (takT i a T x fr m at_ c kn d))
/-- Blocks that are read alone are put away. -/
noncomputable def deadK (s : St) : St := (s.1, heapPut (heapPut s.2 14 .dead) 17 .dead)
noncomputable def shK (s : St) : Shape := ⟨[0, 1, 2, 3, 4, 5, 6, 7, 8, 9, 10, 11, 12, 13, 14, blkElse (Tget s.1 11) 15, 16, 17] ++ toks, 187, inL keep, fun _ _ => true, fun _ => false, inL [9, 11, 13, 14, 15, 16, 17], inL [1, 10]⟩
noncomputable def tak1 (N c1 : Nat) (V10 Vp : Value) (fT : Nat → Value) (O11 O13 O14 O16 O17 : AObj) (st a T n i k q L x fr m at_ c kn : Nat) (z : Int) (j0 jt : Nat → Value) (jh : Nat → Nat → Value) (d : Nat) : Option Noted × Option St :=
  (fun r => (isN r, canonS (shK (stOf r)) 8 (deadK (stOf r)) jt jh)) (rndK N c1 V10 Vp fT O11 O13 O14 O16 O17 st a T n i k q L x fr m at_ c kn z j0 d)
noncomputable def tak2 (N c1 : Nat) (V10 Vp : Value) (fT : Nat → Value) (O11 O13 O14 O16 O17 : AObj) (st a T n i k q L x fr m at_ c kn : Nat) (z : Int) (jt : Nat → Value) (d : Nat) : Option Noted × Option St :=
  (some (revN (hdN N c1 O16 i k q z (takN V10 O13 O14 O17 st i a T k q L x fr m at_ c kn d)) []), some (SL ⟨scr N c1, sliceV 13 (L + 1), V10, sliceV 15 (T + d)⟩ ⟨Vp, O11, O13, .dead, toldO fT T a d, O16, .dead⟩ st (a + d) (T + d) n (i + 1) jt))

/-! ### Nothing was asked yet; the end -/
noncomputable def rndE (N c1 : Nat) (V10 V11 Vp : Value) (O11 O13 O14 O15 O16 O17 : AObj) (st a T n i k q : Nat) (z : Int) (j0 : Nat → Value) : RCC :=
  rnd (SL ⟨scr N c1, sliceV 13 0, V10, V11⟩ ⟨Vp, O11, O13, O14, O15, O16, O17⟩ st a T n i j0) (hdT i k q z [F, F, e24 (i + 1)])
noncomputable def noneN (i q : Nat) : Noted := [pr (.bool (intEq (.ofNat q) 0)) F, pr (.bool (intEq (.ofNat q) 1)) F, pr (i64 (wrapF .i64 (Int.add (.ofNat i) 1))) (e24 (i + 1))]
noncomputable def shE : Shape := ⟨[0, 1, 2, 3, 4, 5, 6, 7, 8, 9, 10, 11, 12, 13, 14, 15, 16, 17] ++ toks, 187, inL keep, fun _ _ => true, fun _ => false, inL [9, 11, 13, 14, 15, 16, 17], inL [1, 10, 11]⟩
theorem none1 (N c1 : Nat) (V10 V11 Vp : Value) (O11 O13 O14 O15 O16 O17 : AObj) (st a T n i k q : Nat) (z : Int) (j0 jt : Nat → Value) (jh : Nat → Nat → Value) :
  (fun r => (isN r, canonS shE 8 (stOf r) jt jh)) (rndE N c1 V10 V11 Vp O11 O13 O14 O15 O16 O17 st a T n i k q z j0) =
  (some (revN (hdN N c1 O16 i k q z (noneN i q)) []), some (SL ⟨scr N c1, sliceV 13 0, V10, V11⟩ ⟨Vp, O11, O13, O14, O15, O16, O17⟩ st a T n (i + 1) jt)) := by kernel_rfl
noncomputable def outE (B : Option Addr) (N c1 : Nat) (V9 V10 Vp : Value) (B2 : Option Addr) (c2 : Nat) (x : Ob) (st a T n i : Nat) (tp : Ab.Tape) (j0 : Nat → Value) : RCC :=
  out (SL ⟨.slice B N c1, V9, V10, .slice B2 T c2⟩ x st a T n i j0) tp
theorem out1 (B : Option Addr) (N c1 : Nat) (V9 V10 Vp : Value) (B2 : Option Addr) (c2 : Nat) (x : Ob) (st a T n i : Nat) (j0 : Nat → Value) :
  (fun r => (isX r, saidOf (fin (stOf r) [Tr]))) (outE B N c1 V9 V10 Vp B2 c2 x st a T n i [F] j0) = (some (0, [pr (.bool (intLt (.ofNat i) (.ofNat N))) F]), some (.bool true, [pr (.bool (intEq (.ofNat T) (.ofNat T))) Tr])) := by kernel_rfl
theorem out2 (B : Option Addr) (N c1 : Nat) (V9 V10 Vp : Value) (B2 : Option Addr) (c2 : Nat) (x : Ob) (st a T n i : Nat) (j0 : Nat → Value) :
  (fun r => (isX r, saidOf (fin (stOf r) [Tr]))) (outE B N c1 V9 V10 Vp B2 c2 x st a T n i [Tr, F] j0) = (some (0, [pr (.bool (intLt (.ofNat i) 200)) F, pr (.bool (intLt (.ofNat i) (.ofNat N))) Tr]), some (.bool true, [pr (.bool (intEq (.ofNat T) (.ofNat T))) Tr])) := by kernel_rfl
end Go.Proofs.YtbkgnlcjnimpcaaDoor.fanWhole
