/- Texts: the number in a text, inside: the short ones, round by round. -/
import Derived.Test.YtbkgnlcjnimpcaaDoorStrE
namespace Go.Proofs.YtbkgnlcjnimpcaaDoor.strs.num
open Go Go.Ab Go.RowKit Go.Proofs.YtbkgnlcjnimpcaaDoor.strs
set_option maxRecDepth 100000
def mk : Marks := with8 [(49, [47])] (with4 [(49, [52])] (fun g t => match Nat.beq g 49 && Nat.beq t 72 with | true => 9 | false => marksIn [(49, [24, 27, 34, 38, 44, 50, 54, 56, 59, 61, 62, 63, 66, 68], [33, 37, 41, 51, 65], [])] g t))
noncomputable def body : Code := Tryd.f49.body.getD .skip
theorem hasBody : Tryd.f49.body = some body := by kernel_rfl
noncomputable def c2 : Code := dropN 2 body
noncomputable def cA : Code := codeL c2
noncomputable def tailC : Code := codeR c2
noncomputable def rg : Code := codeL cA
def thenOf : Code → Code
  | .cond _ x _ => x
  | c => c
noncomputable def yes : Code := thenOf (codeR cA)
noncomputable def y3 : Code := dropN 3 yes
noncomputable def ini : Code := codeL y3
noncomputable def rest : Code := codeR y3
noncomputable def blk : Code := codeR ini
noncomputable def lp : Code := inBlk blk
noncomputable def hd : Code := codeL lp
noncomputable def lp2 : Code := codeR lp
theorem e1 : c2 = .seq (.seq rg (.cond (.tmp 30) yes .skip)) tailC := by kernel_rfl
theorem e2 : y3 = .seq ini rest := by kernel_rfl
theorem e3 : dropN 1 ini = .block 0 (.loop lp) := by kernel_rfl
theorem e4 : lp = .seq hd lp2 := by kernel_rfl
theorem k0 : partsOk Tryd.prog 8 77 2 body = true := by kernel_rfl
theorem k1 : partsOk Tryd.prog 8 77 3 yes = true := by kernel_rfl
theorem k2 : partsOk Tryd.prog 8 77 1 ini = true := by kernel_rfl
theorem okG : codeOk 8 77 rg = true := by kernel_rfl
theorem okL : codeOk 8 77 lp = true := by kernel_rfl
theorem okH : codeOk 8 77 hd = true := by kernel_rfl
theorem okR : codeOk 8 77 rest = true := by kernel_rfl
theorem plG : plansOk Tryd.prog rg = true := by kernel_rfl
theorem plL : plansOk Tryd.prog lp = true := by kernel_rfl
theorem plH : plansOk Tryd.prog hd = true := by kernel_rfl
theorem plR : plansOk Tryd.prog rest = true := by kernel_rfl
def pA (i : Nat) : Value := .pointer (some ⟨8, i, Option.none⟩)
def slV (l : List UInt8) : Value := .slice (some ⟨8, 0, none⟩) (⟨⟨l⟩⟩ : ByteArray).size OPEN
def rowV (l : List UInt8) : AObj := .cells (Row.ofList (bytesOf ⟨⟨l⟩⟩)) 5
noncomputable def SF (l s : List UInt8) (n : Int) (i : Nat) (jt : Nat → Value) : St := (treeF (slotsOf [(5, str l), (6, .int .i64 n), (47, slV s), (48, .int .i64 (.ofNat (⟨⟨s⟩⟩ : ByteArray).size)), (49, e24 i)] jt) 77 0 .leaf, ⟨heapF (deads 8 ++ [rowV s]) 0 .leaf, 9, 1099511627776⟩)
def sh (b : Nat) : Shape := ⟨[0, 1, 2, 3, 4, 5, 6, 7, b], 77, inL [5, 6, 47, 48, 49], fun _ _ => true, fun _ => false, fun y => Nat.beq y 8, fun _ => false⟩
noncomputable def z1 (l : List UInt8) : SC := partsK noneK mk 49 2 body (initT [str l] 0 .leaf, bareOf 8) []
noncomputable def z2 (l : List UInt8) : RCC := codeK noneK mk 49 rg (z1 l).s [Tr, Tr]
noncomputable def z3 (l : List UInt8) (c : Nat) (tp : Ab.Tape) : SC := partsK noneK mk 49 3 yes (stOf (z2 l)) (b8 c :: tp)
noncomputable def z4 (l : List UInt8) (c : Nat) (tp : Ab.Tape) : SC := partsK noneK mk 49 1 ini (z3 l c tp).s []
noncomputable def lenP (l : List UInt8) (b : Bool) : Prop := pr (.bool (intLt 0 (.ofNat (lenL l)))) (bV b)
noncomputable def shortP (l : List UInt8) (b : Bool) : Prop := pr (.bool (intLt (.ofNat (lenL l)) 19)) (bV b)
noncomputable def ixP (l : List UInt8) (c : Nat) : Prop := (ixB Tryd.prog 9).un (str l) (e24 0) = some (b8 c)
noncomputable def isP (c k : Nat) (b : Bool) : Prop := pr (.bool (intEq (.ofNat c) (.ofNat k))) (bV b)
/-- Is there a sign? -/
noncomputable def noN (l : List UInt8) (c : Nat) : Noted := [ixP l c, isP c 45 false, ixP l c, isP c 43 false]
noncomputable def sgN (l s : List UInt8) (c : Nat) (b : Bool) : Bool → Noted
  | true => [ixP l c, isP c 45 true, cut.slN l (some (e24 1)) none s, pr (.bool (intLt (.ofNat (lenL s)) 1)) (bV b)]
  | false => [ixP l c, isP c 45 false, ixP l c, isP c 43 true, cut.slN l (some (e24 1)) none s, pr (.bool (intLt (.ofNat (lenL s)) 1)) (bV b)]
def sgT (s : List UInt8) (c : Nat) (b : Bool) : Bool → Ab.Tape
  | true => [Tr, str s, bV b]
  | false => [F, b8 c, Tr, str s, bV b]
noncomputable def bigP (s : List UInt8) : Prop := Nat.blt (⟨⟨s⟩⟩ : ByteArray).size 140737488355328 = true
theorem first (l : List UInt8) : (fun y r => (y.ok, y.lg, isN r, Tget (stOf r).1 30)) (z1 l) (z2 l) = (true, [], some (revN [lenP l true, shortP l true] []), Tr) := by kernel_rfl
theorem plain (l : List UInt8) (c : Nat) (jt : Nat → Value) (jh : Nat → Nat → Value) : (fun y z => (y.ok, y.lg, z.ok, z.lg, canonS (sh 16) 8 z.s jt jh)) (z3 l c [F, b8 c, F]) (z4 l c [F, b8 c, F]) = (true, revN (noN l c) [], true, [bigP l], some (SF l l 0 0 jt)) := by kernel_rfl
theorem signed (l s : List UInt8) (c : Nat) (jt : Nat → Value) (jh : Nat → Nat → Value) : [true, false].map (fun q => (fun y z => (y.ok, y.lg, z.ok, z.lg, canonS (sh 16) 8 z.s jt jh)) (z3 l c (sgT s c false q)) (z4 l c (sgT s c false q))) = [true, false].map (fun q => (true, revN (sgN l s c false q) [], true, [bigP s], some (SF l s 0 0 jt))) := by kernel_rfl
def errV (k : Nat) : Value := .iface 109 (e24 k)
def tupV (n : Int) (e : Value) : Value := .tuple ⟨[i64 n, e]⟩
theorem alone (l s : List UInt8) (c : Nat) : [true, false].map (fun q => saidOf ((CCk noneK mk 49).un [str l].toArray (bareOf 8) (Tr :: Tr :: b8 c :: sgT s c true q) [])) = [true, false].map (fun q => some (tupV 0 (errV 2), revN (lenP l true :: shortP l true :: sgN l s c true q) [])) := by kernel_rfl
/-! ### A round -/
noncomputable def dgI (c : Nat) : Int := wrapF .u8 (Int.sub (.ofNat c) 48)
noncomputable def nxI (n d : Int) : Int := wrapF .i64 (Int.add (wrapF .i64 (Int.mul n 10)) (wrapF .i64 d))
noncomputable def rnd (l s : List UInt8) (n : Int) (i c : Nat) (j0 : Nat → Value) (tp : Ab.Tape) : RCC := codeK noneK mk 49 lp (SF l s n i j0) (Tr :: pA i :: b8 c :: tp)
noncomputable def goP (s : List UInt8) (i : Nat) (b : Bool) : Prop := pr (.bool (intLt (.ofNat i) (.ofNat (⟨⟨s⟩⟩ : ByteArray).size))) (bV b)
noncomputable def atP (s : List UInt8) (i : Nat) : Prop := (iaB Tryd.prog 41).un (slV s) (e24 i) = some (pA i)
noncomputable def ldP (s : List UInt8) (i c : Nat) : Prop := (ldO Tryd.prog 5).un (rowV s) i = some (b8 c)
noncomputable def rndN (s : List UInt8) (i c : Nat) (d : Int) (b : Bool) : Noted := [goP s i true, atP s i, ldP s i c, pr (.int .u8 (dgI c)) (.int .u8 d), pr (.bool (intLt 9 d)) (bV b)]
noncomputable def nxN (i : Nat) (n d d2 d3 d4 : Int) : Noted := [pr (i64 (wrapF .i64 (Int.mul n 10))) (i64 d2), pr (i64 (wrapF .i64 d)) (i64 d3), pr (i64 (wrapF .i64 (Int.add d2 d3))) (i64 d4), pr (i64 (wrapF .i64 (Int.add (.ofNat i) 1))) (e24 (i + 1))]
theorem bad (l s : List UInt8) (n d : Int) (i c : Nat) (j0 : Nat → Value) : isR Tryd.f49 (rnd l s n i c j0 [.int .u8 d, Tr]) = some (tupV 0 (errV 2), revN (rndN s i c d true) []) := by kernel_rfl
theorem round (l s : List UInt8) (n d d2 d3 d4 : Int) (i c : Nat) (j0 jt : Nat → Value) (jh : Nat → Nat → Value) : (fun r => (isN r, canonS (sh 8) 8 (stOf r) jt jh)) (rnd l s n i c j0 [.int .u8 d, F, i64 d2, i64 d3, i64 d4, e24 (i + 1)]) = (some (revN (rndN s i c d false ++ nxN i n d d2 d3 d4) []), some (SF l s d4 (i + 1) jt)) := by kernel_rfl
noncomputable def over (l s : List UInt8) (n : Int) (i : Nat) (j0 : Nat → Value) : RCC := codeK noneK mk 49 lp (SF l s n i j0) [F]
noncomputable def last (l s : List UInt8) (n : Int) (i c : Nat) (j0 : Nat → Value) (tp : Ab.Tape) : RCC := codeK noneK mk 49 rest (stOf (over l s n i j0)) (b8 c :: tp)
theorem ends (l s : List UInt8) (n : Int) (i c : Nat) (j0 : Nat → Value) : (fun r p => (isX r, isR Tryd.f49 p)) (over l s n i j0) (last l s n i c j0 [F]) = (some (0, [goP s i false]), some (tupV n .nilIface, revN [ixP l c, isP c 45 false] [])) := by kernel_rfl
noncomputable def ngI (n : Int) : Int := IntKind.i64.wrap (0 - n)
theorem ends2 (l s : List UInt8) (n d : Int) (i c : Nat) (j0 : Nat → Value) : (fun r p => (isX r, isR Tryd.f49 p)) (over l s n i j0) (last l s n i c j0 [Tr, i64 d]) = (some (0, [goP s i false]), some (tupV d .nilIface, revN [ixP l c, isP c 45 true, pr (i64 (ngI n)) (i64 d)] [])) := by kernel_rfl
end Go.Proofs.YtbkgnlcjnimpcaaDoor.strs.num
