/- Texts: what is a label, by the document's function. -/
import Derived.Test.YtbkgnlcjnimpcaaDoorEvX
import Derived.WalkKit
namespace Go.Proofs.YtbkgnlcjnimpcaaDoor.strs
open Go Go.Ab Go.RowKit
set_option maxRecDepth 100000
def str (l : List UInt8) : Value := .string ⟨⟨l⟩⟩
def e24 (n : Nat) : Value := .int .i64 (.ofNat n)
def b8 (n : Nat) : Value := .int .u8 (.ofNat n)
def F : Value := .bool false
def Tr : Value := .bool true
def bV (b : Bool) : Value := .bool b
def deads : Nat → List AObj
  | 0 => []
  | n + 1 => .dead :: deads n
def bare8 : AHeap := ⟨heapF (deads 8) 0 .leaf, 8, 1099511627776⟩
/-- Slots alone are kept: a state without blocks of its own. -/
def shP (n : Nat) (keep : List Nat) : Shape := ⟨[0, 1, 2, 3, 4, 5, 6, 7], n, inL keep, fun _ _ => true, fun _ => false, fun _ => false, fun _ => false⟩
noncomputable def draw : CallB → DrawB := drawB Tryd.prog enters
noncomputable def drawc : CallB → CallC → DrawC := drawC Tryd.prog enters
def inBlk : Code → Code
  | .block _ (.loop c) => c
  | c => c
/-! ### Is a byte none of a label's? -/
def odd1 (c : Nat) : Bool := (Nat.blt c 97 || Nat.blt 122 c) && ((Nat.blt c 48 || Nat.blt 57 c) && notB (Nat.beq c 45))
def oddL (l : List UInt8) : Bool := l.any fun x => odd1 (u8n x)
def lab (l : List UInt8) : Bool := notB (oddL l) && (Nat.ble 1 l.length && Nat.ble l.length 16)

/-! ### Label -/
def mkL : Marks := marksIn [(38, [7, 13, 18, 24, 29, 36, 9, 40, 44], [12, 17, 23, 28, 35], [])]
noncomputable def CB : CallB := quickB noneK 40
noncomputable def CC : CallC := callC Tryd.prog enters FT noneK draw drawc mkL 1048576 40
noncomputable def DB : DrawB := draw CB
noncomputable def DC : DrawC := drawc CB CC
theorem CBok : CallSound Tryd.prog 8 (callOf CB) := quickB_sound noneK_sound 40
theorem CCok : CallEq CB CC := callC_eq (fun _ _ h => drawC_eq h) mkL 1048576 40
theorem DCok : DrawEq DB DC := drawC_eq CCok
theorem DBok : DrawGood Tryd.prog 8 (fun ops T h => (DB ops).un T h) := drawB_sound entersOk zerosOk CBok
noncomputable def body : Code := Tryd.f38.body.getD .skip
theorem hasBody : Tryd.f38.body = some body := by kernel_rfl
noncomputable def c1 : Code := dropN 1 body
noncomputable def ini : Code := codeL c1
noncomputable def rest : Code := codeR c1
noncomputable def blk : Code := codeR ini
noncomputable def lp : Code := inBlk blk
noncomputable def hd : Code := codeL lp
noncomputable def lp2 : Code := codeR lp
theorem e1 : c1 = .seq ini rest := by kernel_rfl
theorem e2 : dropN 1 ini = blk := by kernel_rfl
theorem e3 : blk = .block 0 (.loop lp) := by kernel_rfl
theorem e4 : lp = .seq hd lp2 := by kernel_rfl
theorem k0 : partsOk Tryd.prog 8 46 1 body = true := by kernel_rfl
theorem k1 : partsOk Tryd.prog 8 46 1 ini = true := by kernel_rfl
theorem okL : codeOk 8 46 lp = true := by kernel_rfl
theorem okH : codeOk 8 46 hd = true := by kernel_rfl
theorem okR : codeOk 8 46 rest = true := by kernel_rfl
theorem plL : plansOk Tryd.prog lp = true := by kernel_rfl
theorem plH : plansOk Tryd.prog hd = true := by kernel_rfl
theorem plR : plansOk Tryd.prog rest = true := by kernel_rfl
noncomputable def code (c : Code) (s : St) (tp : Ab.Tape) : RCC := (codeC Tryd.prog enters CB CC DC (mkL 38) 1000 c).un s.1 s.2 tp []
noncomputable def parts (k : Nat) (c : Code) (s : St) (tp : Ab.Tape) : SC := goNC Tryd.prog enters CB CC DC (mkL 38) 1000 k c ⟨s, tp, [], true⟩
noncomputable def SL (l : List UInt8) (i : Nat) (jt : Nat → Value) : St := (treeF (slotsOf [(0, str l), (3, e24 i)] jt) 46 0 .leaf, bare8)
noncomputable def s0 (l : List UInt8) : St := (initT [str l] 0 .leaf, bareOf 8)
noncomputable def y1 (l : List UInt8) : SC := parts 1 body (s0 l) []
noncomputable def y2 (l : List UInt8) : SC := parts 1 ini (y1 l).s []
theorem ahead (l : List UInt8) (jt : Nat → Value) (jh : Nat → Nat → Value) : (fun y z => (y.ok, y.lg, z.ok, z.lg, canonS (shP 46 [0, 3]) 8 z.s jt jh)) (y1 l) (y2 l) = (true, [], true, [], some (SL l 0 jt)) := by kernel_rfl
/-- Of a byte: what is looked at, and found. -/
structure Way where
  b1 : Bool
  b2 : Bool
  b3 : Bool
  b4 : Bool
  b5 : Bool
def wayT (x : Value) (y : Way) (t : Ab.Tape) : Ab.Tape :=
  x :: bV y.b1 :: (match y.b1 with | true => [] | false => [x, bV y.b2]) ++ (match y.b1 || y.b2 with | true => (x :: bV y.b3 :: (match y.b3 with | true => [] | false => [x, bV y.b4])) ++ (match y.b3 || y.b4 with | true => [x, bV y.b5] | false => []) | false => []) ++ t
noncomputable def wayN (p : Prop) (c : Nat) (y : Way) (t : Noted) : Noted :=
  p :: pr (.bool (intLt (.ofNat c) 97)) (bV y.b1) :: (match y.b1 with | true => [] | false => [p, pr (.bool (intLt 122 (.ofNat c))) (bV y.b2)]) ++
  (match y.b1 || y.b2 with | true => (p :: pr (.bool (intLt (.ofNat c) 48)) (bV y.b3) :: (match y.b3 with | true => [] | false => [p, pr (.bool (intLt 57 (.ofNat c))) (bV y.b4)])) ++ (match y.b3 || y.b4 with | true => [p, pr (.bool (notB (intEq (.ofNat c) 45))) (bV y.b5)] | false => []) | false => []) ++ t
def okWays : List Way := [⟨false, false, false, false, false⟩, ⟨true, false, true, false, false⟩, ⟨true, false, false, false, false⟩]
def oddWays : List Way := [⟨true, false, true, false, true⟩, ⟨true, false, false, true, true⟩, ⟨false, true, false, true, true⟩]
noncomputable def lenN (l : List UInt8) (i : Nat) (b : Bool) : Prop := pr (.bool (intLt (.ofNat i) (.ofNat (lenL l)))) (bV b)
noncomputable def ixN (l : List UInt8) (i c : Nat) : Prop := (ixB Tryd.prog 9).un (str l) (e24 i) = some (b8 c)
noncomputable def okL1 (l : List UInt8) (i c : Nat) (j0 jt : Nat → Value) (jh : Nat → Nat → Value) (y : Way) : Option Noted × Option St := (fun r => (isN r, canonS (shP 46 [0, 3]) 8 (stOf r) jt jh)) (code lp (SL l i j0) (Tr :: wayT (b8 c) y [e24 (i + 1)]))
noncomputable def okL2 (l : List UInt8) (i c : Nat) (jt : Nat → Value) (y : Way) : Option Noted × Option St := (some (revN (lenN l i true :: wayN (ixN l i c) c y [pr (i64 (wrapF .i64 (Int.add (.ofNat i) 1))) (e24 (i + 1))]) []), some (SL l (i + 1) jt))
theorem round (l : List UInt8) (i c : Nat) (j0 jt : Nat → Value) (jh : Nat → Nat → Value) : okWays.map (okL1 l i c j0 jt jh) = okWays.map (okL2 l i c jt) := by kernel_rfl
noncomputable def isR (fn : Func) (r : RCC) : Option (Value × Noted) := match r with
  | .ret T h _ lg => (match (resB Tryd.prog fn.results.toList).un h T with | some vs => some (oneA vs, lg) | none => none)
  | _ => none
theorem stop (l : List UInt8) (i c : Nat) (j0 : Nat → Value) : oddWays.map (fun y => isR Tryd.f38 (code lp (SL l i j0) (Tr :: wayT (b8 c) y []))) = oddWays.map (fun y => some (.bool false, revN (lenN l i true :: wayN (ixN l i c) c y []) [])) := by kernel_rfl
end Go.Proofs.YtbkgnlcjnimpcaaDoor.strs
