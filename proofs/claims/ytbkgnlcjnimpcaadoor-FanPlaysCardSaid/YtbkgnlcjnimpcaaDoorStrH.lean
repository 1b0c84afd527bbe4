/- Texts: a number without a sign, round by round. -/
import Derived.Test.YtbkgnlcjnimpcaaDoorStrG
namespace Go.Proofs.YtbkgnlcjnimpcaaDoor.strs.uin
open Go Go.Ab Go.RowKit Go.Proofs.YtbkgnlcjnimpcaaDoor.strs
open Go.Proofs.YtbkgnlcjnimpcaaDoor.strs.num (slV rowV goP atP ldP dgI bigP)
set_option maxRecDepth 100000
def mk : Marks := with8 [(73, [99])] (with4 [(73, [104])] (marksIn [(73, [19, 102, 108, 114, 117, 120, 124, 128, 133, 137, 141, 147, 150, 151, 154, 158, 163], [103], [])]))
noncomputable def body : Code := Tryd.f73.body.getD .skip
theorem hasBody : Tryd.f73.body = some body := by kernel_rfl
noncomputable def c11 : Code := dropN 11 body
noncomputable def ini : Code := codeL c11
noncomputable def rest : Code := codeR c11
noncomputable def lp : Code := inBlk (codeR ini)
theorem e1 : c11 = .seq ini rest := by kernel_rfl
theorem e2 : dropN 1 ini = .block 3 (.loop lp) := by kernel_rfl
theorem k0 : partsOk Tryd.prog 8 172 11 body = true := by kernel_rfl
theorem k1 : partsOk Tryd.prog 8 172 1 ini = true := by kernel_rfl
theorem okL : codeOk 8 172 lp = true := by kernel_rfl
theorem okR : codeOk 8 172 rest = true := by kernel_rfl
theorem plL : plansOk Tryd.prog lp = true := by kernel_rfl
theorem plR : plansOk Tryd.prog rest = true := by kernel_rfl
def pA (i : Nat) : Value := .pointer (some ⟨8, i, Option.none⟩)
def u64 (n : Int) : Value := .int .u64 n
noncomputable def SU (s : List UInt8) (n : Int) (i : Nat) (jt : Nat → Value) : St := (treeF (slotsOf [(1, e24 10), (8, F), (10, u64 1844674407370955162), (11, u64 18446744073709551615), (12, F), (13, u64 n), (99, slV s), (100, .int .i64 (.ofNat (⟨⟨s⟩⟩ : ByteArray).size)), (101, e24 i)] jt) 172 0 .leaf, ⟨heapF (deads 8 ++ [rowV s]) 0 .leaf, 9, 1099511627776⟩)
def sh (b : Nat) : Shape := ⟨[0, 1, 2, 3, 4, 5, 6, 7, b], 172, inL [1, 8, 10, 11, 12, 13, 99, 100, 101], fun _ _ => true, fun _ => false, fun y => Nat.beq y 8, fun _ => false⟩
noncomputable def z1 (l : List UInt8) : SC := partsK noneK mk 73 11 body (initT [str l, e24 10, e24 0] 0 .leaf, bareOf 8) [F]
noncomputable def z2 (l : List UInt8) : SC := partsK noneK mk 73 1 ini (z1 l).s []
noncomputable def nilP (l : List UInt8) (b : Bool) : Prop := pr (.bool (eqL l [])) (bV b)
def tupU (n : Int) (e : Value) : Value := .tuple ⟨[u64 n, e]⟩
def synV : Value := tupU 0 (num.errV 2)
def rngV : Value := tupU 18446744073709551615 (num.errV 1)
theorem ahead (l : List UInt8) (jt : Nat → Value) (jh : Nat → Nat → Value) : (fun y z => (y.ok, y.lg, z.ok, z.lg, canonS (sh 16) 8 z.s jt jh)) (z1 l) (z2 l) = (true, [nilP l false], true, [bigP l], some (SU l 0 0 jt)) := by kernel_rfl
theorem empty (l : List UInt8) : saidOf ((CCk noneK mk 73).un [str l, e24 10, e24 0].toArray (bareOf 8) [Tr] []) = some (synV, [nilP l true]) := by kernel_rfl
/-! ### A byte's way -/
structure Way where
  b : Bool
  a1 : Bool
  a2 : Bool
  a3 : Bool
  a4 : Bool
def bits : List Bool := [true, false]
def ways : List Way := bits.flatMap fun b => bits.flatMap fun a1 => bits.flatMap fun a2 => bits.flatMap fun a3 => bits.map fun a4 => ⟨b, a1, a2, a3, a4⟩
theorem ways_all (y : Way) : y ∈ ways := by
  obtain ⟨b, a1, a2, a3, a4⟩ := y
  cases b <;> cases a1 <;> cases a2 <;> cases a3 <;> cases a4 <;> simp [ways, bits]
def digit (y : Way) : Bool := y.a1 && y.a2
def sound (y : Way) : Bool := digit y || (y.a3 && y.a4)
def lettT (y : Way) : Ab.Tape := bV y.a3 :: (match y.a3 with | true => [bV y.a4] | false => [])
def wayT (y : Way) : Ab.Tape := bV y.b :: bV y.a1 :: (match y.a1 with | true => bV y.a2 :: (match y.a2 with | true => [] | false => lettT y) | false => lettT y)
noncomputable def lowI (c : Nat) : Int := bitI Nat.lor (IntKind.u8.wrap ↑(BitVec.ofInt IntKind.u8.bits (Int.ofNat c) ||| BitVec.ofInt IntKind.u8.bits 32).toNat) .u8 (.ofNat c) 32
noncomputable def ltI (c : Nat) : Int := wrapF .u8 (Int.add (wrapF .u8 (Int.sub (lowI c) 97)) 10)
noncomputable def A1 (c : Nat) : Bool := notB (intLt (.ofNat c) 48)
noncomputable def A2 (c : Nat) : Bool := notB (intLt 57 (.ofNat c))
noncomputable def A3 (c : Nat) : Bool := notB (intLt (lowI c) 97)
noncomputable def A4 (c : Nat) : Bool := notB (intLt 122 (lowI c))
noncomputable def lettN (c : Nat) (y : Way) : Noted := pr (.bool (A3 c)) (bV y.a3) :: (match y.a3 with | true => [pr (.bool (A4 c)) (bV y.a4)] | false => [])
noncomputable def wayN (c : Nat) (y : Way) : Noted := pr (.bool (intEq (.ofNat c) 95)) (bV y.b) :: pr (.bool (A1 c)) (bV y.a1) :: (match y.a1 with | true => pr (.bool (A2 c)) (bV y.a2) :: (match y.a2 with | true => [] | false => lettN c y) | false => lettN c y)
noncomputable def preN (s : List UInt8) (i c : Nat) (y : Way) : Noted := [goP s i true, atP s i, ldP s i c] ++ wayN c y
noncomputable def dI (c : Nat) (y : Way) : Int := match digit y with | true => dgI c | false => ltI c
noncomputable def ge10 (d : Int) : Bool := notB (intLt d (wrapF .u8 10))
noncomputable def geC (n : Int) : Bool := notB (intLt n 1844674407370955162)
noncomputable def m10 (n : Int) : Int := wrapF .u64 (Int.mul n (wrapF .u64 10))
noncomputable def cv (d : Int) : Int := wrapF .u64 d
noncomputable def sm (a b : Int) : Int := wrapF .u64 (Int.add a b)
noncomputable def big (n : Int) : Bool := intLt 18446744073709551615 n
noncomputable def dN (c : Nat) (y : Way) (d : Int) (b : Bool) : Noted := [pr (.int .u8 (dI c y)) (.int .u8 d), pr (.bool (ge10 d)) (bV b)]
noncomputable def cN (n : Int) (b : Bool) : Noted := [pr (.bool (geC n)) (bV b)]
noncomputable def sN (n d d2 d3 d4 : Int) (b : Bool) : Noted := [pr (u64 (m10 n)) (u64 d2), pr (u64 (cv d)) (u64 d3), pr (u64 (sm d2 d3)) (u64 d4), pr (.bool (intLt d4 d2)) (bV b)]
noncomputable def bN (d4 : Int) (b : Bool) : Noted := [pr (.bool (big d4)) (bV b)]
noncomputable def iN (i : Nat) : Noted := [pr (i64 (wrapF .i64 (Int.add (.ofNat i) 1))) (e24 (i + 1))]
noncomputable def rnd (s : List UInt8) (n : Int) (i c : Nat) (j0 : Nat → Value) (y : Way) (tp : Ab.Tape) : RCC := codeK noneK mk 73 lp (SU s n i j0) (Tr :: pA i :: b8 c :: wayT y ++ tp)
def good : List Way := ways.filter sound
def bad : List Way := ways.filter fun y => notB (sound y)
theorem r_syn (s : List UInt8) (n : Int) (i c : Nat) (j0 : Nat → Value) : bad.map (fun y => isR Tryd.f73 (rnd s n i c j0 y [])) = bad.map (fun y => some (synV, revN (preN s i c y) [])) := by kernel_rfl
theorem r_ten (s : List UInt8) (n d : Int) (i c : Nat) (j0 : Nat → Value) : good.map (fun y => isR Tryd.f73 (rnd s n i c j0 y [.int .u8 d, Tr])) = good.map (fun y => some (synV, revN (preN s i c y ++ dN c y d true) [])) := by kernel_rfl
theorem r_cut (s : List UInt8) (n d : Int) (i c : Nat) (j0 : Nat → Value) : good.map (fun y => isR Tryd.f73 (rnd s n i c j0 y [.int .u8 d, F, Tr])) = good.map (fun y => some (rngV, revN (preN s i c y ++ dN c y d false ++ cN n true) [])) := by kernel_rfl
theorem r_sum (s : List UInt8) (n d d2 d3 d4 : Int) (i c : Nat) (j0 : Nat → Value) : good.map (fun y => isR Tryd.f73 (rnd s n i c j0 y [.int .u8 d, F, F, u64 d2, u64 d3, u64 d4, Tr])) = good.map (fun y => some (rngV, revN (preN s i c y ++ dN c y d false ++ cN n false ++ sN n d d2 d3 d4 true) [])) := by kernel_rfl
theorem r_big (s : List UInt8) (n d d2 d3 d4 : Int) (i c : Nat) (j0 : Nat → Value) : good.map (fun y => isR Tryd.f73 (rnd s n i c j0 y [.int .u8 d, F, F, u64 d2, u64 d3, u64 d4, F, Tr])) = good.map (fun y => some (rngV, revN (preN s i c y ++ dN c y d false ++ cN n false ++ sN n d d2 d3 d4 false ++ bN d4 true) [])) := by kernel_rfl
theorem r_go (s : List UInt8) (n d d2 d3 d4 : Int) (i c : Nat) (j0 jt : Nat → Value) (jh : Nat → Nat → Value) : good.map (fun y => (fun r => (isN r, canonS (sh 8) 8 (stOf r) jt jh)) (rnd s n i c j0 y [.int .u8 d, F, F, u64 d2, u64 d3, u64 d4, F, F, e24 (i + 1)])) = good.map (fun y => (some (revN (preN s i c y ++ dN c y d false ++ cN n false ++ sN n d d2 d3 d4 false ++ bN d4 false ++ iN i) []), some (SU s d4 (i + 1) jt))) := by kernel_rfl
noncomputable def over (s : List UInt8) (n : Int) (i : Nat) (j0 : Nat → Value) : RCC := codeK noneK mk 73 lp (SU s n i j0) [F]
theorem ends (s : List UInt8) (n : Int) (i : Nat) (j0 : Nat → Value) : (fun r => (isX r, saidOf (finK noneK mk 73 Tryd.f73 rest (stOf r) []))) (over s n i j0) = (some (3, [goP s i false]), some (tupU n .nilIface, [])) := by kernel_rfl
end Go.Proofs.YtbkgnlcjnimpcaaDoor.strs.uin
