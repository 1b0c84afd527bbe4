/- Texts: the document's reading of a subscription's text, its runs. -/
import Derived.Test.YtbkgnlcjnimpcaaDoorStrP
namespace Go.Proofs.YtbkgnlcjnimpcaaDoor.strs.rf
open Go Go.Ab Go.RowKit Go.Proofs.YtbkgnlcjnimpcaaDoor.strs
open Go.Proofs.YtbkgnlcjnimpcaaDoor.strs.dig (tblO MT memoT' memoT_of)
set_option maxRecDepth 100000
def mk : Marks := with10 [(22, [12])] 5 (with9 [(18, [9, 13])] (marksIn [(23, [14, 20, 23, 29, 32, 16, 36, 40, 45, 49, 53, 59, 64, 68, 72, 76, 77, 78, 55, 85, 98], [19, 28, 58, 63, 75, 82, 87], []), (18, [18, 22], [], []), (22, [], [5, 8, 9, 13], [3])]))
noncomputable def body : Code := Tryd.f23.body.getD .skip
theorem hasBody : Tryd.f23.body = some body := by kernel_rfl
noncomputable def c2 : Code := dropN 2 body
noncomputable def ini1 : Code := codeL c2
noncomputable def rest1 : Code := codeR c2
noncomputable def lp1 : Code := inBlk (codeR ini1)
noncomputable def c4 : Code := dropN 2 rest1
noncomputable def ini2 : Code := codeL c4
noncomputable def rest2 : Code := codeR c4
noncomputable def lp2 : Code := inBlk (codeR ini2)
theorem e1 : c2 = .seq ini1 rest1 := by kernel_rfl
theorem e2 : dropN 1 ini1 = .block 0 (.loop lp1) := by kernel_rfl
theorem e3 : c4 = .seq ini2 rest2 := by kernel_rfl
theorem e4 : dropN 1 ini2 = .block 2 (.loop lp2) := by kernel_rfl
theorem k0 : partsOk Tryd.prog 8 102 2 body = true := by kernel_rfl
theorem k1 : partsOk Tryd.prog 8 102 1 ini1 = true := by kernel_rfl
theorem k2 : partsOk Tryd.prog 8 102 2 rest1 = true := by kernel_rfl
theorem k3 : partsOk Tryd.prog 8 102 1 ini2 = true := by kernel_rfl
theorem okL1 : codeOk 8 102 lp1 = true := by kernel_rfl
theorem okL2 : codeOk 8 102 lp2 = true := by kernel_rfl
theorem okR1 : codeOk 8 102 rest1 = true := by kernel_rfl
theorem okR2 : codeOk 8 102 rest2 = true := by kernel_rfl
theorem plL1 : plansOk Tryd.prog lp1 = true := by kernel_rfl
theorem plL2 : plansOk Tryd.prog lp2 = true := by kernel_rfl
theorem plR1 : plansOk Tryd.prog rest1 = true := by kernel_rfl
theorem plR2 : plansOk Tryd.prog rest2 = true := by kernel_rfl
def rR : AObj := .cells (Row.ofList [str [], str [], e24 0, e24 0, F]) 65
def globs : List AObj := [.dead, .dead, .dead, .dead, .dead, tblO, .dead, .dead]
noncomputable def SA (l : List UInt8) (a b : Int) (i : Nat) (jt : Nat → Value) : St := (treeF (slotsOf [(0, str l), (2, ptrTo 8), (3, e24 0), (4, i64 a), (5, i64 b), (6, e24 i)] jt) 102 0 .leaf, ⟨heapF (globs ++ [rR]) 0 .leaf, 9, 1099511627776⟩)
noncomputable def SB (l : List UInt8) (a b : Int) (n k : Nat) (jt : Nat → Value) : St := (treeF (slotsOf [(0, str l), (2, ptrTo 8), (3, e24 0), (4, i64 a), (5, i64 b), (7, e24 n), (8, e24 k)] jt) 102 0 .leaf, ⟨heapF (globs ++ [rR]) 0 .leaf, 9, 1099511627776⟩)
def sh (q : Nat) (keep : List Nat) : Shape := ⟨[0, 1, 2, 3, 4, 5, 6, 7, q], 102, inL keep, fun _ _ => true, fun y => Nat.beq y 5, fun _ => false, fun _ => false⟩
def kA : List Nat := [0, 2, 3, 4, 5, 6]
def kB : List Nat := [0, 2, 3, 4, 5, 7, 8]
noncomputable def z1 (l : List UInt8) : SC := partsK kr mk 23 2 body (initT [str l] 0 .leaf, dig.hp) []
noncomputable def z2 (l : List UInt8) : SC := partsK kr mk 23 1 ini1 (z1 l).s []
theorem ahead (l : List UInt8) (jt : Nat → Value) (jh : Nat → Nat → Value) : (fun y z => (y.ok, y.lg, z.ok, z.lg, canonS (sh 16 kA) 8 z.s jt jh)) (z1 l) (z2 l) = (true, [], true, [], some (SA l (-1) (-1) 0 jt)) := by kernel_rfl
noncomputable def ltP (a b : Int) (q : Bool) : Prop := pr (.bool (intLt a b)) (bV q)
noncomputable def atP (l : List UInt8) (i c : Nat) : Prop := (ixB Tryd.prog 9).un (str l) (e24 i) = some (b8 c)
noncomputable def isP (c k : Nat) (q : Bool) : Prop := pr (.bool (intEq (.ofNat c) (.ofNat k))) (bV q)
noncomputable def incP (i : Nat) : Prop := pr (i64 (wrapF .i64 (Int.add (.ofNat i) 1))) (e24 (i + 1))
/-! ### The first loop -/
structure Way where
  q : Bool
  a : Bool
  r : Bool
  b : Bool
def bits : List Bool := [true, false]
def ways : List Way := bits.flatMap fun q => bits.flatMap fun a => bits.flatMap fun r => bits.map fun b => ⟨q, a, r, b⟩
theorem ways_all (y : Way) : y ∈ ways := by
  obtain ⟨q, a, r, b⟩ := y
  cases q <;> cases a <;> cases r <;> cases b <;> simp [ways, bits]
def wT (i c : Nat) (y : Way) : Ab.Tape := Tr :: b8 c :: bV y.q :: (match y.q with | true => [bV y.a] | false => []) ++ b8 c :: bV y.r :: (match y.r with | true => [bV y.b] | false => []) ++ [e24 (i + 1)]
noncomputable def wN (l : List UInt8) (a b : Int) (i c : Nat) (y : Way) : Noted := ltP (.ofNat i) (.ofNat (lenL l)) true :: atP l i c :: isP c 47 y.q :: (match y.q with | true => [ltP a 0 y.a] | false => []) ++ atP l i c :: isP c 64 y.r :: (match y.r with | true => [ltP b 0 y.b] | false => []) ++ [incP i]
noncomputable def rnd1 (l : List UInt8) (a b : Int) (i c : Nat) (j0 : Nat → Value) (y : Way) : RCC := codeK kr mk 23 lp1 (SA l a b i j0) (wT i c y)
theorem round1 (l : List UInt8) (a b : Int) (i c : Nat) (j0 jt : Nat → Value) (jh : Nat → Nat → Value) : ways.map (fun y => (fun r => (isN r, canonS (sh 8 kA) 8 (stOf r) jt jh)) (rnd1 l a b i c j0 y)) =
    ways.map (fun y => (some (revN (wN l a b i c y) []), some (SA l (match y.q && y.a with | true => .ofNat i | false => a) (match y.r && y.b with | true => .ofNat i | false => b) (i + 1) jt))) := by kernel_rfl
noncomputable def over1 (l : List UInt8) (a b : Int) (i : Nat) (j0 : Nat → Value) : RCC := codeK kr mk 23 lp1 (SA l a b i j0) [F]
def tupR (r : Value) (n : Nat) : Value := .tuple ⟨[r, e24 n]⟩
def zeroR : Value := .agg ⟨[str [], str [], e24 0, e24 0, F]⟩
def badV : Value := tupR zeroR 11
/-- What is looked at behind it. -/
def bdT : Nat → Ab.Tape
  | 0 => [Tr]
  | 1 => [F, Tr]
  | _ => [F, F, Tr]
noncomputable def bdN (l : List UInt8) (a b : Int) : Nat → Noted
  | 0 => [ltP a 0 true]
  | 1 => [ltP a 0 false, ltP b a true]
  | _ => [ltP a 0 false, ltP b a false, ltP 60 (.ofNat (lenL l)) true]
theorem ends_bad (l : List UInt8) (a b : Int) (i : Nat) (j0 : Nat → Value) : [0, 1, 2].map (fun k => (fun r => (isX r, isR Tryd.f23 (codeK kr mk 23 rest1 (stOf r) (bdT k)))) (over1 l a b i j0)) = [0, 1, 2].map (fun k => (some (0, [ltP (.ofNat i) (.ofNat (lenL l)) false]), some (badV, revN (bdN l a b k) []))) := by kernel_rfl
noncomputable def z3 (l : List UInt8) (a b : Int) (i : Nat) (j0 : Nat → Value) : SC := partsK kr mk 23 2 rest1 (stOf (over1 l a b i j0)) [F, F, F]
noncomputable def z4 (l : List UInt8) (a b : Int) (i k : Nat) (j0 : Nat → Value) : SC := partsK kr mk 23 1 ini2 (z3 l a b i j0).s [e24 k]
theorem ends_ok (l : List UInt8) (a b : Int) (i k : Nat) (j0 jt : Nat → Value) (jh : Nat → Nat → Value) : (fun r y z => (isX r, y.ok, y.lg, z.ok, z.lg, canonS (sh 8 kB) 8 z.s jt jh)) (over1 l a b i j0) (z3 l a b i j0) (z4 l a b i k j0) =
    (some (0, [ltP (.ofNat i) (.ofNat (lenL l)) false]), true, revN [ltP a 0 false, ltP b a false, ltP 60 (.ofNat (lenL l)) false] [], true, [pr (i64 (wrapF .i64 (Int.add b 1))) (e24 k)], some (SB l a b 0 k jt)) := by kernel_rfl
/-! ### The second loop -/
def dgT (c : Nat) : Nat → Ab.Tape
  | 0 => [Tr, b8 c, Tr]
  | 1 => [Tr, b8 c, F, b8 c, Tr]
  | _ => [Tr, b8 c, F, b8 c, F, Tr]
noncomputable def dgN (l : List UInt8) (n k c : Nat) : Nat → Noted
  | 0 => [ltP (.ofNat k) (.ofNat (lenL l)) true, atP l k c, ltP (.ofNat c) 48 true]
  | 1 => [ltP (.ofNat k) (.ofNat (lenL l)) true, atP l k c, ltP (.ofNat c) 48 false, atP l k c, ltP 57 (.ofNat c) true]
  | _ => [ltP (.ofNat k) (.ofNat (lenL l)) true, atP l k c, ltP (.ofNat c) 48 false, atP l k c, ltP 57 (.ofNat c) false, ltP 1073741824 (.ofNat n) true]
theorem r_bad (l : List UInt8) (a b : Int) (n k c : Nat) (j0 : Nat → Value) : [0, 1, 2].map (fun q => isR Tryd.f23 (codeK kr mk 23 lp2 (SB l a b n k j0) (dgT c q))) = [0, 1, 2].map (fun q => some (badV, revN (dgN l n k c q) [])) := by kernel_rfl
noncomputable def rnd2 (l : List UInt8) (a b : Int) (n k c x d n2 : Nat) (j0 : Nat → Value) : RCC := codeK kr mk 23 lp2 (SB l a b n k j0) [Tr, b8 c, F, b8 c, F, F, e24 x, b8 c, b8 d, e24 d, e24 n2, e24 (k + 1)]
theorem round2 (l : List UInt8) (a b : Int) (n k c x d n2 : Nat) (j0 jt : Nat → Value) (jh : Nat → Nat → Value) : (fun r => (isN r, canonS (sh 8 kB) 8 (stOf r) jt jh)) (rnd2 l a b n k c x d n2 j0) =
    (some (revN [ltP (.ofNat k) (.ofNat (lenL l)) true, atP l k c, ltP (.ofNat c) 48 false, atP l k c, ltP 57 (.ofNat c) false, ltP 1073741824 (.ofNat n) false, pr (i64 (wrapF .i64 (Int.mul 10 (.ofNat n)))) (e24 x), atP l k c, pr (.int .u8 (wrapF .u8 (Int.sub (.ofNat c) 48))) (b8 d), pr (i64 (wrapF .i64 (.ofNat d))) (e24 d), pr (i64 (wrapF .i64 (Int.add (.ofNat x) (.ofNat d)))) (e24 n2), incP k] []), some (SB l a b n2 (k + 1) jt)) := by kernel_rfl
noncomputable def over2 (l : List UInt8) (a b : Int) (n k : Nat) (j0 : Nat → Value) : RCC := codeK kr mk 23 lp2 (SB l a b n k j0) [F]
/-! ### The end -/
noncomputable def last (l : List UInt8) (a b : Int) (n k : Nat) (j0 : Nat → Value) (tp : Ab.Tape) : RCC := codeK kr mk 23 rest2 (stOf (over2 l a b n k j0)) tp
noncomputable def slP (l : List UInt8) (lo hi : Option Value) (s : List UInt8) : Prop := cut.slN l lo hi s
noncomputable def cutN (l sp ch : List UInt8) (a b : Int) (p : Nat) : Noted := [slP l none (some (i64 a)) sp, pr (i64 (wrapF .i64 (Int.add a 1))) (e24 p), slP l (some (e24 p)) (some (i64 b)) ch]
def cutT (sp ch : List UInt8) (p : Nat) : Ab.Tape := [str sp, e24 p, str ch]
/-- The labels, and the number. -/
def nwT : Nat → Ab.Tape
  | 0 => [F]
  | 1 => [Tr, F]
  | _ => [Tr, Tr, F, Tr]
noncomputable def nwN (sp ch : List UInt8) (n : Nat) : Nat → Noted
  | 0 => [isK 38 [str sp] F]
  | 1 => [isK 38 [str sp] Tr, isK 38 [str ch] F]
  | _ => [isK 38 [str sp] Tr, isK 38 [str ch] Tr, ltP (.ofNat n) 0 false, ltP 1073741824 (.ofNat n) true]
theorem l_bad (l sp ch : List UInt8) (a b : Int) (n k p : Nat) (j0 : Nat → Value) : [0, 1, 2].map (fun q => (fun r => (isX r, isR Tryd.f23 (last l a b n k j0 (cutT sp ch p ++ nwT q)))) (over2 l a b n k j0)) = [0, 1, 2].map (fun q => (some (2, [ltP (.ofNat k) (.ofNat (lenL l)) false]), some (badV, revN (cutN l sp ch a b p ++ nwN sp ch n q) []))) := by kernel_rfl
end Go.Proofs.YtbkgnlcjnimpcaaDoor.strs.rf
