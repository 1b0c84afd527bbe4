/- FanPages' run: what is marked, the states at the heads of its two loops. -/
import Derived.Test.YtbkgnlcjnimpcaaDoorAbFr
import Derived.Test.YtbkgnlcjnimpcaaDoorAbX
namespace Go.Proofs.YtbkgnlcjnimpcaaDoor.fanPages
open Go Go.Ab
set_option maxRecDepth 100000
def mkR : Marks := with4 [(5, [74]), (31, [122])] (marksIn [(5, [37, 62, 72, 76, 80, 110, 111, 127, 128, 139, 143, 148, 64], [73], []), (12, [17], [], []), (24, [78, 88], [], []), (31, [99, 106, 113, 128], [121], [130]), (34, [24, 33, 43, 58, 69, 84], [], []), (13, [42, 53, 82, 92], [], [])])
/-- What must come, comes. -/
def awakeM : Memo := ⟨15, [], .bool true⟩
theorem awakeOk : MemoOk Tryd.prog awakeM := memo_of_quick (quickB_sound noneK_sound 40) rfl rfl (by kernel_rfl)
noncomputable def kn : Known := memoK [awakeM]
theorem knOk : CallSound Tryd.prog 8 kn.call := memoK_sound (fun x hx => by rw [List.mem_singleton] at hx; rw [hx]; exact awakeOk)
noncomputable def draw : CallB → DrawB := drawB Tryd.prog enters
noncomputable def drawc : CallB → CallC → DrawC := drawC Tryd.prog enters
noncomputable def CB : CallB := quickB kn 40
noncomputable def CC : CallC := callC Tryd.prog enters FT kn draw drawc mkR 1048576 40
noncomputable def DB : DrawB := draw CB
noncomputable def DC : DrawC := drawc CB CC
theorem CBok : CallSound Tryd.prog 8 (callOf CB) := quickB_sound knOk 40
theorem CCok : CallEq CB CC := callC_eq (fun _ _ h => drawC_eq h) mkR 1048576 40
theorem DCok : DrawEq DB DC := drawC_eq CCok
theorem DBok : DrawGood Tryd.prog 8 (fun ops T h => (DB ops).un T h) := drawB_sound entersOk zerosOk CBok
noncomputable def body : Code := Tryd.f5.body.getD .skip
theorem hasBody : Tryd.f5.body = some body := by kernel_rfl
noncomputable def c5 : Code := dropN 5 body
noncomputable def iniA : Code := codeL c5
noncomputable def restA : Code := codeR c5
noncomputable def blkA : Code := codeR iniA
noncomputable def d3 : Code := dropN 3 restA
noncomputable def iniB : Code := codeL d3
noncomputable def restB : Code := codeR d3
noncomputable def blkB : Code := codeR iniB
def inBlk : Code → Code
  | .block _ (.loop c) => c
  | c => c
def inBl : Code → Code
  | .block _ c => c
  | c => c
noncomputable def lpA : Code := inBlk blkA
noncomputable def hdA : Code := codeL lpA
noncomputable def lpA2 : Code := codeR lpA
noncomputable def lpB : Code := inBlk blkB
noncomputable def hdB : Code := codeL lpB
noncomputable def lpB2 : Code := codeR lpB
noncomputable def bb : Code := inBl (codeL lpB2)
noncomputable def incB : Code := codeR lpB2
noncomputable def c2 : Code := dropN 2 bb
theorem e1 : c5 = .seq iniA restA := by kernel_rfl
theorem e2 : dropN 1 iniA = blkA := by kernel_rfl
theorem e3 : blkA = .block 0 (.loop lpA) := by kernel_rfl
theorem e4 : lpA = .seq hdA lpA2 := by kernel_rfl
theorem e5 : d3 = .seq iniB restB := by kernel_rfl
theorem e6 : dropN 1 iniB = blkB := by kernel_rfl
theorem e7 : blkB = .block 2 (.loop lpB) := by kernel_rfl
theorem e8 : lpB = .seq hdB lpB2 := by kernel_rfl
theorem e9 : lpB2 = .seq (.block 3 bb) incB := by kernel_rfl
theorem k0 : partsOk Tryd.prog 8 161 5 body = true := by kernel_rfl
theorem k1 : partsOk Tryd.prog 8 161 1 iniA = true := by kernel_rfl
theorem k2 : partsOk Tryd.prog 8 161 3 restA = true := by kernel_rfl
theorem k3 : partsOk Tryd.prog 8 161 1 iniB = true := by kernel_rfl
theorem k4 : partsOk Tryd.prog 8 161 2 bb = true := by kernel_rfl
theorem okA : codeOk 8 161 lpA = true := by kernel_rfl
theorem okHA : codeOk 8 161 hdA = true := by kernel_rfl
theorem okHB : codeOk 8 161 hdB = true := by kernel_rfl
theorem okC : codeOk 8 161 c2 = true := by kernel_rfl
theorem okI : codeOk 8 161 incB = true := by kernel_rfl
theorem okR : codeOk 8 161 restB = true := by kernel_rfl
theorem plA : plansOk Tryd.prog lpA = true := by kernel_rfl
theorem plHA : plansOk Tryd.prog hdA = true := by kernel_rfl
theorem plHB : plansOk Tryd.prog hdB = true := by kernel_rfl
theorem plC : plansOk Tryd.prog c2 = true := by kernel_rfl
theorem plI : plansOk Tryd.prog incB = true := by kernel_rfl
theorem plR : plansOk Tryd.prog restB = true := by kernel_rfl
noncomputable def code (c : Code) (s : St) (tp : Ab.Tape) : RCC := (codeC Tryd.prog enters CB CC DC (mkR 5) 1000 c).un s.1 s.2 tp []
noncomputable def parts (k : Nat) (c : Code) (s : St) (tp : Ab.Tape) : SC := goNC Tryd.prog enters CB CC DC (mkR 5) 1000 k c ⟨s, tp, [], true⟩

/-! ### The states -/
/-- The sizes: none, a row of none, a row; they keep the number 16. -/
inductive V where
  | nil
  | empty (c : Nat)
  | some (n c : Nat) (f : Nat → Value)
def sizesV : V → Value
  | .nil => .slice none 0 0
  | .empty c => .slice (Option.some ⟨16, 0, none⟩) 0 c
  | .some n c _ => .slice (Option.some ⟨16, 0, none⟩) (n + 1) c
def roO : V → AObj
  | .some n _ f => .ro (rowFn f ((n + 1) * 1)) 3
  | _ => .dead
def str (l : List UInt8) : Value := .string ⟨⟨l⟩⟩
def e24 (n : Nat) : Value := .int .i64 (.ofNat n)
def openN : Nat := 18446744073709551616
/-- What the k-th post says. -/
noncomputable def txt (k : Nat) : UInt8 := (wrapF .u8 (.ofNat (33 + k))).toNat.toUInt8
def ann : Value := str [97, 110, 110]
noncomputable def fP (j : Nat) : Value := match Nat.beq (j % 2) 0 with
  | true => ann
  | false => str [txt (j / 2)]
def postsV (n : Nat) : Value := match n with
  | 0 => .slice none 0 0
  | _ + 1 => .slice (Option.some ⟨11, 0, none⟩) n openN
noncomputable def postsO (n : Nat) : AObj := match n with
  | 0 => .dead
  | _ + 1 => .cells (rowFn fP (n * 2)) 48
def feedO (a : Nat) : AObj := cellsOfL [str [119], str [99], e24 a, e24 a, .bool false] 56
noncomputable def heapOf (OO : AObj) (n : Nat) (fo : AObj) : AHeap :=
  ⟨heapF [.dead, .dead, .dead, .dead, .dead, .dead, .dead, .dead, cellsOfL [.slice (Option.some ⟨9, 0, none⟩) 1 openN, .slice none 0 0] 26, cellsOfL [str [119], str [99], .slice (Option.some ⟨10, 0, none⟩) 1 openN, postsV n] 84, cellsOfL [ann] 9, postsO n, fo, .dead, .dead, .dead, OO] 0 .leaf, 17, 1099511627776⟩
noncomputable def SA (VV : Value) (OO : AObj) (nn : Int) (i : Nat) (jt : Nat → Value) : St := (treeF (slotsOf [(1, VV), (5, ptrTo 8), (6, i64 nn), (7, e24 i)] jt) 161 0 .leaf, heapOf OO i .dead)
noncomputable def SB (VV : Value) (OO : AObj) (n a i : Nat) (jt : Nat → Value) : St := (treeF (slotsOf [(1, VV), (5, ptrTo 8), (6, e24 n), (8, ptrTo 12), (10, e24 a), (11, e24 i)] jt) 161 0 .leaf, heapOf OO n (feedO a))
noncomputable def SM (VV : Value) (OO : AObj) (n a i k : Nat) (jt : Nat → Value) : St := (treeF (slotsOf [(1, VV), (5, ptrTo 8), (6, e24 n), (8, ptrTo 12), (10, e24 a), (11, e24 i), (12, e24 (k + 1))] jt) 161 0 .leaf, heapOf OO n (feedO a))
def cellAt (s : St) (b i : Nat) : Value := match s.2.get b with
  | .cells c _ => c.t.get undef i
  | _ => undef
def blkElse (v : Value) (d : Nat) : Nat := match v with
  | .pointer (some a) => a.block
  | .slice (some a) _ _ => a.block
  | .slice none _ _ => d
  | _ => d
/-- z: are the posts laid? -/
def shOf (z : Bool) (keep : List Nat) (s : St) : Shape :=
  (fun m => (fun l => ⟨[0, 1, 2, 3, 4, 5, 6, 7, m, l, blkOf (cellAt s l 2), blkElse (cellAt s l 3) 11, (match inL keep 8 with | true => blkOf (Tget s.1 8) | false => 12), 13, 14, 15, 16], 161, inL keep, fun _ _ => true, fun _ => false, (fun y => match z with | true => Nat.beq y 16 || Nat.beq y 11 | false => Nat.beq y 16), Nat.beq 1⟩) (blkOf (cellAt s m 0))) (blkOf (Tget s.1 5))
def keepA : List Nat := [5, 6, 7]
def keepB : List Nat := [5, 6, 8, 10, 11]
def keepM : List Nat := [5, 6, 8, 10, 11, 12]
def F : Value := .bool false
def Tr : Value := .bool true
/-! ### Ahead of the first loop -/
noncomputable def s0 (many : Int) (VV : Value) (OO : AObj) : St := (initT [i64 many, VV] 0 .leaf, (bareOf 8).push OO)
noncomputable def y1 (many : Int) (VV : Value) (OO : AObj) : SC := parts 5 body (s0 many VV OO) []
noncomputable def y2 (many : Int) (VV : Value) (OO : AObj) : SC := parts 1 iniA (y1 many VV OO).s []
/-! ### A round of the first loop, and what stands between the loops -/
noncomputable def rndA (VV : Value) (OO : AObj) (nn : Int) (i : Nat) (j0 : Nat → Value) : RCC := code lpA (SA VV OO nn i j0) [Tr]
noncomputable def outA (VV : Value) (OO : AObj) (i : Nat) (j0 : Nat → Value) : RCC := code hdA (SA VV OO (.ofNat i) i j0) [F]
noncomputable def y3 (VV : Value) (OO : AObj) (i : Nat) (j0 : Nat → Value) : SC := parts 3 restA (stOf (outA VV OO i j0)) []
noncomputable def y4 (VV : Value) (OO : AObj) (i : Nat) (j0 : Nat → Value) : SC := parts 1 iniB (y3 VV OO i j0).s []
/-! ### The end -/
noncomputable def outB (VV : Value) (OO : AObj) (n : Nat) (j0 : Nat → Value) : RCC := code hdB (SB VV OO n n 70 j0) [F]
noncomputable def fin (s : St) : Option OutC := lastC Tryd.prog enters CB CC DC (mkR 5) 1000 Tryd.f5 restB s []
end Go.Proofs.YtbkgnlcjnimpcaaDoor.fanPages
