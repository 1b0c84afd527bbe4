/- FanWhole's run: what is marked, the states at the head of its loop. -/
import Derived.Test.YtbkgnlcjnimpcaaDoorEvX
namespace Go.Proofs.YtbkgnlcjnimpcaaDoor.fanWhole
open Go Go.Ab
set_option maxRecDepth 100000
/-- 6: appends to rows of any length. -/
def with6 (l : List (Nat × List Nat)) (mk : Marks) (g : Nat) (t : Nat) : Nat := match l.any (fun x => Nat.beq x.1 g && inL x.2 t) with
  | true => 6
  | false => mk g t
def mkR : Marks := with6 [(3, [174, 178, 136]), (31, [74, 82])] (with5 [(13, [63])] (with4 [(3, [61, 67, 80, 87]), (31, [122]), (13, [68])]
  (marksIn [(3, [36, 51, 54, 57, 63, 68, 138, 154, 78, 85, 107, 108, 122, 126, 143, 152, 159, 183], [60, 66, 79, 86], []), (11, [19], [], []), (12, [17], [], []), (24, [78, 88], [], []), (31, [66, 90, 99, 106, 113, 128], [121], [130, 91]), (34, [24, 33, 43, 58, 61, 69, 84], [], []), (13, [42, 53, 82, 92], [], []), (51, [14], [], [])])))
/-- What must come, comes. -/
def awakeM : Memo := ⟨15, [], .bool true⟩
theorem awakeOk : MemoOk Tryd.prog awakeM := memo_of_quick (quickB_sound noneK_sound 40) rfl rfl (by kernel_rfl)
noncomputable def kn : Known := memoK [awakeM]
theorem knOk : CallSound Tryd.prog 8 kn.call := memoK_sound (fun x hx => by rw [List.mem_singleton] at hx; rw [hx]; exact awakeOk)
noncomputable def draw : CallB → DrawB := drawB Tryd.prog enters
noncomputable def drawc : CallB → CallC → DrawC := drawC Tryd.prog enters
noncomputable def CB : CallB := quickB kn 40
noncomputable def CC : CallC := callC Tryd.prog enters FT kn draw drawc mkR 1048576 40
noncomputable def DB : DrawB := draw CB
noncomputable def DC : DrawC := drawc CB CC
theorem CBok : CallSound Tryd.prog 8 (callOf CB) := quickB_sound knOk 40
theorem CCok : CallEq CB CC := callC_eq (fun _ _ h => drawC_eq h) mkR 1048576 40
theorem DCok : DrawEq DB DC := drawC_eq CCok
theorem DBok : DrawGood Tryd.prog 8 (fun ops T h => (DB ops).un T h) := drawB_sound entersOk zerosOk CBok
noncomputable def body : Code := Tryd.f3.body.getD .skip
theorem hasBody : Tryd.f3.body = some body := by kernel_rfl
noncomputable def c11 : Code := dropN 11 body
noncomputable def ini : Code := codeL c11
noncomputable def rest : Code := codeR c11
noncomputable def blk : Code := codeR ini
def inBlk : Code → Code
  | .block _ (.loop c) => c
  | c => c
noncomputable def lp : Code := inBlk blk
noncomputable def hd : Code := codeL lp
theorem e1 : c11 = .seq ini rest := by kernel_rfl
theorem e2 : dropN 1 ini = blk := by kernel_rfl
theorem e3 : blk = .block 0 (.loop lp) := by kernel_rfl
theorem e4 : lp = .seq hd (codeR lp) := by kernel_rfl
theorem k0 : partsOk Tryd.prog 8 187 11 body = true := by kernel_rfl
theorem k1 : partsOk Tryd.prog 8 187 1 ini = true := by kernel_rfl
theorem okL : codeOk 8 187 lp = true := by kernel_rfl
theorem okH : codeOk 8 187 hd = true := by kernel_rfl
theorem okR : codeOk 8 187 rest = true := by kernel_rfl
theorem plL : plansOk Tryd.prog lp = true := by kernel_rfl
theorem plH : plansOk Tryd.prog hd = true := by kernel_rfl
theorem plR : plansOk Tryd.prog rest = true := by kernel_rfl
noncomputable def code (c : Code) (s : St) (tp : Ab.Tape) : RCC := (codeC Tryd.prog enters CB CC DC (mkR 3) 1000 c).un s.1 s.2 tp []
noncomputable def parts (k : Nat) (c : Code) (s : St) (tp : Ab.Tape) : SC := goNC Tryd.prog enters CB CC DC (mkR 3) 1000 k c ⟨s, tp, [], true⟩

/-! ### The states -/
def str (l : List UInt8) : Value := .string ⟨⟨l⟩⟩
def e24 (n : Nat) : Value := .int .i64 (.ofNat n)
def openN : Nat := 18446744073709551616
def F : Value := .bool false
def Tr : Value := .bool true
def ann : Value := str [97, 110, 110]
/-- What the k-th post says. -/
noncomputable def txt (k : Nat) : UInt8 := (wrapF .u8 (.ofNat (33 + k))).toNat.toUInt8
noncomputable def txtV (k : Nat) : Value := str [txt (k % 90)]
/-- The cells of posts from a number on. -/
noncomputable def fP (a j : Nat) : Value := match Nat.beq (j % 2) 0 with
  | true => ann
  | false => txtV (a + j / 2)
def sliceV (b n : Nat) : Value := match n with
  | 0 => .slice none 0 0
  | _ + 1 => .slice (some ⟨b, 0, none⟩) n openN
def rowV (f : Nat → Value) (size t n : Nat) : AObj := match n with
  | 0 => .dead
  | _ + 1 => .cells (rowFn f (n * size)) t
def feedO (a b : Nat) : AObj := cellsOfL [str [119], str [99], e24 a, e24 b, .bool false] 56
/-- What a state holds: the script's slice, the rows of posts, ops, replies and told texts. -/
structure Ob where
  Vp : Value
  O11 : AObj
  O13 : AObj
  O14 : AObj
  O15 : AObj
  O16 : AObj
  O17 : AObj
def deads : Nat → List AObj
  | 0 => []
  | n + 1 => .dead :: deads n
noncomputable def heapOf (x : Ob) (fo : AObj) : AHeap :=
  ⟨heapF ([.dead, .dead, .dead, .dead, .dead, .dead, .dead, .dead, cellsOfL [.slice (Option.some ⟨9, 0, none⟩) 1 openN, .slice none 0 0] 26, cellsOfL [str [119], str [99], .slice (Option.some ⟨10, 0, none⟩) 1 openN, x.Vp] 84, cellsOfL [ann] 9, x.O11, fo, x.O13, x.O14, x.O15, x.O16, x.O17] ++ deads 200) 0 .leaf, 218, 1099511627776⟩
structure Sl where
  V1 : Value
  V9 : Value
  V10 : Value
  V11 : Value
noncomputable def SL (v : Sl) (x : Ob) (st a t n i : Nat) (jt : Nat → Value) : St :=
  (treeF (slotsOf [(1, v.V1), (5, ptrTo 8), (6, e24 st), (7, ptrTo 12), (9, v.V9), (10, v.V10), (11, v.V11), (12, e24 n), (13, e24 i)] jt) 187 0 .leaf, heapOf x (feedO a t))
def cellAt (s : St) (b i : Nat) : Value := match s.2.get b with
  | .cells c _ => c.t.get undef i
  | _ => undef
def blkElse (v : Value) (d : Nat) : Nat := match v with
  | .pointer (some a) => a.block
  | .slice (some a) _ _ => a.block
  | .slice none _ _ => d
  | _ => d
/-- The numbers that name replies' posts. -/
def toks : List Nat := upTo (fun i => 18 + i) 200 0
def toksA : List Nat := upTo (fun i => 1018 + i) 200 0
def keep : List Nat := [1, 5, 6, 7, 9, 10, 11, 12, 13]
/-- Blocks: posts, ops, replies, told, a reply's posts. -/
noncomputable def shOf (tk zt : List Nat) (p o r t q : Nat) (s : St) : Shape :=
  (fun m => (fun l => ⟨[0, 1, 2, 3, 4, 5, 6, 7, m, l, blkOf (cellAt s l 2), p, blkOf (Tget s.1 7), o, r, t, 16, q] ++ tk, 187, inL keep, fun _ _ => true, fun _ => false, inL [11, 13, 14, 15, 16, 17], inL zt⟩) (blkOf (cellAt s m 0))) (blkOf (Tget s.1 5))
/-! ### Ahead of the loop -/
noncomputable def s0 (fr : Int) (V : Value) (OO : AObj) : St := (initT [i64 fr, V] 0 .leaf, (bareOf 8).push OO)
noncomputable def y1 (fr : Int) (st : Nat) (V : Value) (OO : AObj) : SC := parts 11 body (s0 fr V OO) [e24 st, F]
noncomputable def y2 (fr : Int) (st : Nat) (V : Value) (OO : AObj) : SC := parts 1 ini (y1 fr st V OO).s []
noncomputable def rnd (s : St) (tp : Ab.Tape) : RCC := code lp s tp
noncomputable def out (s : St) (tp : Ab.Tape) : RCC := code hd s tp
noncomputable def fin (s : St) (tp : Ab.Tape) : Option OutC := lastC Tryd.prog enters CB CC DC (mkR 3) 1000 Tryd.f3 rest s tp
end Go.Proofs.YtbkgnlcjnimpcaaDoor.fanWhole
