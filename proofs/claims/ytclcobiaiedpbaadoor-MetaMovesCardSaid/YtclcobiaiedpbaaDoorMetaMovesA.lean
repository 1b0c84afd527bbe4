/- MetaMoves' run: the parts ahead of the loop, a round at any owners, and its end. -/
import Derived.Test.YtclcobiaiedpbaaDoorAbFp
import Derived.Test.YtclcobiaiedpbaaDoorAbX
namespace Go.Proofs.YtclcobiaiedpbaaDoor.metaMoves
open Go Go.Ab
set_option maxRecDepth 100000
def mkR : Marks := marksIn [(6, [34, 37, 46, 53, 74, 149, 154, 155, 40], [43, 45, 49, 51], []), (35, [13], [], []), (26, [34, 48, 54], [], [67]), (8, [22], [], []), (27, [41, 47, 32], [], [])]
/-- What must come, comes. -/
def awakeM : Memo := ⟨14, [], .bool true⟩
theorem awakeOk : MemoOk Tryd.prog awakeM := memo_of_quick (quickB_sound noneK_sound 40) rfl rfl (by kernel_rfl)
noncomputable def kn : Known := memoK [awakeM]
theorem knOk : CallSound Tryd.prog 2 kn.call := memoK_sound (fun x hx => by rw [List.mem_singleton] at hx; rw [hx]; exact awakeOk)
noncomputable def draw : CallB → DrawB := drawB Tryd.prog enters
noncomputable def drawc : CallB → CallC → DrawC := drawC Tryd.prog enters
noncomputable def CB : CallB := quickB kn 40
noncomputable def CC : CallC := callC Tryd.prog enters FT kn draw drawc mkR 1048576 40
noncomputable def DB : DrawB := draw CB
noncomputable def DC : DrawC := drawc CB CC
theorem CBok : CallSound Tryd.prog 2 (callOf CB) := quickB_sound knOk 40
theorem CCok : CallEq CB CC := callC_eq (fun _ _ h => drawC_eq h) mkR 1048576 40
theorem DCok : DrawEq DB DC := drawC_eq CCok
theorem DBok : DrawGood Tryd.prog 2 (fun ops T h => (DB ops).un T h) := drawB_sound entersOk zerosOk CBok
noncomputable def body : Code := Tryd.f6.body.getD .skip
theorem hasBody : Tryd.f6.body = some body := by kernel_rfl
noncomputable def c3 : Code := dropN 3 body
noncomputable def ini : Code := codeL c3
noncomputable def rest : Code := codeR c3
noncomputable def blk : Code := codeR ini
def inBlk : Code → Code
  | .block _ (.loop c) => c
  | c => c
noncomputable def lp : Code := inBlk blk
noncomputable def hdc : Code := codeL lp
noncomputable def lp2 : Code := codeR lp
theorem e1 : c3 = .seq ini rest := by kernel_rfl
theorem e2 : dropN 1 ini = blk := by kernel_rfl
theorem e3 : blk = .block 0 (.loop lp) := by kernel_rfl
theorem e4 : lp = .seq hdc lp2 := by kernel_rfl
theorem k0 : partsOk Tryd.prog 2 162 3 body = true := by kernel_rfl
theorem k1 : partsOk Tryd.prog 2 162 1 ini = true := by kernel_rfl
theorem okB : codeOk 2 162 body = true := by kernel_rfl
theorem ok1 : codeOk 2 162 lp = true := by kernel_rfl
theorem ok2 : codeOk 2 162 hdc = true := by kernel_rfl
theorem ok6 : codeOk 2 162 rest = true := by kernel_rfl
theorem plB : plansOk Tryd.prog body = true := by kernel_rfl
theorem pl1 : plansOk Tryd.prog lp = true := by kernel_rfl
theorem pl2 : plansOk Tryd.prog hdc = true := by kernel_rfl
theorem pl6 : plansOk Tryd.prog rest = true := by kernel_rfl
noncomputable def code (c : Code) (s : St) (tp : Ab.Tape) : RCC := (codeC Tryd.prog enters CB CC DC (mkR 6) 1000 c).un s.1 s.2 tp []
noncomputable def parts (k : Nat) (c : Code) (s : St) (tp : Ab.Tape) : SC := goNC Tryd.prog enters CB CC DC (mkR 6) 1000 k c ⟨s, tp, [], true⟩

/-! ### The state at the loop's head -/
structure X where
  n : Nat
  c : Nat
  f : Nat → Value
  i : Nat
  p : Nat
  g : Nat → Nat
  e : Nat → Nat
def str (l : List UInt8) : Value := .string ⟨⟨l⟩⟩
def e24 (n : Nat) : Value := .int .i64 (.ofNat n)
def ownL (g e : Nat → Nat) : Nat → Nat → List Value
  | 0, _ => []
  | k + 1, j => e24 (g j + 1) :: e24 (e j + 1) :: ownL g e k (j + 1)
def sliceV (b : Nat) (x : X) : Value := .slice (some ⟨b, 0, none⟩) x.n x.c
def roO (x : X) : AObj := .ro (rowFn x.f (x.n * 2)) 55
def heapOf (x : X) : AHeap := ⟨heapF [.dead, .dead, cellsOfL [e24 8, ptrTo 3, ptrTo 4, .slice none 0 0, e24 0, e24 x.p, e24 0, e24 0, e24 0, .bool false, str []] 70, cellsOfL (ownL x.g x.e 16 0) 90, cellsOfL [.map (some 5)] 93, .map #[] 0, roO x] 0 .leaf, 7, 1099511627776⟩
def S (x : X) (jt : Nat → Value) : St := (treeF (slotsOf [(0, sliceV 6 x), (3, ptrTo 2), (5, e24 x.i)] jt) 162 0 .leaf, heapOf x)
def cellAt (s : St) (b i : Nat) : Value := match s.2.get b with
  | .cells c _ => c.t.get undef i
  | _ => undef
def shOf (s : St) : Shape :=
  (fun m => (fun tb => ⟨[0, 1, m, blkOf (cellAt s m 1), tb, blkOf (cellAt s tb 0), blkOf (Tget s.1 0)], 162, inL [0, 3, 5], fun _ _ => true, fun y => Nat.beq y 6⟩) (blkOf (cellAt s m 2))) (blkOf (Tget s.1 3))
/-! ### Ahead of the loop -/
def s0 (x : X) : St := (initT [sliceV 10 x] 0 .leaf, (bareOf 2).push (roO x))
noncomputable def y1 (x : X) : SC := parts 3 body (s0 x) []
noncomputable def y2 (x : X) : SC := parts 1 ini (y1 x).s []
def x0 (x : X) : X := ⟨x.n, x.c, x.f, 0, 0, fun k => k / 2, fun _ => 0⟩
theorem ahead (x : X) (jt : Nat → Value) (jh : Nat → Nat → Value) : (fun y z => (y.ok, y.lg, z.ok, z.lg, canonS (shOf z.s) 2 z.s jt jh)) (y1 x) (y2 x) = (true, [], true, [], some (S (x0 x) jt)) := by kernel_rfl
/-- Of none, or of none at all. -/
theorem none1 : endS Tryd.prog enters CB DB 1000 Tryd.f6 body (initT [.slice none 0 0] 0 .leaf, bareOf 2) = some (.bool true) := by kernel_rfl
theorem none2 (c : Nat) : endS Tryd.prog enters CB DB 1000 Tryd.f6 body (initT [.slice (some ⟨10, 0, none⟩) 0 c] 0 .leaf, (bareOf 2).push .dead) = some (.bool true) := by kernel_rfl
/-! ### A round -/
def F : Value := .bool false
def Tr : Value := .bool true
def ptrV (x : X) : Value := .pointer (some ⟨6, Nat.add 0 (Nat.mul x.i 2), none⟩)
def headT (x : X) (s q : Nat) (a b : Int) : Ab.Tape := [Tr, Tr, ptrV x, i64 a, e24 s, ptrV x, i64 b, e24 (q + 1), Tr, Tr, F]
def sameT (x : X) : Ab.Tape := [Tr, Tr, e24 (x.i + 1)]
def moveT (x : X) (s : Nat) : Ab.Tape := [F, e24 (x.p + 1), F, F, Tr, F, Tr, Tr, Tr, Tr, Tr, Tr, F, F, e24 (x.e s + 1 + 1), Tr, F, e24 (x.e s + 1 + 1), F, e24 (x.i + 1)]
noncomputable def ofs (x : X) (k : Nat) : Value := .pointer (some ⟨6, Nat.add (Nat.add 0 (Nat.mul x.i 2)) (Nat.mul k 1), none⟩)
noncomputable def hp (x : X) : AHeap := ⟨(heapOf x).t, Nat.add 7 15, 1099511627776⟩
noncomputable def headN (x : X) (s q : Nat) (a b : Int) : Noted := [pr (.bool (intLt (.ofNat x.i) (.ofNat x.n))) Tr, pr (.bool (intLt (.ofNat x.i) 60)) Tr,
  (iaB Tryd.prog 54).un (sliceV 6 x) (e24 x.i) = some (ptrV x), (ldB Tryd.prog 3).un (ofs x 0) (hp x) = some (i64 a), pr (i64 (bandF a 15)) (e24 s),
  (iaB Tryd.prog 54).un (sliceV 6 x) (e24 x.i) = some (ptrV x), (ldB Tryd.prog 3).un (ofs x 1) (hp x) = some (i64 b), pr (i64 (wrapF .i64 (Int.add 1 (bandF b 7)))) (e24 (q + 1)),
  pr Tr Tr, pr Tr Tr, pr (.bool (intLt 8 (.ofNat (q + 1)))) F]
noncomputable def isG (x : X) (s q : Nat) (b : Value) : Prop := pr (.bool (intEq (.ofNat (x.g s + 1)) (.ofNat (q + 1)))) b
noncomputable def incN (x : X) : Prop := pr (i64 (wrapF .i64 (Int.add (.ofNat x.i) 1))) (e24 (x.i + 1))
noncomputable def mine (x : X) : Prop := pr (.bool (intEq (.ofNat (x.p + 1)) (.ofNat (x.p + 1)))) Tr
noncomputable def upE (x : X) (s : Nat) : Prop := pr (i64 (wrapF .i64 (Int.add (.ofNat (x.e s + 1)) 1))) (e24 (x.e s + 1 + 1))
noncomputable def sameN (x : X) (s q : Nat) : Noted := [isG x s q Tr, isG x s q Tr, incN x]
noncomputable def moveN (x : X) (s q : Nat) : Noted := [isG x s q F, pr (i64 (wrapF .i64 (Int.add (.ofNat x.p) 1))) (e24 (x.p + 1)), (((veq 8 (e24 (q + 1)) (e24 (q + 1)) && (veq 8 (e24 (q + 1)) (e24 (q + 1)) && true)) && true) = true), isG x s q F,
  pr (.bool (intEq 0 (.ofNat (x.p + 1)))) F, pr Tr Tr, pr (.bool (intLt 8 (.ofNat (q + 1)))) F, mine x, mine x, pr Tr Tr, mine x, pr Tr Tr, pr (.bool (notB (intLt 8 (.ofNat (q + 1))))) Tr,
  isG x s q F, pr (.bool (notB (intLt (.ofNat (x.e s + 1)) 2147483647))) F, upE x s, pr Tr Tr, pr (.bool (notB (intEq (.ofNat (q + 1)) (.ofNat (q + 1))))) F, upE x s,
  pr (.bool (notB (intEq (.ofNat (x.e s + 1 + 1)) (.ofNat (x.e s + 1 + 1))))) F, incN x]
def upd (g : Nat → Nat) (s v k : Nat) : Nat := match Nat.beq s k with
  | true => v
  | false => g k
def stay (x : X) : X := { x with i := x.i + 1 }
def moved (x : X) (s q : Nat) : X := { x with i := x.i + 1, p := x.p + 1, g := upd x.g s q, e := upd x.e s (x.e s + 1) }
noncomputable def same (x : X) (s q : Nat) (a b : Int) (j0 : Nat → Value) : RCC := code lp (S x j0) (headT x s q a b ++ sameT x)
noncomputable def move (x : X) (s q : Nat) (a b : Int) (j0 : Nat → Value) : RCC := code lp (S x j0) (headT x s q a b ++ moveT x s)
theorem same_all (x : X) (q : Nat) (a b : Int) (j0 jt : Nat → Value) (jh : Nat → Nat → Value) : upTo (fun s => (fun r => (isN r, canonS (shOf (stOf r)) 2 (stOf r) jt jh)) (same x s q a b j0)) 16 0 = upTo (fun s => (some (revN (headN x s q a b ++ sameN x s q) []), some (S (stay x) jt))) 16 0 := by kernel_rfl
theorem move_all (x : X) (q : Nat) (a b : Int) (j0 jt : Nat → Value) (jh : Nat → Nat → Value) : upTo (fun s => (fun r => (isN r, canonS (shOf (stOf r)) 2 (stOf r) jt jh)) (move x s q a b j0)) 16 0 = upTo (fun s => (some (revN (headN x s q a b ++ moveN x s q) []), some (S (moved x s q) jt))) 16 0 := by kernel_rfl
/-! ### Its end -/
noncomputable def hd1 (x : X) (jt : Nat → Value) : RCC := code hdc (S x jt) [F]
noncomputable def hd2 (x : X) (jt : Nat → Value) : RCC := code hdc (S x jt) [Tr, F]
noncomputable def fin (s : St) : Option OutC := lastC Tryd.prog enters CB CC DC (mkR 6) 1000 Tryd.f6 rest s []
theorem ends (x : X) (jt : Nat → Value) : (isX (hd1 x jt), saidOf (fin (stOf (hd1 x jt))), isX (hd2 x jt), saidOf (fin (stOf (hd2 x jt)))) =
  (some (0, [pr (.bool (intLt (.ofNat x.i) (.ofNat x.n))) F]), some (.bool true, []), some (0, [pr (.bool (intLt (.ofNat x.i) 60)) F, pr (.bool (intLt (.ofNat x.i) (.ofNat x.n))) Tr]), some (.bool true, [])) := by kernel_rfl
end Go.Proofs.YtclcobiaiedpbaaDoor.metaMoves
