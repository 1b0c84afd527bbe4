/- MetaFull's run: the parts ahead of the loop, the state at its head, what a round is. -/
import Derived.Test.YtclcobiaiedpbaaDoorAbFo
import Derived.Test.YtclcobiaiedpbaaDoorAbX
namespace Go.Proofs.YtclcobiaiedpbaaDoor.metaFull
open Go Go.Ab
set_option maxRecDepth 100000
def mkR : Marks := marksIn [(5, [21, 64], [])]
/-- What must come, comes. -/
def awakeM : Memo := ⟨14, [], .bool true⟩
theorem awakeOk : MemoOk Tryd.prog awakeM := memo_of_quick (quickB_sound noneK_sound 40) rfl rfl (by kernel_rfl)
noncomputable def kn : Known := memoK [awakeM]
theorem knOk : CallSound Tryd.prog 2 kn.call := memoK_sound (fun x hx => by rw [List.mem_singleton] at hx; rw [hx]; exact awakeOk)
noncomputable def draw : CallB → DrawB := drawB Tryd.prog enters
noncomputable def drawc : CallB → CallC → DrawC := drawC Tryd.prog enters
noncomputable def CB : CallB := quickB kn 40
noncomputable def CC : CallC := callC Tryd.prog enters FT kn draw drawc mkR 1048576 40
noncomputable def DB : DrawB := draw CB
noncomputable def DC : DrawC := drawc CB CC
theorem CBok : CallSound Tryd.prog 2 (callOf CB) := quickB_sound knOk 40
theorem CCok : CallEq CB CC := callC_eq (fun _ _ h => drawC_eq h) mkR 1048576 40
theorem DCok : DrawEq DB DC := drawC_eq CCok
theorem DBok : DrawGood Tryd.prog 2 (fun ops T h => (DB ops).un T h) := drawB_sound entersOk zerosOk CBok
noncomputable def body : Code := Tryd.f5.body.getD .skip
theorem hasBody : Tryd.f5.body = some body := by kernel_rfl
noncomputable def c3 : Code := dropN 3 body
noncomputable def ini : Code := codeL c3
noncomputable def rest : Code := codeR c3
noncomputable def blk : Code := codeR ini
def inBlk : Code → Code
  | .block _ (.loop c) => c
  | c => c
noncomputable def lp : Code := inBlk blk
noncomputable def hdc : Code := codeL lp
noncomputable def lp2 : Code := codeR lp
theorem e1 : c3 = .seq ini rest := by kernel_rfl
theorem e2 : dropN 1 ini = blk := by kernel_rfl
theorem e3 : blk = .block 0 (.loop lp) := by kernel_rfl
theorem e4 : lp = .seq hdc lp2 := by kernel_rfl
theorem k0 : partsOk Tryd.prog 2 71 3 body = true := by kernel_rfl
theorem k1 : partsOk Tryd.prog 2 71 1 ini = true := by kernel_rfl
theorem ok1 : codeOk 2 71 lp = true := by kernel_rfl
theorem ok2 : codeOk 2 71 hdc = true := by kernel_rfl
theorem ok6 : codeOk 2 71 rest = true := by kernel_rfl
theorem pl1 : plansOk Tryd.prog lp = true := by kernel_rfl
theorem pl2 : plansOk Tryd.prog hdc = true := by kernel_rfl
theorem pl6 : plansOk Tryd.prog rest = true := by kernel_rfl
noncomputable def code (c : Code) (s : St) (tp : Ab.Tape) : RCC := (codeC Tryd.prog enters CB CC DC (mkR 5) 1000 c).un s.1 s.2 tp []
noncomputable def parts (k : Nat) (c : Code) (s : St) (tp : Ab.Tape) : SC := goNC Tryd.prog enters CB CC DC (mkR 5) 1000 k c ⟨s, tp, [], true⟩

/-! ### The state at the loop's head: so many wait -/
def str (l : List UInt8) : Value := .string ⟨⟨l⟩⟩
def e24 (n : Nat) : Value := .int .i64 (.ofNat n)
def capN (i : Nat) : Nat := match Nat.ble i 64 with | true => i | false => 64
def waitV (w : Nat) : Value := match w with | 0 => .slice none 0 0 | k + 1 => .slice (some ⟨6, 0, none⟩) (k + 1) OPEN
def reps (v : Value) : Nat → List Value
  | 0 => []
  | k + 1 => v :: reps v k
def ptrs (w : Nat) : Nat → List Value
  | 0 => []
  | k + 1 => ptrTo (7 + 3 * (w - (k + 1))) :: ptrs w k
def waitO (w : Nat) : AObj := match w with | 0 => .dead | k + 1 => cellsOfL (ptrs (k + 1) (k + 1)) 74
def txO (j : Nat) : AObj := cellsOfL [e24 (j + 1), e24 j, e24 3, e24 7, str [], str [], str [97, 110, 110], str [], str [], str [], e24 0, e24 0, .map (some (8 + 3 * j)), .map (some (9 + 3 * j)), str []] 78
def txsO (w : Nat) : Nat → List AObj
  | 0 => []
  | k + 1 => txO (w - (k + 1)) :: .map #[] 0 :: .map #[] 0 :: txsO w k
def S (more : Int) (w i : Nat) (jt : Nat → Value) : St := (treeF (slotsOf [(0, i64 more), (3, ptrTo 2), (5, e24 i)] jt) 71 0 .leaf,
  ⟨heapF (.dead :: .dead :: cellsOfL [e24 1, ptrTo 3, ptrTo 4, waitV w, e24 w, e24 0, e24 0, e24 0, e24 0, .bool false, str []] 70 :: cellsOfL (reps (e24 1) 32) 90 :: cellsOfL [.map (some 5)] 93 :: .map #[] 0 :: waitO w :: txsO w w) 0 .leaf, 7 + 3 * w, 1099511627776⟩)
def cellAt (s : St) (b i : Nat) : Value := match s.2.get b with
  | .cells c _ => c.t.get undef i
  | _ => undef
def txIds (s : St) (wb w : Nat) : Nat → List Nat
  | 0 => []
  | k + 1 => (fun b => b :: blkOf (cellAt s b 12) :: blkOf (cellAt s b 13) :: txIds s wb w k) (blkOf (cellAt s wb (w - (k + 1))))
def shOf (w : Nat) (s : St) : Shape :=
  (fun m => (fun tb wb => ⟨0 :: 1 :: m :: blkOf (cellAt s m 1) :: tb :: blkOf (cellAt s tb 0) :: wb :: txIds s wb w w, 71, inL [0, 3, 5], fun _ _ => true, fun _ => false⟩) (blkOf (cellAt s m 2)) (match w with | 0 => 2 | _ + 1 => blkOf (cellAt s m 3))) (blkOf (Tget s.1 3))
/-! ### Ahead of the loop -/
def args (more : Int) : Array Value := #[i64 more]
noncomputable def s0 (more : Int) : St := (initT (args more).toList 0 .leaf, bareOf 2)
noncomputable def y1 (more : Int) : SC := parts 3 body (s0 more) []
noncomputable def y2 (more : Int) : SC := parts 1 ini (y1 more).s []
theorem ahead (more : Int) (jt : Nat → Value) (jh : Nat → Nat → Value) : (fun y z => (y.ok, y.lg, z.ok, z.lg, canonS (shOf 0 z.s) 2 z.s jt jh)) (y1 more) (y2 more) = (true, [], true, [], some (S more 0 0 jt)) := by kernel_rfl
/-! ### A round -/
def F : Value := .bool false
def Tr : Value := .bool true
noncomputable def lim (more : Int) : Int := wrapF .i64 (Int.add 60 (bandF more 7))
noncomputable def rnd (more : Int) (i : Nat) (j0 : Nat → Value) : RCC := code lp (S more (capN i) i j0) [Tr]
noncomputable def roundL (more : Int) (j0 jt : Nat → Value) (jh : Nat → Nat → Value) (i : Nat) : Option Noted × Option St := (fun r => (isN r, canonS (shOf (capN (i + 1)) (stOf r)) 2 (stOf r) jt jh)) (rnd more i j0)
noncomputable def roundR (more : Int) (jt : Nat → Value) (i : Nat) : Option Noted × Option St := (some [pr (.bool (intLt (.ofNat i) (lim more))) Tr], some (S more (capN (i + 1)) (i + 1) jt))
end Go.Proofs.YtclcobiaiedpbaaDoor.metaFull
