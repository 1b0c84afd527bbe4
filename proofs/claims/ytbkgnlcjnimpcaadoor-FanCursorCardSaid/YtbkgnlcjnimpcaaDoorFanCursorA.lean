/- FanCursor's run: the parts ahead of the loop, one round of it at any numbers, and its end. -/
import Derived.Test.YtbkgnlcjnimpcaaDoorAbFo
import Derived.Test.YtbkgnlcjnimpcaaDoorAbX
namespace Go.Proofs.YtbkgnlcjnimpcaaDoor.fanCursor
open Go Go.Ab
set_option maxRecDepth 100000
def mkR : Marks := marksIn [(7, [62, 69, 104, 140, 148, 156], []), (12, [14, 17], []), (34, [24, 28, 33, 38, 43, 58, 69], []), (13, [42, 53], [])]
/-- What must come, comes. -/
def awakeM : Memo := ⟨15, [], .bool true⟩
theorem awakeOk : MemoOk Tryd.prog awakeM := memo_of_quick (quickB_sound noneK_sound 40) rfl rfl (by kernel_rfl)
noncomputable def kn : Known := memoK [awakeM]
theorem knOk : CallSound Tryd.prog 8 kn.call := memoK_sound (fun x hx => by rw [List.mem_singleton] at hx; rw [hx]; exact awakeOk)
noncomputable def draw : CallB → DrawB := drawB Tryd.prog enters
noncomputable def drawc : CallB → DrawC := drawC Tryd.prog enters
noncomputable def CB : CallB := quickB kn 40
noncomputable def CC : CallC := callC Tryd.prog enters FT kn draw drawc mkR 1048576 40
noncomputable def DB : DrawB := draw CB
noncomputable def DC : DrawC := drawc CB
theorem CBok : CallSound Tryd.prog 8 (callOf CB) := quickB_sound knOk 40
theorem CCok : CallEq CB CC := callC_eq (fun _ => drawC_eq) mkR 1048576 40
theorem DCok : DrawEq DB DC := drawC_eq
theorem DBok : DrawGood Tryd.prog 8 (fun ops T h => (DB ops).un T h) := drawB_sound entersOk zerosOk CBok
noncomputable def body : Code := Tryd.f7.body.getD .skip
theorem hasBody : Tryd.f7.body = some body := by kernel_rfl
noncomputable def c5 : Code := dropN 5 body
noncomputable def ini : Code := codeL c5
noncomputable def rest : Code := codeR c5
noncomputable def blk : Code := codeR ini
def inBlk : Code → Code
  | .block _ c => c
  | c => c
def inLoop : Code → Code
  | .loop c => c
  | c => c
noncomputable def lp : Code := inLoop (inBlk blk)
noncomputable def hdc : Code := codeL lp
noncomputable def lp2 : Code := codeR lp
noncomputable def bb : Code := inBlk (codeL lp2)
noncomputable def inc : Code := codeR lp2
noncomputable def cnd : Code := dropN 9 bb
theorem e1 : c5 = .seq ini rest := by kernel_rfl
theorem e2 : dropN 1 ini = blk := by kernel_rfl
theorem e3 : blk = .block 0 (.loop lp) := by kernel_rfl
theorem e4 : lp = .seq hdc lp2 := by kernel_rfl
theorem e5 : lp2 = .seq (.block 1 bb) inc := by kernel_rfl
theorem k0 : partsOk Tryd.prog 8 202 5 body = true := by kernel_rfl
theorem k1 : partsOk Tryd.prog 8 202 1 ini = true := by kernel_rfl
theorem k3 : partsOk Tryd.prog 8 202 9 bb = true := by kernel_rfl
theorem ok2 : codeOk 8 202 hdc = true := by kernel_rfl
theorem ok4 : codeOk 8 202 cnd = true := by kernel_rfl
theorem ok5 : codeOk 8 202 inc = true := by kernel_rfl
theorem ok6 : codeOk 8 202 rest = true := by kernel_rfl
theorem pl2 : plansOk Tryd.prog hdc = true := by kernel_rfl
theorem pl4 : plansOk Tryd.prog cnd = true := by kernel_rfl
theorem pl5 : plansOk Tryd.prog inc = true := by kernel_rfl
theorem pl6 : plansOk Tryd.prog rest = true := by kernel_rfl
noncomputable def code (c : Code) (s : St) (tp : Ab.Tape) : RCC := (codeC Tryd.prog enters CB CC DC (mkR 7) 1000 c).un s.1 s.2 tp []
noncomputable def parts (k : Nat) (c : Code) (s : St) (tp : Ab.Tape) : SC := goNC Tryd.prog enters CB CC DC (mkR 7) 1000 k c ⟨s, tp, [], true⟩

/-! ### The state at the loop's head -/
structure X where
  st : Int
  n : Int
  k : Int
  at' : Int
  i : Int
  na : Int
  nb : Int
  ta : Int
  tb : Int
def str (l : List UInt8) : Value := .string ⟨⟨l⟩⟩
def feed (n t : Int) : AObj := cellsOfL [str [119], str [99], i64 n, i64 t, .bool false] 56
def kept (x : X) : List (Nat × Value) := [(1, i64 x.st), (7, i64 x.n), (8, i64 x.k), (9, ptrTo 8), (11, ptrTo 9), (13, i64 x.at'), (14, i64 x.i)]
def heapOf (x : X) : AHeap := ⟨heapF [.dead, .dead, .dead, .dead, .dead, .dead, .dead, .dead, feed x.na x.ta, feed x.nb x.tb] 0 .leaf, 10, 1099511627776⟩
def S (x : X) (jt : Nat → Value) : St := (treeF (slotsOf (kept x) jt) 202 0 .leaf, heapOf x)
def M (x : X) (b : Bool) (jt : Nat → Value) : St := (treeF (slotsOf ((156, .bool b) :: kept x) jt) 202 0 .leaf, heapOf x)
noncomputable def shS (s : St) : Shape := ⟨[0, 1, 2, 3, 4, 5, 6, 7, blkOf (Tget s.1 9), blkOf (Tget s.1 11)], 202, inL [1, 7, 8, 9, 11, 13, 14], fun _ _ => true⟩
noncomputable def shM (s : St) : Shape := ⟨[0, 1, 2, 3, 4, 5, 6, 7, blkOf (Tget s.1 9), blkOf (Tget s.1 11)], 202, inL [156, 1, 7, 8, 9, 11, 13, 14], fun _ _ => true⟩
/-! ### Ahead of the loop -/
def args (many stop size : Int) : Array Value := #[i64 many, i64 stop, i64 size]
noncomputable def s0 (many stop size : Int) : St := (initT (args many stop size).toList 0 .leaf, bareOf 8)
noncomputable def y1 (many stop size : Int) : SC := parts 5 body (s0 many stop size) []
noncomputable def y2 (many stop size : Int) : SC := parts 1 ini (y1 many stop size).s []
noncomputable def x0 (many stop size : Int) : X := ⟨stop, bandF many 63, wrapF .i64 (Int.add 1 (bandF size 15)), 0, 0, 0, 0, 0, 0⟩
theorem ahead (many stop size : Int) (jt : Nat → Value) (jh : Nat → Nat → Value) : (fun y z => (y.ok, y.lg, z.ok, z.lg, canonS (shS z.s) 8 z.s jt jh)) (y1 many stop size) (y2 many stop size) = (true, [], true, [], some (S (x0 many stop size) jt)) := by kernel_rfl
/-! ### A round -/
def F : Value := .bool false
def Tr : Value := .bool true
noncomputable def hd (x : X) (jt : Nat → Value) : RCC := code hdc (S x jt) [Tr]
def tape (m : Nat) (b : Bool) : Ab.Tape := [i64 (.ofNat m), F, F, F, F, F, F, F, F, F, Tr, Tr, F, i64 0, F, F, F, F, F, Tr, Tr, F, i64 0, F, F, F, .bool b]
noncomputable def md (x : X) (m : Nat) (b : Bool) (jt : Nat → Value) : SC := parts 9 bb (stOf (hd x jt)) (tape m b)
noncomputable def nxt : Nat → Int → Int
  | 0, n => n
  | m + 1, n => nxt m (wrapF .i64 (Int.add n 1))
noncomputable def after (x : X) (m : Nat) : X := ⟨x.st, x.n, x.k, wrapF .i64 (Int.add x.at' (.ofNat m)), x.i, nxt m x.na, nxt m x.nb, wrapF .i64 (Int.add x.ta (.ofNat m)), wrapF .i64 (Int.add x.tb (.ofNat m))⟩
noncomputable def left (x : X) : Int := wrapF .i64 (Int.sub x.n x.at')
noncomputable def askN (x : X) : Noted := [pr (.bool (intLt x.k 1)) (F), pr (.bool (intLt 64 x.k)) (F)]
noncomputable def takeN (x : X) (m : Nat) (n : Int) : Noted :=
  [pr (.bool (notB (andB (intEq n n) (andB (intEq x.k x.k) true)))) (F), pr (.bool (intLt n 0)) (F), pr (.bool (intLt 1073741824 n)) (F), pr (.bool (intLt x.k 1)) (F), pr (.bool (intLt 64 x.k)) (F),
    pr (.bool (notB (intLt x.k (.ofNat m)))) (Tr), pr (.bool (intEq (wrapF .i64 (Int.add x.at' (.ofNat m))) (wrapF .i64 (Int.add n (.ofNat m))))) (Tr), pr (.bool (intLt n n)) (F),
    pr (i64 (if (.ofNat m : Int) < wrapF .i64 (Int.sub n n) then .ofNat m else wrapF .i64 (Int.sub n n))) (i64 0)]
noncomputable def notes (x : X) (m : Nat) (b : Bool) : Noted := pr (i64 (if left x < x.k then left x else x.k)) (i64 (.ofNat m)) :: (askN x ++ (askN x ++ (takeN x m x.na ++ (takeN x m x.nb ++
  [pr (.bool (notB (andB (intEq x.na x.nb) (andB (intEq x.k x.k) true)))) (F), pr (.bool (notB (andB (intEq x.na x.nb) true))) (F), pr (.bool (notB (intEq x.na x.at'))) (F), pr (.bool (intEq x.i (bandF x.st 7))) (.bool b)]))))
theorem head (x : X) (jt : Nat → Value) : isN (hd x jt) = some [pr (.bool (intLt x.at' x.n)) (Tr)] := by kernel_rfl
theorem mid (x : X) (b : Bool) (j0 jt : Nat → Value) (jh : Nat → Nat → Value) : upTo (fun m => (fun y => (y.ok, y.lg, canonS (shM y.s) 8 y.s jt jh)) (md x m b j0)) 16 1 = upTo (fun m => (true, revN (notes x m b) [], some (M (after x m) b jt))) 16 1 := by kernel_rfl
/-! ### Behind it -/
noncomputable def sec (x : X) (b : Bool) (jt : Nat → Value) : RCC := code cnd (M x b jt) []
noncomputable def inc2 (x : X) (b : Bool) (jt : Nat → Value) : RCC := code inc (stOf (sec x b jt)) []
noncomputable def next (x : X) : X := { x with i := wrapF .i64 (Int.add x.i 1) }
theorem sec0 (x : X) (j0 jt : Nat → Value) (jh : Nat → Nat → Value) : (fun r => (isN (sec x false j0), isN r, canonS (shS (stOf r)) 8 (stOf r) jt jh)) (inc2 x false j0) = (some [], some [], some (S (next x) jt)) := by kernel_rfl
def atB (x : X) (v : Nat) : X := { x with nb := .ofNat v }
def newB (x : X) : X := { x with tb := 0 }
theorem sec1 (x : X) (j0 jt : Nat → Value) (jh : Nat → Nat → Value) : upTo (fun v => (fun r => (isN (sec (atB x v) true j0), isN r, canonS (shS (stOf r)) 8 (stOf r) jt jh)) (inc2 (atB x v) true j0)) 63 1 = upTo (fun v => (some [], some [], some (S (next (newB (atB x v))) jt))) 63 1 := by kernel_rfl
/-! ### Its end -/
noncomputable def hd0 (x : X) (jt : Nat → Value) : RCC := code hdc (S x jt) [F]
theorem out (x : X) (jt : Nat → Value) : isX (hd0 x jt) = some (0, [pr (.bool (intLt x.at' x.n)) (F)]) := by kernel_rfl
noncomputable def fin (x : X) (jt : Nat → Value) : Option OutC := lastC Tryd.prog enters CB CC DC (mkR 7) 1000 Tryd.f7 rest (stOf (hd0 x jt)) []
def atAB (x : X) (v : Nat) : X := { x with na := .ofNat v, nb := .ofNat v }
theorem ends (x : X) (jt : Nat → Value) : upTo (fun v => saidOf (fin (atAB x v) jt)) 64 0 = upTo (fun _ => some (.bool true, [])) 64 0 := by kernel_rfl
end Go.Proofs.YtbkgnlcjnimpcaaDoor.fanCursor
