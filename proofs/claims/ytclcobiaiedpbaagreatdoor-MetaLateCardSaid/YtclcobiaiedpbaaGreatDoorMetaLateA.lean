/- MetaLate's run: what is marked, the states at the heads of its two loops. -/
import Derived.Test.YtclcobiaiedpbaaGreatDoorAbFr
import Derived.Test.YtclcobiaiedpbaaGreatDoorAbX
namespace Go.Proofs.YtclcobiaiedpbaaGreatDoor.metaLate
open Go Go.Ab
set_option maxRecDepth 100000
def mkR : Marks := marksIn [(3, [35, 85, 88, 91], [94, 95], []), (10, [6, 12], [], [])]
/-- Where the kind of what comes late is told too. -/
def mkO : Mk := marksOf [35, 85, 88, 91, 98, 102, 107, 112] [94, 95] []
/-! ### The function that defers -/
noncomputable def CB0 : CallB := quickB noneK 40
noncomputable def DB0 : DrawB := drawB Tryz.prog enters CB0
theorem CB0ok : CallSound Tryz.prog 2 (callOf CB0) := quickB_sound noneK_sound 40
theorem DB0ok : DrawGood Tryz.prog 2 (fun ops T h => (DB0 ops).un T h) := drawB_sound entersOk zerosOk CB0ok
noncomputable def tb : Code := Tryz.f85.body.getD .skip
noncomputable def gb : Code := Tryz.f90.body.getD .skip
def opOf (c : Code) : Oper := match c with
  | .region _ ops _ => ops.getD 0 default
  | _ => default
def idOf (c : Code) : Nat := match c with
  | .region i _ _ => i
  | _ => 0
noncomputable def txt : DeferText := ⟨Tryz.f85, 90, Tryz.f90, codeL tb, idOf (codeL (codeR tb)), opOf (codeL (codeR tb)), codeR (codeR tb), idOf (codeL gb), opOf (codeL gb), codeR gb⟩
noncomputable def dargs : List Operand := match (opOf (codeL (codeR tb))).op with
  | .defer c => c.args.toList
  | _ => []
def okD (o : Oper) (n : Nat) : Bool := match o.dst with
  | some d => Nat.blt d n
  | none => true
theorem okD_lt {o : Oper} {n : Nat} (h : okD o n = true) : ∀ d, o.dst = some d → d < n := by
  intro d hd
  unfold okD at h
  rw [hd] at h
  exact Nat.blt_eq ▸ h
theorem txtOk : DeferOk Tryz.prog 2 85 txt dargs where
  hf := Tryz.func85
  hb := by kernel_rfl
  hD := ⟨match (opOf (codeL (codeR tb))).op with | .defer c => c | _ => default, by kernel_rfl, by kernel_rfl, by kernel_rfl⟩
  gD := by kernel_rfl
  hg := Tryz.func90
  gb := by kernel_rfl
  hR := ⟨match (opOf (codeL gb)).op with | .call c => c | _ => default, by kernel_rfl, by kernel_rfl, by kernel_rfl⟩
  gR := by kernel_rfl
  ok0 := by kernel_rfl
  okr := by kernel_rfl
  okg := by kernel_rfl
  pl0 := by kernel_rfl
  plr := by kernel_rfl
  plg := by kernel_rfl
  dstD := okD_lt (by kernel_rfl)
  dstR := okD_lt (by kernel_rfl)
  ops := fun o ho => List.all_eq_true.1 (show dargs.all (opndOk 2) = true by kernel_rfl) o ho
  ent := fun args w => (entersOk 90).1 (by kernel_rfl) args w
noncomputable def triedF : Array Value → AHeap → Option (Value × AHeap) := deferF Tryz.prog enters CB0 DB0 1000 txt dargs
/-- What must come, comes. -/
def awakeM : Memo := ⟨12, [], .bool true⟩
theorem awakeOk : MemoOk Tryz.prog awakeM := memo_of_quick (quickB_sound noneK_sound 40) rfl rfl (by kernel_rfl)
def offV : Value := .agg #[.int .i64 7, .string ⟨⟨[]⟩⟩, .string ⟨⟨[]⟩⟩, .string ⟨⟨[97, 110, 110]⟩⟩, .string ⟨⟨[]⟩⟩, .string ⟨⟨[]⟩⟩, .string ⟨⟨[]⟩⟩, .int .i64 0, .int .i64 0]
/-- That a user is off may be asked. -/
def checkM : Memo := ⟨51, [offV], .int .i64 0⟩
theorem checkOk : MemoOk Tryz.prog checkM := memo_of_quick (quickB_sound noneK_sound 40) rfl rfl (by kernel_rfl)
noncomputable def kn : Known := fun f => match Nat.beq f 85 with
  | true => some triedF
  | false => memoK [awakeM, checkM] f
theorem knOk : CallSound Tryz.prog 2 kn.call := by
  intro f args h v h' e
  unfold Known.call kn at e
  cases hb : Nat.beq f 85 with
  | true =>
    obtain rfl := Nat.eq_of_beq_eq_true hb
    exact deferF_sound entersOk zerosOk CB0ok DB0ok txtOk e
  | false =>
    rw [hb] at e
    exact memoK_sound (l := [awakeM, checkM]) (fun x hx => by
      simp only [List.mem_cons, List.not_mem_nil, or_false] at hx
      rcases hx with rfl | rfl
      · exact awakeOk
      · exact checkOk) f args h v h' e
noncomputable def draw : CallB → DrawB := drawB Tryz.prog enters
noncomputable def drawc : CallB → CallC → DrawC := drawC Tryz.prog enters
noncomputable def CB : CallB := quickB kn 40
noncomputable def CC : CallC := callC Tryz.prog enters FT kn draw drawc mkR 1048576 40
noncomputable def DB : DrawB := draw CB
noncomputable def DC : DrawC := drawc CB CC
theorem CBok : CallSound Tryz.prog 2 (callOf CB) := quickB_sound knOk 40
theorem CCok : CallEq CB CC := callC_eq (fun _ _ h => drawC_eq h) mkR 1048576 40
theorem DCok : DrawEq DB DC := drawC_eq CCok
theorem DBok : DrawGood Tryz.prog 2 (fun ops T h => (DB ops).un T h) := drawB_sound entersOk zerosOk CBok
noncomputable def body : Code := Tryz.f3.body.getD .skip
theorem hasBody : Tryz.f3.body = some body := by kernel_rfl
noncomputable def c4 : Code := dropN 4 body
noncomputable def iniA : Code := codeL c4
noncomputable def restA : Code := codeR c4
noncomputable def blkA : Code := codeR iniA
noncomputable def d4 : Code := dropN 4 restA
noncomputable def iniB : Code := codeL d4
noncomputable def restB : Code := codeR d4
noncomputable def blkB : Code := codeR iniB
def inBlk : Code → Code
  | .block _ (.loop c) => c
  | c => c
noncomputable def lpA : Code := inBlk blkA
noncomputable def hdA : Code := codeL lpA
noncomputable def lpA2 : Code := codeR lpA
noncomputable def lpB : Code := inBlk blkB
noncomputable def hdB : Code := codeL lpB
noncomputable def lpB2 : Code := codeR lpB
theorem e1 : c4 = .seq iniA restA := by kernel_rfl
theorem e2 : dropN 1 iniA = blkA := by kernel_rfl
theorem e3 : blkA = .block 0 (.loop lpA) := by kernel_rfl
theorem e4 : lpA = .seq hdA lpA2 := by kernel_rfl
theorem e5 : d4 = .seq iniB restB := by kernel_rfl
theorem e6 : dropN 1 iniB = blkB := by kernel_rfl
theorem e7 : blkB = .block 6 (.loop lpB) := by kernel_rfl
theorem e8 : lpB = .seq hdB lpB2 := by kernel_rfl
theorem k0 : partsOk Tryz.prog 2 149 4 body = true := by kernel_rfl
theorem k1 : partsOk Tryz.prog 2 149 1 iniA = true := by kernel_rfl
theorem k2 : partsOk Tryz.prog 2 149 4 restA = true := by kernel_rfl
theorem k3 : partsOk Tryz.prog 2 149 1 iniB = true := by kernel_rfl
theorem okA : codeOk 2 149 lpA = true := by kernel_rfl
theorem okHA : codeOk 2 149 hdA = true := by kernel_rfl
theorem okB : codeOk 2 149 lpB = true := by kernel_rfl
theorem okHB : codeOk 2 149 hdB = true := by kernel_rfl
theorem okR : codeOk 2 149 restB = true := by kernel_rfl
theorem plA : plansOk Tryz.prog lpA = true := by kernel_rfl
theorem plHA : plansOk Tryz.prog hdA = true := by kernel_rfl
theorem plB : plansOk Tryz.prog lpB = true := by kernel_rfl
theorem plHB : plansOk Tryz.prog hdB = true := by kernel_rfl
theorem plR : plansOk Tryz.prog restB = true := by kernel_rfl
noncomputable def code (mk : Mk) (c : Code) (s : St) (tp : Ab.Tape) : RCC := (codeC Tryz.prog enters CB CC DC mk 1000 c).un s.1 s.2 tp []
noncomputable def parts (k : Nat) (c : Code) (s : St) (tp : Ab.Tape) : SC := goNC Tryz.prog enters CB CC DC (mkR 3) 1000 k c ⟨s, tp, [], true⟩

/-! ### The states -/
/-- What comes late: nothing, a row of none, a row. -/
inductive V where
  | nil
  | empty (c : Nat)
  | some (n c : Nat) (f : Nat → Value)
def lateV (b : Nat) : V → Value
  | .nil => .slice none 0 0
  | .empty c => .slice (Option.some ⟨b, 0, none⟩) 0 c
  | .some n c _ => .slice (Option.some ⟨b, 0, none⟩) n c
def roO : V → AObj
  | .some n _ f => .ro (rowFn f (n * 20)) 36
  | _ => .dead
def isR : V → Nat → Bool
  | .some _ _ _, y => Nat.beq y 7
  | _, _ => false
def str (l : List UInt8) : Value := .string ⟨⟨l⟩⟩
def e24 (n : Nat) : Value := .int .i64 (.ofNat n)
/-- z: has something been done already? -/
def waitV (z : Bool) : Value := match z with
  | false => .slice none 0 0
  | true => .slice (Option.some ⟨6, 1, none⟩) 0 18446744073709551615
def waitO (z : Bool) (jh : Nat → Nat → Value) : AObj := match z with
  | false => .dead
  | true => .cells ⟨1, treeF (jh 6) 1 0 .leaf⟩ 78
def tabO (z : Bool) (w : Nat) : AObj := match z with
  | false => .map #[] 0
  | true => .map #[⟨e24 1, .agg #[e24 w, e24 0, e24 0, .slice none 0 0], 0⟩] 1
def ownA : List Value := [e24 1, e24 1, e24 1, e24 1, e24 1, e24 1, e24 1, e24 1, e24 1, e24 1, e24 1, e24 1, e24 1, e24 1, e24 1, e24 1, e24 2, e24 1, e24 2, e24 1, e24 2, e24 1, e24 2, e24 1, e24 2, e24 1, e24 2, e24 1, e24 2, e24 1, e24 2, e24 1]
def ownB : List Value := [e24 1, e24 1, e24 1, e24 1, e24 1, e24 1, e24 2, e24 2, e24 1, e24 1, e24 1, e24 1, e24 1, e24 1, e24 1, e24 1, e24 2, e24 1, e24 2, e24 1, e24 2, e24 1, e24 2, e24 1, e24 2, e24 1, e24 2, e24 1, e24 2, e24 1, e24 2, e24 1]
def heapOf (v : V) (z : Bool) (w pl : Nat) (own : List Value) (jh : Nat → Nat → Value) : AHeap :=
  ⟨heapF [.dead, .dead, cellsOfL [e24 2, ptrTo 3, ptrTo 4, waitV z, e24 w, e24 pl, e24 0, e24 0, e24 0, .bool false, str []] 50, cellsOfL own 111, cellsOfL [.map (Option.some 5)] 114, tabO z w, waitO z jh, roO v] 0 .leaf, 8, 1099511627776⟩
noncomputable def nX (many : Int) : Int := wrapF .i64 (Int.add 1 (remF (bandF many 7) 5))
def zOf (i : Nat) : Bool := match i with
  | 0 => false
  | _ + 1 => true
noncomputable def SA (many : Int) (v : V) (i : Nat) (jt : Nat → Value) (jh : Nat → Nat → Value) : St := (treeF (slotsOf [(1, lateV 7 v), (5, ptrTo 2), (7, i64 (nX many)), (8, e24 i)] jt) 149 0 .leaf, heapOf v (zOf i) i 0 ownA jh)
def SB (v : V) (w : Nat) (l : List UInt8) (i : Nat) (jt : Nat → Value) (jh : Nat → Nat → Value) : St := (treeF (slotsOf [(1, lateV 7 v), (5, ptrTo 2), (12, str l), (13, e24 0), (14, e24 i)] jt) 149 0 .leaf, heapOf v true w 1 ownB jh)
def cellAt (s : St) (b i : Nat) : Value := match s.2.get b with
  | .cells c _ => c.t.get undef i
  | _ => undef
def shOf (v : V) (z : Bool) (keep : List Nat) (s : St) : Shape :=
  (fun m => (fun tb => ⟨[0, 1, m, blkOf (cellAt s m 1), tb, blkOf (cellAt s tb 0), (match z with | false => 2 | true => blkOf (cellAt s m 3)), (match v with | .nil => 7 | _ => blkOf (Tget s.1 1))], 149, inL keep, fun y _ => (match Nat.beq y 6 with | true => false | false => true), isR v⟩) (blkOf (cellAt s m 2))) (blkOf (Tget s.1 5))
def keepA : List Nat := [1, 5, 7, 8]
def keepB : List Nat := [1, 5, 12, 13, 14]
/-! ### Ahead of the first loop -/
def heap0 (v : V) : AHeap := match v with
  | .nil => bareOf 2
  | .empty _ => (bareOf 2).push .dead
  | .some n _ f => (bareOf 2).push (.ro (rowFn f (n * 20)) 36)
noncomputable def s0 (many : Int) (v : V) : St := (initT [i64 many, lateV 10 v] 0 .leaf, heap0 v)
noncomputable def y1 (many : Int) (v : V) : SC := parts 4 body (s0 many v) []
noncomputable def y2 (many : Int) (v : V) : SC := parts 1 iniA (y1 many v).s []
def F : Value := .bool false
def Tr : Value := .bool true
def aheadL (many : Int) (v : V) (jt : Nat → Value) (jh : Nat → Nat → Value) (y z : SC) : Bool × Noted × Bool × Noted × Option St := (y.ok, y.lg, z.ok, z.lg, canonS (shOf v false keepA z.s) 2 z.s jt jh)
/-! ### A round of the first loop, and what stands between the loops -/
noncomputable def rndA (many : Int) (v : V) (i : Nat) (j0 : Nat → Value) (h0 : Nat → Nat → Value) : RCC := code (mkR 3) lpA (SA many v i j0 h0) [Tr]
noncomputable def roundL (many : Int) (v : V) (j0 jt : Nat → Value) (h0 jh : Nat → Nat → Value) (i : Nat) : Option Noted × Option St := (fun r => (isN r, canonS (shOf v true keepA (stOf r)) 2 (stOf r) jt jh)) (rndA many v i j0 h0)
noncomputable def roundR (many : Int) (v : V) (jt : Nat → Value) (jh : Nat → Nat → Value) (i : Nat) : Option Noted × Option St := (Option.some [pr (.bool (intLt (.ofNat i) (nX many))) Tr], Option.some (SA many v (i + 1) jt jh))
noncomputable def outA (many : Int) (v : V) (i : Nat) (j0 : Nat → Value) (h0 : Nat → Nat → Value) : RCC := code (mkR 3) hdA (SA many v i j0 h0) [F]
noncomputable def y3 (many : Int) (v : V) (i : Nat) (j0 : Nat → Value) (h0 : Nat → Nat → Value) : SC := parts 4 restA (stOf (outA many v i j0 h0)) []
noncomputable def y4 (many : Int) (v : V) (i : Nat) (j0 : Nat → Value) (h0 : Nat → Nat → Value) : SC := parts 1 iniB (y3 many v i j0 h0).s []
def sL (n : Nat) : List UInt8 := [89, 2, UInt8.ofNat n, 1, 0, 0, 0, 0, 33, 83, 1, 1, 1, 1, 1, 1, 2, 2, 1, 1, 1, 1, 1, 1, 1, 1, 2, 1, 2, 1, 2, 1, 2, 1, 2, 1, 2, 1, 2, 1, 2, 1, 0, 1, 6, 65, 1, UInt8.ofNat n, 0, 0, 0, 0]
noncomputable def midL (many : Int) (v : V) (j0 jt : Nat → Value) (h0 jh : Nat → Nat → Value) (i : Nat) : Option (Nat × Noted) × Bool × Noted × Bool × Noted × Option St :=
  (fun y z => (isX (outA many v i j0 h0), y.ok, y.lg, z.ok, z.lg, canonS (shOf v true keepB z.s) 2 z.s jt jh)) (y3 many v i j0 h0) (y4 many v i j0 h0)
noncomputable def midR (many : Int) (v : V) (jt : Nat → Value) (jh : Nat → Nat → Value) (i : Nat) : Option (Nat × Noted) × Bool × Noted × Bool × Noted × Option St :=
  (Option.some (0, [pr (.bool (intLt (.ofNat i) (nX many))) F]), true, [], true, [], Option.some (SB v i (sL i) 0 jt jh))
/-! ### The end -/
noncomputable def outB (v : V) (w : Nat) (l : List UInt8) (i : Nat) (tp : Ab.Tape) (j0 : Nat → Value) (h0 : Nat → Nat → Value) : RCC := code (mkR 3) hdB (SB v w l i j0 h0) tp
noncomputable def fin (s : St) : Option OutC := lastC Tryz.prog enters CB CC DC (mkR 3) 1000 Tryz.f3 restB s []
end Go.Proofs.YtclcobiaiedpbaaGreatDoor.metaLate
