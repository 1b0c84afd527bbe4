/- ShardNobody: its runs, told. -/
import Derived.Test.YthapjgecggdliaaGreatDoorAbX
namespace Go.Proofs.YthapjgecggdliaaGreatDoor.shardNobody
open Go Go.Ab
set_option maxRecDepth 100000
def mkN : Marks := marksIn [(38, [9, 13], [], []), (6, [23, 27], [], []), (12, [12, 15, 19, 23], [], [])]
noncomputable def draw : CallB → DrawB := drawB Tryz.prog enters
noncomputable def drawc : CallB → CallC → DrawC := drawC Tryz.prog enters
noncomputable def kn : Known := richKn 1
theorem knOk : CallSound Tryz.prog 2 kn.call := richKn_sound 1
noncomputable def CB : CallB := quickB kn 40
noncomputable def CC : CallC := callC Tryz.prog enters FT kn draw drawc mkN 1048576 40
noncomputable def DB : DrawB := draw CB
noncomputable def DC : DrawC := drawc CB CC
theorem CBok : CallSound Tryz.prog 2 (callOf CB) := quickB_sound knOk 40
theorem CCok : CallEq CB CC := callC_eq (fun _ _ h => drawC_eq h) mkN 1048576 40
theorem DCok : DrawEq DB DC := drawC_eq CCok
/-- Nothing told. -/
def mk0 : Marks := fun _ _ => 0
noncomputable def CC0 : CallC := callC Tryz.prog enters FT kn draw drawc mk0 1048576 40
noncomputable def DC0 : DrawC := drawc CB CC0
theorem CC0ok : CallEq CB CC0 := callC_eq (fun _ _ h => drawC_eq h) mk0 1048576 40
theorem DC0ok : DrawEq DB DC0 := drawC_eq CC0ok
theorem DBok : DrawGood Tryz.prog 2 (fun ops T h => (DB ops).un T h) := drawB_sound entersOk zerosOk CBok
noncomputable def body : Code := Tryz.f5.body.getD .skip
theorem hasBody : Tryz.f5.body = some body := by kernel_rfl
noncomputable def rest : Code := dropN 4 body
theorem k0 : partsOk Tryz.prog 2 123 4 body = true := by kernel_rfl
theorem okR : codeOk 2 123 rest = true := by kernel_rfl
theorem plR : plansOk Tryz.prog rest = true := by kernel_rfl
noncomputable def parts (k : Nat) (c : Code) (s : St) (tp : Ab.Tape) : SC := goNC Tryz.prog enters CB CC DC (mkN 5) 1000 k c ⟨s, tp, [], true⟩
noncomputable def parts0 (k : Nat) (c : Code) (s : St) : SC := goNC Tryz.prog enters CB CC0 DC0 (mk0 5) 1000 k c ⟨s, [], [], true⟩
noncomputable def fin (s : St) : Option OutC := lastC Tryz.prog enters CB CC0 DC0 (mk0 5) 1000 Tryz.f5 rest s []
def F : Value := .bool false
def Tr : Value := .bool true
/-- A command's cells. -/
def cmdL (i : Nat → Int) (s : Nat → ByteArray) (b : Bool) : List Value := [i64 (i 0), i64 (i 1), i64 (i 2), i64 (i 3), .string (s 0), .string (s 1), .string (s 2), .string (s 3), .string (s 4), .string (s 5), i64 (i 4), i64 (i 5), i64 (i 6), i64 (i 7), i64 (i 8), i64 (i 9), i64 (i 10), .bool b, i64 (i 11), .string (s 6)]
noncomputable def s0 (cs : List Value) (g n : Int) : St := (initT [.agg ⟨cs⟩, i64 g, i64 n] 0 .leaf, bareOf 2)
def deads : Nat → List AObj → List AObj
  | 0, l => l
  | k + 1, l => .dead :: deads k l
/-- Behind the first part: nothing but the command is kept. -/
def S (cs : List Value) (jt : Nat → Value) : St := (treeF (slotsOf [(3, ptrTo 2)] jt) 123 0 .leaf, ⟨heapF (deads 2 [cellsOfL cs 40]) 0 .leaf, 2 + 1, 1099511627776⟩)
noncomputable def shS (s : St) : Shape := ⟨List.range 2 ++ [blkOf (Tget s.1 3)], 123, inL [3], fun _ _ => true, fun _ => false, fun _ => false, fun _ => false⟩
noncomputable def p1 (cs : List Value) (g n : Int) (tp : Ab.Tape) : SC := parts 4 body (s0 cs g n) tp
noncomputable def p1L (cs : List Value) (g n : Int) (tp : Ab.Tape) (jt : Nat → Value) (jh : Nat → Nat → Value) : Bool × Noted × Option St := (fun y => (y.ok, y.lg, canonS (shS y.s) 2 y.s jt jh)) (p1 cs g n tp)
noncomputable def inLo (n : Int) (v : Value) : Prop := pr (.bool (notB (intLt n 1))) v
noncomputable def inHi (n : Int) (v : Value) : Prop := pr (.bool (notB (intLt 8 n))) v
noncomputable def lo (n : Int) (v : Value) : Prop := pr (.bool (intLt n 1)) v
noncomputable def hi (n : Int) (v : Value) : Prop := pr (.bool (intLt 8 n)) v
noncomputable def hi9 (n : Int) (v : Value) : Prop := pr (.bool (notB (intLt n 9))) v
theorem bads (i : Nat → Int) (s : Nat → ByteArray) (b : Bool) (g n : Int) (jt : Nat → Value) (jh : Nat → Nat → Value) :
    (p1L (cmdL i s b) g n [F, Tr] jt jh, p1L (cmdL i s b) g n [F, F, Tr] jt jh, p1L (cmdL i s b) g n [F, F, F, Tr] jt jh,
     p1L (cmdL i s b) g n [Tr, F, Tr] jt jh, p1L (cmdL i s b) g n [Tr, F, F, Tr] jt jh, p1L (cmdL i s b) g n [Tr, F, F, F, F, Tr] jt jh,
     p1L (cmdL i s b) g n [Tr, Tr, Tr, Tr] jt jh, p1L (cmdL i s b) g n [Tr, Tr, F, Tr, F, Tr] jt jh) =
    ((true, revN [inLo n F, lo g Tr] [], some (S (cmdL i s b) jt)), (true, revN [inLo n F, lo g F, hi g Tr] [], some (S (cmdL i s b) jt)), (true, revN [inLo n F, lo g F, hi g F, lo n Tr] [], some (S (cmdL i s b) jt)),
     (true, revN [inLo n Tr, inHi n F, lo g Tr] [], some (S (cmdL i s b) jt)), (true, revN [inLo n Tr, inHi n F, lo g F, hi g Tr] [], some (S (cmdL i s b) jt)), (true, revN [inLo n Tr, inHi n F, lo g F, hi g F, lo n F, hi n Tr] [], some (S (cmdL i s b) jt)),
     (true, revN [inLo n Tr, inHi n Tr, lo g Tr, lo g Tr] [], some (S (cmdL i s b) jt)), (true, revN [inLo n Tr, inHi n Tr, lo g F, hi9 g Tr, lo g F, hi g Tr] [], some (S (cmdL i s b) jt))) := by kernel_rfl
noncomputable def p0 (cs : List Value) (g n : Int) : SC := parts0 4 body (s0 cs g n)
noncomputable def p0L (cs : List Value) (g n : Int) (jt : Nat → Value) (jh : Nat → Nat → Value) : Bool × Noted × Option St := (fun y => (y.ok, y.lg, canonS (shS y.s) 2 y.s jt jh)) (p0 cs g n)
end Go.Proofs.YthapjgecggdliaaGreatDoor.shardNobody
