/- slices.Insert of one record ahead of one record: what is known of it, whatever room there is. -/
import Derived.Test.YtdkomnkcemmdoaaGreatDoorEvX
namespace Go.Proofs.YtdkomnkcemmdoaaGreatDoor.node
open Go Go.Ab Go.RowKit
set_option maxRecDepth 100000

/-! ### Every value has one that stands for it -/
theorem all_rel (m : Mu) : ∀ v' : Value, ∃ v, VRel m v v'
  | .bool b => ⟨_, .bool b⟩
  | .agg c => by
    have key : ∀ i (h : i < c.size), ∃ v, VRel m v c[i] := fun i h => all_rel m c[i]
    refine ⟨.agg (Array.ofFn fun i : Fin c.size => (key i.1 i.2).choose), .agg _ _ (by simp) fun i h1 h2 => ?_⟩
    simp only [Array.getElem_ofFn]
    exact (key i h2).choose_spec
  | .tuple c => by
    have key : ∀ i (h : i < c.size), ∃ v, VRel m v c[i] := fun i h => all_rel m c[i]
    refine ⟨.tuple (Array.ofFn fun i : Fin c.size => (key i.1 i.2).choose), .tuple _ _ (by simp) fun i h1 h2 => ?_⟩
    simp only [Array.getElem_ofFn]
    exact (key i h2).choose_spec
  | .int k n => ⟨_, .int k n⟩
  | .float k n => ⟨_, .float k n⟩
  | .complex k a b => ⟨_, .complex k a b⟩
  | .string s => ⟨_, .string s⟩
  | .pointer p => ⟨.chan (some 0), .any 0 _ (fun _ q => by cases q) (fun _ q => by cases q) (fun _ q => by cases q)⟩
  | .slice a n c => ⟨.chan (some 0), .any 0 _ (fun _ q => by cases q) (fun _ q => by cases q) (fun _ q => by cases q)⟩
  | .map r => ⟨.chan (some 0), .any 0 _ (fun _ q => by cases q) (fun _ q => by cases q) (fun _ q => by cases q)⟩
  | .chan r => ⟨.chan (some 0), .any 0 _ (fun _ q => by cases q) (fun _ q => by cases q) (fun _ q => by cases q)⟩
  | .func f a b => ⟨.chan (some 0), .any 0 _ (fun _ q => by cases q) (fun _ q => by cases q) (fun _ q => by cases q)⟩
  | .nilFunc => ⟨.chan (some 0), .any 0 _ (fun _ q => by cases q) (fun _ q => by cases q) (fun _ q => by cases q)⟩
  | .nilIface => ⟨.chan (some 0), .any 0 _ (fun _ q => by cases q) (fun _ q => by cases q) (fun _ q => by cases q)⟩
  | .iface _ _ => ⟨.chan (some 0), .any 0 _ (fun _ q => by cases q) (fun _ q => by cases q) (fun _ q => by cases q)⟩
  termination_by v => SizeOf.sizeOf v
  decreasing_by
  all_goals
    have := Array.sizeOf_getElem c i h
    simp only [Value.agg.sizeOf_spec, Value.tuple.sizeOf_spec]
    omega

/-! ### The runs -/
def mkI : Marks := with5 [(215, [12, 30, 60])] (marksIn [(215, [31], [], [])])
noncomputable def CBi : CallB := quickB noneK 40
noncomputable def CCi : CallC := callC Tryz.prog enters FT noneK (drawB Tryz.prog enters) (drawC Tryz.prog enters) mkI 1048576 40
noncomputable def DBi : DrawB := drawB Tryz.prog enters CBi
noncomputable def DCi : DrawC := drawC Tryz.prog enters CBi CCi
theorem CBiok : CallSound Tryz.prog 7 (callOf CBi) := quickB_sound noneK_sound 40
theorem CCiok : CallEq CBi CCi := callC_eq (fun _ _ h => drawC_eq h) mkI 1048576 40
theorem DCiok : DrawEq DBi DCi := drawC_eq CCiok
theorem DBiok : DrawGood Tryz.prog 7 (fun ops T h => (DBi ops).un T h) := drawB_sound entersOk zerosOk CBiok
noncomputable def bodyI : Code := Tryz.f215.body.getD .skip
theorem hasBodyI : Tryz.f215.body = some bodyI := by kernel_rfl
noncomputable def restI : Code := dropN 8 bodyI
theorem kI : partsOk Tryz.prog 7 95 8 bodyI = true := by kernel_rfl
theorem okI : codeOk 7 95 restI = true := by kernel_rfl
theorem plI : plansOk Tryz.prog restI = true := by kernel_rfl
theorem info197 : (Tryz.prog.info? 197).map (·.size) = some 6 := by kernel_rfl
theorem und212 : Tryz.prog.underlying 212 = some (.slice 197) := by kernel_rfl
def sX (n c : Nat) : Value := .slice (some ⟨15, 0, none⟩) n c
def sY : Value := .slice (some ⟨16, 0, none⟩) 1 1
def sZ : Value := .slice (some ⟨17, 0, none⟩) 2 OPEN
def hI (k : Nat) (f g : Nat → Value) : AHeap := ((⟨.leaf, 15, 1099511627776⟩ : AHeap).push (.cells (rowFn f k) 197)).push (.cells (rowFn g 6) 197)
/-- What comes of it: the one, then what was there. -/
def F12 (f g : Nat → Value) (i : Nat) : Value := match Nat.blt i 6 with
  | true => g i
  | false => f (i - 6)
def listF (t : Tree Value) : Nat → Nat → List Value
  | 0, _ => []
  | k + 1, i => t.get undef i :: listF t k (i + 1)
def rowL (o : AObj) : Option (TypeId × Nat × List Value) := match o with
  | .cells ⟨n, t⟩ ty => some (ty, n, listF t n 0)
  | _ => none
def listG (f : Nat → Value) : Nat → Nat → List Value
  | 0, _ => []
  | k + 1, i => f i :: listG f k (i + 1)
def outA (r : Option (Value × AHeap)) : Option (Value × Option (TypeId × Nat × List Value)) := match r with
  | some x => some (x.1, rowL (x.2.get 17))
  | none => none
def isLive : AObj → Bool
  | .dead => false
  | _ => true
/-- A record's cells. -/
def rec6 (x : Nat → Int) (t : ByteArray) (J : Nat → Value) (i : Nat) : Value := match Nat.blt i 5, Nat.blt i 6 with
  | true, _ => i64 (x i)
  | false, true => .string t
  | false, false => J i
def outA2 (r : Option (Value × AHeap)) : Option (Bool × Option (TypeId × Nat × List Value)) := match r with
  | some x => some (isLive (x.2.get 15), rowL (x.2.get 16))
  | none => none
theorem roadA (x y : Nat → Int) (s t : ByteArray) (J J2 : Nat → Value) : (fun r => (outA r, outA2 r)) ((CBi 215).un #[sX 1 1, i64 0, sY] (hI 6 (rec6 x s J) (rec6 y t J2))) = (some (sZ, some (197, 12, listG (F12 (rec6 x s J) (rec6 y t J2)) 12 0)), some (true, some (197, 6, listG (rec6 y t J2) 6 0))) := by kernel_rfl
def F : Value := .bool false
noncomputable def yB (c : Nat) (f g : Nat → Value) : SC := goNC Tryz.prog enters CBi CCi DCi (mkI 215) 1000 8 bodyI ⟨(initT [sX 1 c, i64 0, sY] 0 .leaf, hI 12 f g), [sX 1 c, goInt c, F, sX 2 c], [], true⟩
noncomputable def notesB (c : Nat) : Noted := [sliceFact Tryz.prog 212 (sX 1 c) (some (i64 0)) none none (sX 1 c), capFact Tryz.prog 212 (sX 1 c) (goInt c), pr (.bool (intLt c 2)) F, sliceFact Tryz.prog 212 (sX 1 c) none (some (i64 2)) none (sX 2 c)]
noncomputable def endI (c : Nat) (f g : Nat → Value) : Option OutC := lastC Tryz.prog enters CBi CCi DCi (fun _ => 0) 1000 Tryz.f215 restI ((yB c f g).s.1.set undef 0 (sX 2 OPEN), (yB c f g).s.2) []
def outB (r : Option OutC) : Option (Value × Option (TypeId × Nat × List Value)) := match r with
  | some x => some (x.v, rowL (x.h.get 15))
  | none => none
def outB2 (r : Option OutC) : Option (Noted × Option (TypeId × Nat × List Value)) := match r with
  | some x => some (x.lg, rowL (x.h.get 16))
  | none => none
theorem roadB (c : Nat) (f g : Nat → Value) : (fun y => (y.ok, y.lg, Tget y.s.1 0)) (yB c f g) = (true, revN (notesB c) [], sX 2 c) := by kernel_rfl
theorem roadB2 (c : Nat) (x y : Nat → Int) (s t : ByteArray) (J J2 : Nat → Value) : (fun r => (outB r, outB2 r)) (endI c (rec6 x s J) (rec6 y t J2)) = (some (sX 2 OPEN, some (197, 12, listG (F12 (rec6 x s J) (rec6 y t J2)) 12 0)), some ([], some (197, 6, listG (rec6 y t J2) 6 0))) := by kernel_rfl
end Go.Proofs.YtdkomnkcemmdoaaGreatDoor.node
