/- ShardBoth: the beginning. -/
import Derived.Test.YtgokkngepgnedaaGreatDoorSbB
namespace Go.Proofs.YtgokkngepgnedaaGreatDoor.shardBoth
open Go Go.Ab Go.RowKit
set_option maxRecDepth 100000
abbrev St := Tree Value × AHeap
def with6 (l : List (Nat × List Nat)) (mk : Marks) (g : Nat) (t : Nat) : Nat := match l.any (fun x => Nat.beq x.1 g && inL x.2 t) with
  | true => 6
  | false => mk g t
def with11 (l : List (Nat × List Nat)) (mk : Marks) (g : Nat) (t : Nat) : Nat := match l.any (fun x => Nat.beq x.1 g && inL x.2 t) with
  | true => 11
  | false => mk g t
def mk : Marks := with11 [(58, [7])] (with6 [(39, [144])] (with5 [(39, [73])] (marksIn [(3, [31, 42, 44, 47, 52, 123, 155, 168], [82], []), (24, [], [96], []), (38, [34], [], [20, 46]), (35, [24, 31], [], [12]), (55, [27, 32], [], []), (39, [57, 66, 72, 77, 131, 152], [], [50, 58, 133]), (23, [], [], [21, 55, 69, 77]), (5, [], [], [35])])))
noncomputable def codeK (n : Nat) (d : List UInt8) (f : Nat) (c : Code) (s : St) (tp : Ab.Tape) : RCC := (codeC Tryz.prog enters (CB n d) (CC n d mk) (DC n d mk) (mk f) 1000 c).un s.1 s.2 tp []
noncomputable def partsK (n : Nat) (d : List UInt8) (f k : Nat) (c : Code) (s : St) (tp : Ab.Tape) : SC := goNC Tryz.prog enters (CB n d) (CC n d mk) (DC n d mk) (mk f) 1000 k c ⟨s, tp, [], true⟩
def inBlk : Code → Code
  | .block _ (.loop c) => c
  | c => c
noncomputable def body : Code := Tryz.f3.body.getD .skip
theorem hasBody : Tryz.f3.body = some body := by kernel_rfl
noncomputable def c6 : Code := dropN 6 body
noncomputable def ini : Code := codeL c6
noncomputable def rest : Code := codeR c6
noncomputable def lp : Code := inBlk (codeR ini)
theorem e1 : c6 = .seq ini rest := by kernel_rfl
theorem e2 : dropN 1 ini = .block 0 (.loop lp) := by kernel_rfl
theorem k0 : partsOk Tryz.prog 2 173 6 body = true := by kernel_rfl
theorem k1 : partsOk Tryz.prog 2 173 1 ini = true := by kernel_rfl
theorem okL : codeOk 2 173 lp = true := by kernel_rfl
theorem okR : codeOk 2 173 rest = true := by kernel_rfl
theorem plL : plansOk Tryz.prog lp = true := by kernel_rfl
theorem plR : plansOk Tryz.prog rest = true := by kernel_rfl
noncomputable def s0 (po to : Int) (ok : Bool) : St := (initT [i64 po, i64 to, .bool ok] 0 .leaf, bareOf 2)
def mkB : Marks := marksIn [(3, [31], [], [])]
noncomputable def partsB (n : Nat) (d : List UInt8) (f k : Nat) (c : Code) (s : St) (tp : Ab.Tape) : SC := goNC Tryz.prog enters (CB n d) (CC n d mkB) (DC n d mkB) (mkB f) 1000 k c ⟨s, tp, [], true⟩
noncomputable def y1 (n : Nat) (d : List UInt8) (po to : Int) (ok : Bool) : SC := partsB n d 3 6 body (s0 po to ok) [e24 n]
noncomputable def y2 (n : Nat) (d : List UInt8) (po to : Int) (ok : Bool) : SC := partsB n d 3 1 ini (y1 n d po to ok).s []
/-! ### Which blocks are reached -/
def ptrsV : Nat → Value → List Nat
  | _, .pointer (some a) => [a.block]
  | _, .slice (some a) _ _ => [a.block]
  | _, .map (some b) => [b]
  | k + 1, .agg ⟨l⟩ => l.flatMap (ptrsV k)
  | _, _ => []
noncomputable def cellsOf (r : Row) : List Value := (List.range r.len).map fun i => match rowGet r i with | some v => v | none => undef
noncomputable def ptrsO : AObj → List Nat
  | .cells r _ => (cellsOf r).flatMap (ptrsV 3)
  | .map ⟨l⟩ _ => l.flatMap fun e => ptrsV 3 e.key ++ ptrsV 3 e.val
  | _ => []
noncomputable def reachF (h : AHeap) : Nat → List Nat → List Nat → List Nat
  | 0, _, vis => vis
  | _, [], vis => vis
  | k + 1, b :: st, vis => match vis.any (Nat.beq b) with
    | true => reachF h k st vis
    | false => reachF h k (ptrsO (heapGet h b) ++ st) (vis ++ [b])
noncomputable def reach (s : St) : List Nat := reachF s.2 1000 (ptrsV 1 (Tget s.1 7)) []
end Go.Proofs.YtgokkngepgnedaaGreatDoor.shardBoth
