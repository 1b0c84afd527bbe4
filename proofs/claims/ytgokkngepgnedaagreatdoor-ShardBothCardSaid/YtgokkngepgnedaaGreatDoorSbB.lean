/- ShardBoth: what is told: functions that look at their arguments alone, a channel as bytes, and back. -/
import Derived.Test.YtgokkngepgnedaaGreatDoorSbA
namespace Go.Proofs.YtgokkngepgnedaaGreatDoor.shardBoth
open Go Go.Ab Go.RowKit
set_option maxRecDepth 100000
/-! ### Objects -/
def pF (j : Nat) : Value := match Nat.beq (j % 2) 0 with | true => str [97, 110, 110] | false => str [120]
/-- So many posts. -/
def pO (n : Nat) : AObj := .cells (rowFn pF (n * 2)) 131
def annO : AObj := .map #[⟨str [97, 110, 110], Tr, 0⟩] 1
def chO (mb pb n : Nat) : AObj := .cells (Row.ofList [.map (some mb), .slice (some ⟨pb, 0, none⟩) n OPEN]) 128
def strO (l : List UInt8) : AObj := .cells (Row.ofList [str l]) 9
/-- A channel as bytes. -/
def enc (n : Nat) : List UInt8 := [1, 3, 97, 110, 110, UInt8.ofNat n] ++ (List.replicate n [3, 97, 110, 110, 1, 120]).flatten
/-! ### What is told -/
def slotN (sp ch : List UInt8) : Nat := match sp with
  | b :: _ => (match Nat.beq b.toNat 119 with
    | true => 6
    | false => (match ch with | _ :: y :: _ => slT (y.toNat - 97) | _ => 0))
  | _ => 0
def txtV : Value → List UInt8
  | .string ⟨⟨l⟩⟩ => l
  | _ => []
def natV : Value → Nat
  | .int _ (.ofNat n) => n
  | _ => 0
def val6 : List Value → Option Value
  | [.int _ z, .agg ⟨op⟩] => some (cOp z op (slotN (txtV (op.getD 1 undef)) (txtV (op.getD 2 undef))))
  | _ => none
def val33 : List Value → Option Value := fun _ => some Tr
def val42 : List Value → Option Value
  | [.agg ⟨c⟩, sp, ch] => some (.bool (Nat.beq (slotN (txtV sp) (txtV ch)) (natV (c.getD 14 undef))))
  | _ => none
def val44 : List Value → Option Value
  | [.string ⟨⟨_ :: l⟩⟩, _] => some (.tuple ⟨[str l, Tr]⟩)
  | _ => none
noncomputable def pureX (f : Nat) (val : List Value → Option Value) : Array Value → AHeap → Option (Prop × Value × AHeap) := fun args h => match val (listOf args) with
  | some v => some (MemoOk Tryz.prog ⟨f, listOf args, v⟩, v, h)
  | none => none
def few (n : Nat) (d : List UInt8) : Prop := d = enc n ∧ 1 ≤ n ∧ n ≤ 31
def p43 (o1 o2 o3 : AObj) (mb pb n : Nat) (d : List UInt8) : Prop := o1 = chO mb pb n ∧ o2 = annO ∧ o3 = pO n ∧ few n d
noncomputable def x43 (d : List UInt8) : Array Value → AHeap → Option (Prop × Value × AHeap) := fun args h => match listOf args with
  | [.pointer (some ⟨b, 0, none⟩)] => (match heapGet h b with
    | .cells r _ => (match rowGet r 0, rowGet r 1 with
      | some (.map (some mb)), some (.slice (some a) n _) => (match Nat.blt b h.next && (Nat.blt mb h.next && (Nat.blt a.block h.next && Nat.ble h.next h.lim)) with
        | true => some (p43 (heapGet h b) (heapGet h mb) (heapGet h a.block) mb a.block n d, str d, h)
        | false => none)
      | _, _ => none)
    | _ => none)
  | _ => none
def p45 (o : AObj) (n : Nat) (d : List UInt8) : Prop := o = strO d ∧ few n d
noncomputable def e45 (n s : Nat) (h : AHeap) : AHeap := heapPush (heapPush (heapPush (heapPut h s (strO [])) annO) (pO n)) (chO h.next (h.next + 1) n)
noncomputable def x45 (n : Nat) (d : List UInt8) : Array Value → AHeap → Option (Prop × Value × AHeap) := fun args h => match listOf args with
  | [.pointer (some ⟨s, 0, none⟩)] => (match Nat.blt s h.next && Nat.ble (h.next + 3) h.lim with
    | true => some (p45 (heapGet h s) n d, .pointer (some ⟨h.next + 2, 0, none⟩), e45 n s h)
    | false => none)
  | _ => none
noncomputable def kx (n : Nat) (d : List UInt8) : Ab.Told := fun f => match Nat.beq f 33 with
  | true => some (pureX 33 val33)
  | false => match Nat.beq f 42 with
    | true => some (pureX 42 val42)
    | false => match Nat.beq f 6 with
      | true => some (pureX 6 val6)
      | false => match Nat.beq f 44 with
        | true => some (pureX 44 val44)
        | false => match Nat.beq f 43 with
          | true => some (x43 d)
          | false => match Nat.beq f 45 with
            | true => some (x45 n d)
            | false => none
/-! ### Calls -/
noncomputable def kn (n : Nat) (d : List UInt8) : Known := orK (toldK (kx n d)) (memoK [⟨8, [], Tr⟩])
noncomputable def CB (n : Nat) (d : List UInt8) : CallB := layerQ Tryz.prog 2 FT enters (kn n d) 1048576 40 1
noncomputable def CC (n : Nat) (d : List UInt8) (mk : Marks) : CallC := layerE Tryz.prog 2 FT enters (kx n d) (memoK [⟨8, [], Tr⟩]) mk 1048576 40 1
noncomputable def DB (n : Nat) (d : List UInt8) : DrawB := drawB Tryz.prog enters (CB n d)
noncomputable def DC (n : Nat) (d : List UInt8) (mk : Marks) : DrawC := drawC Tryz.prog enters (CB n d) (CC n d mk)
theorem CCok (n : Nat) (d : List UInt8) (mk : Marks) : CallEq (CB n d) (CC n d mk) := layerE_eq (kx n d) (memoK [⟨8, [], Tr⟩]) mk 1048576 40 1
theorem DCok (n : Nat) (d : List UInt8) (mk : Marks) : DrawEq (DB n d) (DC n d mk) := drawC_eq (CCok n d mk)
end Go.Proofs.YtgokkngepgnedaaGreatDoor.shardBoth
