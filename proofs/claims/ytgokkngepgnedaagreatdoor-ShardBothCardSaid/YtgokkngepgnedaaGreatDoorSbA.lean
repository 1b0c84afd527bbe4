/- ShardBoth: what is known of the functions that look at a command's op alone. -/
import Derived.Test.YtgokkngepgnedaaGreatDoorEvX
namespace Go.Proofs.YtgokkngepgnedaaGreatDoor.shardBoth
open Go Go.Ab Go.RowKit
set_option maxRecDepth 100000
abbrev str (l : List UInt8) : Value := .string ⟨⟨l⟩⟩
abbrev i64 (z : Int) : Value := .int .i64 z
abbrev Tr : Value := .bool true
abbrev F : Value := .bool false
/-- The slot of the other name. -/
def slT : Nat → Nat
  | 0 => 11
  | 1 => 7
  | 2 => 2
  | 3 => 6
  | 4 => 8
  | 5 => 13
  | 6 => 4
  | 7 => 13
  | 8 => 12
  | 9 => 1
  | 10 => 15
  | 11 => 0
  | 12 => 13
  | 13 => 2
  | 14 => 10
  | _ => 3
def e24 (n : Nat) : Value := .int .i64 (.ofNat n)
def nm (x : Nat) : List UInt8 := [99, UInt8.ofNat (97 + x)]
def opL (k : Int) (sp ch us tx ts to : List UInt8) (fr mo : Int) : List Value := [i64 k, str sp, str ch, str us, str tx, str ts, str to, i64 fr, i64 mo]
/-- The ops. -/
def oMake : List Value := opL 1 [119] [99] [] [] [] [] 0 0
def oJoin : List Value := opL 2 [119] [99] [97, 110, 110] [] [] [] 0 0
def oPost : List Value := opL 3 [119] [99] [97, 110, 110] [120] [] [] 0 0
def oMove (x : Nat) : List Value := opL 5 [119] [99] [] [] [118] (nm x) 0 0
def oHere : List Value := opL 4 [119] [99] [] [] [] [] 999 0
def oAway (x : Nat) : List Value := opL 4 [118] (nm x) [] [] [] [] 999 0
def oNew (x : Nat) : List Value := opL 3 [118] (nm x) [97, 110, 110] [121] [] [] 0 0
/-- The commands. -/
def cmdL (k se sq : Int) (op : List Value) (tx : Int) (sl : Nat) (ok : Bool) (d : List UInt8) : List Value := [i64 k, i64 se, i64 sq] ++ op ++ [i64 tx, i64 0, e24 sl, i64 0, i64 0, .bool ok, i64 0, str d]
def cOp (q : Int) (op : List Value) (sl : Nat) : Value := .agg ⟨cmdL 1 1 q op 0 sl false []⟩
def cLock (x sl : Nat) : Value := .agg ⟨cmdL 2 0 0 (oMove x) 1 sl false []⟩
def cFin (x sl : Nat) (ok : Bool) (d : List UInt8) : Value := .agg ⟨cmdL 3 0 0 (oMove x) 1 sl ok d⟩
noncomputable def CB0 : CallB := quickB noneK 40
theorem CB0ok : CallSound Tryz.prog 2 (callOf CB0) := quickB_sound noneK_sound 40
noncomputable def val (f : Nat) (l : List Value) : Option Value := ((CB0 f).un l.toArray (bareOf 2)).map (·.1)
theorem mo {f : Nat} {l : List Value} {v : Value} (ha : l.all (vflat 8) = true) (hv : vflat 8 v = true) (h : val f l = some v) : MemoOk Tryz.prog ⟨f, l, v⟩ := memo_of_quick CB0ok ha hv h
def xs : List Nat := [0, 1, 2, 3, 4, 5, 6, 7, 8, 9, 10, 11, 12, 13, 14, 15]
def os4 : List (List Value) := [oMake, oJoin, oPost, oHere]
theorem op6 (q : Int) : os4.map (fun o => val 6 [i64 q, .agg ⟨o⟩]) = os4.map (fun o => some (cOp q o 6)) := by kernel_rfl
theorem op6x (q : Int) : xs.map (fun x => (val 6 [i64 q, .agg ⟨oAway x⟩], val 6 [i64 q, .agg ⟨oNew x⟩])) = xs.map (fun x => (some (cOp q (oAway x) (slT x)), some (cOp q (oNew x) (slT x)))) := by kernel_rfl
theorem ab33 (q : Int) : os4.map (fun o => val 33 [cOp q o 6]) = os4.map (fun _ => some Tr) := by kernel_rfl
theorem ab33x (q : Int) : xs.map (fun x => (val 33 [cOp q (oAway x) (slT x)], val 33 [cOp q (oNew x) (slT x)])) = xs.map (fun _ => (some Tr, some Tr)) := by kernel_rfl
theorem ab33m (ok : Bool) (d : List UInt8) : xs.map (fun x => (val 33 [cLock x 6], val 33 [cLock x (slT x)], val 33 [cFin x 6 ok d], val 33 [cFin x (slT x) ok d])) = xs.map (fun _ => (some Tr, some Tr, some Tr, some Tr)) := by kernel_rfl
noncomputable def mine4 (c : Nat → Value) (x : Nat) : Option Value × Option Value × Option Value × Option Value := (val 42 [c 6, str [119], str [99]], val 42 [c 6, str [118], str (nm x)], val 42 [c (slT x), str [119], str [99]], val 42 [c (slT x), str [118], str (nm x)])
def same (x : Nat) : Value := .bool (Nat.beq (slT x) 6)
theorem mine42 (ok : Bool) (d : List UInt8) : xs.map (fun x => (mine4 (cLock x) x, mine4 (fun s => cFin x s ok d) x)) = xs.map (fun x => ((some Tr, some (same x), some (same x), some Tr), (some Tr, some (same x), some (same x), some Tr))) := by kernel_rfl
end Go.Proofs.YtgokkngepgnedaaGreatDoor.shardBoth
