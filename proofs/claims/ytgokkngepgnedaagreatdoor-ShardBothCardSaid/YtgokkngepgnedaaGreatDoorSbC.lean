/- ShardBoth: a channel as bytes, and back: the runs, for each number of posts. -/
import Derived.Test.YtgokkngepgnedaaGreatDoorSbB
namespace Go.Proofs.YtgokkngepgnedaaGreatDoor.shardBoth
open Go Go.Ab Go.RowKit
set_option maxRecDepth 100000
noncomputable def CB1 : CallB := richQ noneK 1
theorem CB1ok : CallSound Tryz.prog 2 (callOf CB1) := richQ_sound noneK_sound 1
def ptr (b : Nat) : Value := .pointer (some ⟨b, 0, none⟩)
def mini43 (n : Nat) : AHeap := (((bareOf 2).push (chO 11 12 n)).push annO).push (pO n)
def mini45 (n : Nat) : AHeap := (bareOf 2).push (strO (enc n))
noncomputable def r43 (n : Nat) : Option (Value × AHeap) := (CB1 43).un #[ptr 10] (mini43 n)
noncomputable def r45 (n : Nat) : Option (Value × AHeap) := (CB1 45).un #[ptr 10] (mini45 n)
noncomputable def ck43 (n : Nat) : Bool := match r43 n with
  | some (v, s) => veq 8 v (str (enc n)) && (objEq (heapGet s 10) (chO 11 12 n) && (objEq (heapGet s 11) annO && objEq (heapGet s 12) (pO n)))
  | none => false
noncomputable def pbOf (s : AHeap) : Nat := match heapGet s 27 with
  | .cells r _ => (match rowGet r 1 with | some (.slice (some a) _ _) => a.block | _ => 0)
  | _ => 0
noncomputable def ck45 (n : Nat) : Bool := match r45 n with
  | some (v, s) => veq 8 v (ptr 27) && (objEq (heapGet s 10) (strO []) && (objEq (heapGet s 11) annO && (objEq (heapGet s (pbOf s)) (pO n) && (objEq (heapGet s 27) (chO 11 (pbOf s) n) && Nat.blt 27 (pbOf s)))))
  | none => false
theorem run43a : upTo ck43 12 1 = upTo (fun _ => true) 12 1 := by kernel_rfl
theorem run43b : upTo ck43 9 13 = upTo (fun _ => true) 9 13 := by kernel_rfl
theorem run43c : upTo ck43 10 22 = upTo (fun _ => true) 10 22 := by kernel_rfl
theorem run45a : upTo ck45 12 1 = upTo (fun _ => true) 12 1 := by kernel_rfl
theorem run45b : upTo ck45 7 13 = upTo (fun _ => true) 7 13 := by kernel_rfl
theorem run45c : upTo ck45 6 20 = upTo (fun _ => true) 6 20 := by kernel_rfl
theorem run45d : upTo ck45 6 26 = upTo (fun _ => true) 6 26 := by kernel_rfl
theorem run43 {n : Nat} (h1 : 1 ≤ n) (h2 : n ≤ 31) : ck43 n = true := by
  rcases Nat.lt_or_ge n 13 with h | h
  · exact upTo_eq _ _ run43a n h1 (by omega)
  rcases Nat.lt_or_ge n 22 with h | h
  · exact upTo_eq _ _ run43b n (by omega) (by omega)
  · exact upTo_eq _ _ run43c n h (by omega)
theorem run45 {n : Nat} (h1 : 1 ≤ n) (h2 : n ≤ 31) : ck45 n = true := by
  rcases Nat.lt_or_ge n 13 with h | h
  · exact upTo_eq _ _ run45a n h1 (by omega)
  rcases Nat.lt_or_ge n 20 with h | h
  · exact upTo_eq _ _ run45b n (by omega) (by omega)
  rcases Nat.lt_or_ge n 26 with h | h
  · exact upTo_eq _ _ run45c n (by omega) (by omega)
  · exact upTo_eq _ _ run45d n h (by omega)
noncomputable def CB2 : CallB := richQ noneK 2
theorem CB2ok : CallSound Tryz.prog 2 (callOf CB2) := richQ_sound noneK_sound 2
theorem awake : ((CB2 8).un ([] : List Value).toArray (bareOf 2)).map (·.1) = some Tr := by kernel_rfl
theorem awake_ok : MemoOk Tryz.prog ⟨8, [], Tr⟩ := memo_of_quick CB2ok rfl rfl awake
end Go.Proofs.YtgokkngepgnedaaGreatDoor.shardBoth
