/- ShardBoth: the runs where it is as it was. -/
import Derived.Test.YtgokkngepgnedaaGreatDoorSbI
namespace Go.Proofs.YtgokkngepgnedaaGreatDoor.shardBoth
open Go Go.Ab Go.RowKit
set_option maxRecDepth 100000
theorem no0 (m : Nat) (d : List UInt8) (to : Int) (j0 : Nat → Value) : [0, 1].map (fun x => saidOf (fin m d to false j0 (noT x m d))) = [0, 1].map (fun x => some (Tr, revN (noN x m to d) [])) := by kernel_rfl
theorem no1 (m : Nat) (d : List UInt8) (to : Int) (j0 : Nat → Value) : [2, 3].map (fun x => saidOf (fin m d to false j0 (noT x m d))) = [2, 3].map (fun x => some (Tr, revN (noN x m to d) [])) := by kernel_rfl
theorem no2 (m : Nat) (d : List UInt8) (to : Int) (j0 : Nat → Value) : [4, 5].map (fun x => saidOf (fin m d to false j0 (noT x m d))) = [4, 5].map (fun x => some (Tr, revN (noN x m to d) [])) := by kernel_rfl
theorem no3 (m : Nat) (d : List UInt8) (to : Int) (j0 : Nat → Value) : [6, 7].map (fun x => saidOf (fin m d to false j0 (noT x m d))) = [6, 7].map (fun x => some (Tr, revN (noN x m to d) [])) := by kernel_rfl
theorem no4 (m : Nat) (d : List UInt8) (to : Int) (j0 : Nat → Value) : [8, 9].map (fun x => saidOf (fin m d to false j0 (noT x m d))) = [8, 9].map (fun x => some (Tr, revN (noN x m to d) [])) := by kernel_rfl
theorem no5 (m : Nat) (d : List UInt8) (to : Int) (j0 : Nat → Value) : [10, 11].map (fun x => saidOf (fin m d to false j0 (noT x m d))) = [10, 11].map (fun x => some (Tr, revN (noN x m to d) [])) := by kernel_rfl
theorem no6 (m : Nat) (d : List UInt8) (to : Int) (j0 : Nat → Value) : [12, 13].map (fun x => saidOf (fin m d to false j0 (noT x m d))) = [12, 13].map (fun x => some (Tr, revN (noN x m to d) [])) := by kernel_rfl
theorem no7 (m : Nat) (d : List UInt8) (to : Int) (j0 : Nat → Value) : [14, 15].map (fun x => saidOf (fin m d to false j0 (noT x m d))) = [14, 15].map (fun x => some (Tr, revN (noN x m to d) [])) := by kernel_rfl
theorem no (m : Nat) (d : List UInt8) (to : Int) (j0 : Nat → Value) {x : Nat} (hx : x < 16) : saidOf (fin m d to false j0 (noT x m d)) = some (Tr, revN (noN x m to d) []) := by
  have h : x = 0 ∨ x = 1 ∨ x = 2 ∨ x = 3 ∨ x = 4 ∨ x = 5 ∨ x = 6 ∨ x = 7 ∨ x = 8 ∨ x = 9 ∨ x = 10 ∨ x = 11 ∨ x = 12 ∨ x = 13 ∨ x = 14 ∨ x = 15 := by omega
  rcases h with rfl | rfl | rfl | rfl | rfl | rfl | rfl | rfl | rfl | rfl | rfl | rfl | rfl | rfl | rfl | rfl
  · exact map_mem (no0 m d to j0) 0 List.mem_cons_self
  · exact map_mem (no0 m d to j0) 1 (List.mem_cons_of_mem _ List.mem_cons_self)
  · exact map_mem (no1 m d to j0) 2 List.mem_cons_self
  · exact map_mem (no1 m d to j0) 3 (List.mem_cons_of_mem _ List.mem_cons_self)
  · exact map_mem (no2 m d to j0) 4 List.mem_cons_self
  · exact map_mem (no2 m d to j0) 5 (List.mem_cons_of_mem _ List.mem_cons_self)
  · exact map_mem (no3 m d to j0) 6 List.mem_cons_self
  · exact map_mem (no3 m d to j0) 7 (List.mem_cons_of_mem _ List.mem_cons_self)
  · exact map_mem (no4 m d to j0) 8 List.mem_cons_self
  · exact map_mem (no4 m d to j0) 9 (List.mem_cons_of_mem _ List.mem_cons_self)
  · exact map_mem (no5 m d to j0) 10 List.mem_cons_self
  · exact map_mem (no5 m d to j0) 11 (List.mem_cons_of_mem _ List.mem_cons_self)
  · exact map_mem (no6 m d to j0) 12 List.mem_cons_self
  · exact map_mem (no6 m d to j0) 13 (List.mem_cons_of_mem _ List.mem_cons_self)
  · exact map_mem (no7 m d to j0) 14 List.mem_cons_self
  · exact map_mem (no7 m d to j0) 15 (List.mem_cons_of_mem _ List.mem_cons_self)
end Go.Proofs.YtgokkngepgnedaaGreatDoor.shardBoth
