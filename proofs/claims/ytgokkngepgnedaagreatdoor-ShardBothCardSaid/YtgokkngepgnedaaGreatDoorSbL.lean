/- ShardBoth: where nothing was posted. -/
import Derived.Test.YtgokkngepgnedaaGreatDoorSbI
import Derived.Test.YtgokkngepgnedaaGreatDoorSbE
namespace Go.Proofs.YtgokkngepgnedaaGreatDoor.shardBoth
open Go Go.Ab Go.RowKit
set_option maxRecDepth 100000
noncomputable def kx0 : Ab.Told := fun f => match Nat.beq f 33 with
  | true => some (pureX 33 val33)
  | false => match Nat.beq f 42 with
    | true => some (pureX 42 val42)
    | false => match Nat.beq f 6 with
      | true => some (pureX 6 val6)
      | false => match Nat.beq f 44 with
        | true => some (pureX 44 val44)
        | false => none
def mkZ : Marks := marksIn [(3, [52], [], [])]
noncomputable def kn0 : Known := orK (toldK kx0) (memoK [⟨8, [], Tr⟩])
noncomputable def CBz : CallB := layerQ Tryz.prog 2 FT enters kn0 1048576 40 2
noncomputable def CCz : CallC := layerE Tryz.prog 2 FT enters kx0 (memoK [⟨8, [], Tr⟩]) mkZ 1048576 40 2
noncomputable def DBz : DrawB := drawB Tryz.prog enters CBz
noncomputable def DCz : DrawC := drawC Tryz.prog enters CBz CCz
theorem CCzok : CallEq CBz CCz := layerE_eq kx0 (memoK [⟨8, [], Tr⟩]) mkZ 1048576 40 2
theorem DCzok : DrawEq DBz DCz := drawC_eq CCzok
theorem told0Ok : CallSound Tryz.prog 2 (toldK kx0).call := by
  intro f args h v h' e
  unfold Known.call toldK at e
  cases hk : kx0 f with
  | none => rw [hk] at e; cases e
  | some k =>
    rw [hk] at e
    dsimp only at e
    cases hq : k args h with
    | none => rw [hq] at e; cases e
    | some q =>
      obtain ⟨p, u, h2⟩ := q
      rw [hq] at e
      dsimp only at e
      split at e
      · rename_i hp
        simp only [Option.some.injEq, Prod.mk.injEq] at e
        obtain ⟨rfl, rfl⟩ := e
        unfold kx0 at hk
        split at hk
        · rename_i e; obtain rfl := Nat.eq_of_beq_eq_true e; cases hk; exact pure_sound hq hp
        split at hk
        · rename_i e; obtain rfl := Nat.eq_of_beq_eq_true e; cases hk; exact pure_sound hq hp
        split at hk
        · rename_i e; obtain rfl := Nat.eq_of_beq_eq_true e; cases hk; exact pure_sound hq hp
        split at hk
        · rename_i e; obtain rfl := Nat.eq_of_beq_eq_true e; cases hk; exact pure_sound hq hp
        · cases hk
      · cases e
theorem kn0Ok : CallSound Tryz.prog 2 kn0.call := orK_sound told0Ok (memoK_sound fun x hx => by
  simp only [List.mem_cons, List.not_mem_nil, or_false] at hx
  subst hx
  exact awake_ok)
theorem CBzok : CallSound Tryz.prog 2 (callOf CBz) := layerQ_sound entersOk zerosOk table plans kn0Ok 1048576 40 2
theorem DBzok : DrawGood Tryz.prog 2 (fun ops T h => (DBz ops).un T h) := drawB_sound entersOk zerosOk CBzok
noncomputable def outZ (to : Int) (ok : Bool) (j0 : Nat → Value) : RCC := (codeC Tryz.prog enters CBz CCz DCz (mkZ 3) 1000 lp).un (P0 0 to ok j0).1 (P0 0 to ok j0).2 [] []
noncomputable def finZ (to : Int) (ok : Bool) (j0 : Nat → Value) (x : Nat) : Option OutC := lastC Tryz.prog enters CBz CCz DCz (mkZ 3) 1000 Tryz.f3 rest (stOf (outZ to ok j0)) [e24 x]
noncomputable def zlockN (x s : Nat) : Noted := [ab (cLock x s), mi (cLock x s) [119] [99] 6 s, mi (cLock x s) [118] (nm x) (slT x) s, mi (cLock x s) [119] [99] 6 s]
noncomputable def zfinN (x s : Nat) (ok : Bool) : Noted := match ok with
  | false => [ab (cFin x s false (99 :: enc 0))]
  | true => [ab (cFin x s true (99 :: enc 0)), mi (cFin x s true (99 :: enc 0)) [118] (nm x) (slT x) s] ++ (match Nat.beq s (slT x) with
    | true => [MemoOk Tryz.prog ⟨44, [str (99 :: enc 0), str [99]], .tuple ⟨[str (enc 0), Tr]⟩⟩]
    | false => []) ++ [mi (cFin x s true (99 :: enc 0)) [119] [99] 6 s]
noncomputable def zboth (x : Nat) (f : Nat → Noted) : Noted := match cls x with
  | 0 => f (slT x) ++ f 6
  | 1 => f 6 ++ f (slT x)
  | _ => f 6
noncomputable def zN (x : Nat) (ok : Bool) (to : Int) : Noted := [pr (i64 (bandF to 15)) (e24 x)] ++ zboth x (zlockN x) ++ zboth x (fun s => zfinN x s ok) ++ [m6 100 oHere 6, ab (cOp 100 oHere 6), m6 101 (oAway x) (slT x), ab (cOp 101 (oAway x) (slT x))] ++ (match ok with
  | true => [m6 102 (oNew x) (slT x), ab (cOp 102 (oNew x) (slT x))]
  | false => [])
theorem leaves0 (to : Int) (ok : Bool) (j0 : Nat → Value) : isX (outZ to ok j0) = some (0, []) := by kernel_rfl
theorem z0 (to : Int) (j0 : Nat → Value) : [0, 1].map (fun x => (saidOf (finZ to false j0 x), saidOf (finZ to true j0 x))) = [0, 1].map (fun x => (some (Tr, revN (zN x false to) []), some (Tr, revN (zN x true to) []))) := by kernel_rfl
theorem z1 (to : Int) (j0 : Nat → Value) : [2, 3].map (fun x => (saidOf (finZ to false j0 x), saidOf (finZ to true j0 x))) = [2, 3].map (fun x => (some (Tr, revN (zN x false to) []), some (Tr, revN (zN x true to) []))) := by kernel_rfl
theorem z2 (to : Int) (j0 : Nat → Value) : [4, 5].map (fun x => (saidOf (finZ to false j0 x), saidOf (finZ to true j0 x))) = [4, 5].map (fun x => (some (Tr, revN (zN x false to) []), some (Tr, revN (zN x true to) []))) := by kernel_rfl
theorem z3 (to : Int) (j0 : Nat → Value) : [6, 7].map (fun x => (saidOf (finZ to false j0 x), saidOf (finZ to true j0 x))) = [6, 7].map (fun x => (some (Tr, revN (zN x false to) []), some (Tr, revN (zN x true to) []))) := by kernel_rfl
theorem z4 (to : Int) (j0 : Nat → Value) : [8, 9].map (fun x => (saidOf (finZ to false j0 x), saidOf (finZ to true j0 x))) = [8, 9].map (fun x => (some (Tr, revN (zN x false to) []), some (Tr, revN (zN x true to) []))) := by kernel_rfl
theorem z5 (to : Int) (j0 : Nat → Value) : [10, 11].map (fun x => (saidOf (finZ to false j0 x), saidOf (finZ to true j0 x))) = [10, 11].map (fun x => (some (Tr, revN (zN x false to) []), some (Tr, revN (zN x true to) []))) := by kernel_rfl
theorem z6 (to : Int) (j0 : Nat → Value) : [12, 13].map (fun x => (saidOf (finZ to false j0 x), saidOf (finZ to true j0 x))) = [12, 13].map (fun x => (some (Tr, revN (zN x false to) []), some (Tr, revN (zN x true to) []))) := by kernel_rfl
theorem z7 (to : Int) (j0 : Nat → Value) : [14, 15].map (fun x => (saidOf (finZ to false j0 x), saidOf (finZ to true j0 x))) = [14, 15].map (fun x => (some (Tr, revN (zN x false to) []), some (Tr, revN (zN x true to) []))) := by kernel_rfl
theorem zs (to : Int) (j0 : Nat → Value) {x : Nat} (hx : x < 16) : (saidOf (finZ to false j0 x), saidOf (finZ to true j0 x)) = (some (Tr, revN (zN x false to) []), some (Tr, revN (zN x true to) [])) := by
  have h : x = 0 ∨ x = 1 ∨ x = 2 ∨ x = 3 ∨ x = 4 ∨ x = 5 ∨ x = 6 ∨ x = 7 ∨ x = 8 ∨ x = 9 ∨ x = 10 ∨ x = 11 ∨ x = 12 ∨ x = 13 ∨ x = 14 ∨ x = 15 := by omega
  rcases h with rfl | rfl | rfl | rfl | rfl | rfl | rfl | rfl | rfl | rfl | rfl | rfl | rfl | rfl | rfl | rfl
  · exact map_mem (z0 to j0) 0 List.mem_cons_self
  · exact map_mem (z0 to j0) 1 (List.mem_cons_of_mem _ List.mem_cons_self)
  · exact map_mem (z1 to j0) 2 List.mem_cons_self
  · exact map_mem (z1 to j0) 3 (List.mem_cons_of_mem _ List.mem_cons_self)
  · exact map_mem (z2 to j0) 4 List.mem_cons_self
  · exact map_mem (z2 to j0) 5 (List.mem_cons_of_mem _ List.mem_cons_self)
  · exact map_mem (z3 to j0) 6 List.mem_cons_self
  · exact map_mem (z3 to j0) 7 (List.mem_cons_of_mem _ List.mem_cons_self)
  · exact map_mem (z4 to j0) 8 List.mem_cons_self
  · exact map_mem (z4 to j0) 9 (List.mem_cons_of_mem _ List.mem_cons_self)
  · exact map_mem (z5 to j0) 10 List.mem_cons_self
  · exact map_mem (z5 to j0) 11 (List.mem_cons_of_mem _ List.mem_cons_self)
  · exact map_mem (z6 to j0) 12 List.mem_cons_self
  · exact map_mem (z6 to j0) 13 (List.mem_cons_of_mem _ List.mem_cons_self)
  · exact map_mem (z7 to j0) 14 List.mem_cons_self
  · exact map_mem (z7 to j0) 15 (List.mem_cons_of_mem _ List.mem_cons_self)
theorem z_ (to : Int) (j0 : Nat → Value) {x : Nat} (hx : x < 16) (ok : Bool) : saidOf (finZ to ok j0 x) = some (Tr, revN (zN x ok to) []) := by
  cases ok with
  | false => exact (Prod.mk.inj (zs to j0 hx)).1
  | true => exact (Prod.mk.inj (zs to j0 hx)).2
end Go.Proofs.YtgokkngepgnedaaGreatDoor.shardBoth
