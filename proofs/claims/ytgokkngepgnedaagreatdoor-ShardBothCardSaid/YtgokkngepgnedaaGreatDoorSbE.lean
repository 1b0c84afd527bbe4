/- ShardBoth: what is told is so: the surroundings of the told runs. -/
import Derived.Test.YtgokkngepgnedaaGreatDoorSbD
namespace Go.Proofs.YtgokkngepgnedaaGreatDoor.shardBoth
open Go Go.Ab Go.RowKit
set_option maxRecDepth 100000
theorem mini43_get (n c : Nat) : (mini43 n).get c = if c = 12 then pO n else if c = 11 then annO else if c = 10 then chO 11 12 n else .dead := by
  unfold mini43
  rw [AHeap.get_push, AHeap.get_push, AHeap.get_push]
  show (if c = 12 then _ else if c = 11 then _ else if c = 10 then _ else (bareOf 2).get c) = _
  rw [show (bareOf 2).get c = .dead by simp [bareOf, AHeap.get, Tree.get_leaf]]
theorem x43_sound {d : List UInt8} {args : Array Value} {h : AHeap} {p : Prop} {v : Value} {h' : AHeap} (hx : x43 d args h = some (p, v, h')) (hp : p) : Said 43 args h v h' := by
  unfold x43 at hx
  split at hx <;> try (cases hx; done)
  rename_i b hargs
  split at hx <;> try (cases hx; done)
  split at hx <;> try (cases hx; done)
  rename_i mb a n k _ _
  split at hx <;> try (cases hx; done)
  rename_i hb
  obtain rfl := listOf1 hargs
  simp only [Option.some.injEq, Prod.mk.injEq] at hx
  obtain ⟨rfl, rfl, rfl⟩ := hx
  obtain ⟨b1, hb⟩ := ba hb
  obtain ⟨b2, hb⟩ := ba hb
  obtain ⟨b3, b4⟩ := ba hb
  rw [Nat.blt_eq] at b1 b2 b3
  rw [Nat.ble_eq] at b4
  obtain ⟨o1, o2, o3, rfl, n1, n2⟩ := hp
  rw [heapGet_eq] at o1 o2 o3
  generalize a.block = pb at b3 o1 o3
  have hck := run43 n1 n2
  unfold ck43 at hck
  split at hck <;> try (cases hck; done)
  rename_i v0 s' hr
  obtain ⟨c1, hck⟩ := ba hck
  obtain ⟨c2, hck⟩ := ba hck
  obtain ⟨c3, c4⟩ := ba hck
  obtain rfl := veq_eq 8 _ _ c1
  rw [heapGet_eq] at c2 c3 c4
  have three : ∀ j, j < 3 → j = 0 ∨ j = 1 ∨ j = 2 := fun j hj => by omega
  have d1 : b ≠ mb := by rintro rfl; rw [o1] at o2; cases o2
  have d2 : mb ≠ pb := by rintro rfl; rw [o2] at o3; cases o3
  have d3 : b ≠ pb := by
    rintro rfl
    rw [o1] at o3
    have := (AObj.cells.inj o3).2
    exact absurd this (by decide)
  let x : Fr := ⟨10, [b, mb, pb], []⟩
  have fr : FrOk Tryz.prog 2 x (mini43 n) s' h h := by
    refine ⟨(show 2 ≤ 10 by decide), rfl, fun c hc => ?_, fun c => ?_, ?_, fun i j hi hj he => ?_, fun i hi => ?_, fun i hi m m1 l w hl hok => ?_, ⟨rfl, rfl⟩, fun c _ _ => rfl, fun c _ _ => rfl, fun i hi hd => ?_, fun i hi m m1 l w hl hok => ?_, fun j hj => absurd hj (Nat.not_lt_zero _), fun i j hi => absurd hi (Nat.not_lt_zero _), fun j hj => absurd hj (Nat.not_lt_zero _)⟩
    · rw [mini43_get] at hc
      by_cases h12 : c = 12
      · exact ⟨2, (show 2 < 3 by decide), h12⟩
      by_cases h11 : c = 11
      · exact ⟨1, (show 1 < 3 by decide), h11⟩
      by_cases h10 : c = 10
      · exact ⟨0, (show 0 < 3 by decide), h10⟩
      rw [if_neg h12, if_neg h11, if_neg h10] at hc
      exact absurd rfl hc
    · rw [mini43_get]
      split
      · rfl
      · split
        · rfl
        · split <;> rfl
    · exact b4
    · rcases three i hi with rfl | rfl | rfl <;> rcases three j hj with rfl | rfl | rfl
      · rfl
      · exact absurd he d1
      · exact absurd he d3
      · exact absurd he.symm d1
      · rfl
      · exact absurd he d2
      · exact absurd he.symm d3
      · exact absurd he.symm d2
      · rfl
    · rcases three i hi with rfl | rfl | rfl
      · show b < h.next ∧ h.get b ≠ .dead ∧ isRo (h.get b) = false
        rw [o1]
        exact ⟨b1, (fun q => by cases q), rfl⟩
      · show mb < h.next ∧ h.get mb ≠ .dead ∧ isRo (h.get mb) = false
        rw [o2]
        exact ⟨b2, (fun q => by cases q), rfl⟩
      · show pb < h.next ∧ h.get pb ≠ .dead ∧ isRo (h.get pb) = false
        rw [o3]
        exact ⟨b3, (fun q => by cases q), rfl⟩
    · have l1 : m mb = m1 11 := hl 1 (show 1 < 3 by decide)
      have l2 : m pb = m1 12 := hl 2 (show 2 < 3 by decide)
      rcases three i hi with rfl | rfl | rfl
      · have hok2 : OKObj Tryz.prog m l w (h.get b) := hok
        rw [o1] at hok2
        show OKObj Tryz.prog m1 l w ((mini43 n).get 10)
        rw [mini43_get, if_neg (by decide), if_neg (by decide), if_pos rfl]
        exact ok_ch l1.symm l2.symm hok2
      · have hok2 : OKObj Tryz.prog m l w (h.get mb) := hok
        rw [o2] at hok2
        show OKObj Tryz.prog m1 l w ((mini43 n).get 11)
        rw [mini43_get, if_neg (by decide), if_pos rfl]
        exact ok_ann hok2
      · have hok2 : OKObj Tryz.prog m l w (h.get pb) := hok
        rw [o3] at hok2
        show OKObj Tryz.prog m1 l w ((mini43 n).get 12)
        rw [mini43_get, if_pos rfl]
        exact ok_flat (one_posts n) hok2
    · rcases three i hi with rfl | rfl | rfl
      · refine ⟨(objEq_live c2).1, (objEq_live c2).2.1, ?_⟩
        show isRo (h.get b) = false
        rw [o1]; rfl
      · refine ⟨(objEq_live c3).1, (objEq_live c3).2.1, ?_⟩
        show isRo (h.get mb) = false
        rw [o2]; rfl
      · refine ⟨(objEq_live c4).1, (objEq_live c4).2.1, ?_⟩
        show isRo (h.get pb) = false
        rw [o3]; rfl
    · have l1 : m mb = m1 11 := hl.1 1 (show 1 < 3 by decide)
      have l2 : m pb = m1 12 := hl.1 2 (show 2 < 3 by decide)
      rcases three i hi with rfl | rfl | rfl
      · show OKObj Tryz.prog m l w (h.get b)
        rw [o1]
        exact ok_ch l1 l2 (objEq_ok c2 hok)
      · show OKObj Tryz.prog m l w (h.get mb)
        rw [o2]
        exact ok_ann (objEq_ok c3 hok)
      · show OKObj Tryz.prog m l w (h.get pb)
        rw [o3]
        exact ok_flat (one_posts n) (objEq_ok c4 hok)
  refine ⟨fr.nx, fun B m args' w ha hr2 hG => ?_⟩
  obtain ⟨v', rfl, hv'⟩ := args_one ha
  refine frame_call CB1ok hr fr (fun m1 hl => args_mk ?_) (fun m m1 v' hl hv => flat_keep rfl hv) hr2 hG
  exact ren_ptr (hl 0 (show 0 < 3 by decide)).symm hv'
theorem pure_sound {f : Nat} {val : List Value → Option Value} {args : Array Value} {h : AHeap} {p : Prop} {v : Value} {h' : AHeap} (hx : pureX f val args h = some (p, v, h')) (hp : p) : Said f args h v h' := by
  unfold pureX at hx
  split at hx <;> try (cases hx; done)
  rename_i u hu
  simp only [Option.some.injEq, Prod.mk.injEq] at hx
  obtain ⟨rfl, rfl, rfl⟩ := hx
  obtain ⟨k1, k2, k3⟩ := hp
  rw [listOf_eq] at k1 k3
  refine ⟨Nx.refl _, fun B m args' w ha hr hG => ?_⟩
  have e2 : args' = args := by
    refine Array.ext ha.1.symm fun i a b => ?_
    exact (ha.2 i b a).of_flat 8 (List.all_eq_true.1 k1 _ (by simp))
  rw [e2]
  refine (k3 w).mono ?_
  rintro e w' ⟨rfl, hb⟩
  exact ⟨_, m, rfl, Ext.refl _ m, hr.below hb, vflat_rel m 8 _ k2⟩
theorem kx_sound {n : Nat} {d : List UInt8} {f : Nat} {k : Array Value → AHeap → Option (Prop × Value × AHeap)} {args : Array Value} {h : AHeap} {p : Prop} {v : Value} {h' : AHeap} (hk : kx n d f = some k) (hx : k args h = some (p, v, h')) (hp : p) : Said f args h v h' := by
  unfold kx at hk
  split at hk
  · rename_i e; obtain rfl := Nat.eq_of_beq_eq_true e; cases hk; exact pure_sound hx hp
  split at hk
  · rename_i e; obtain rfl := Nat.eq_of_beq_eq_true e; cases hk; exact pure_sound hx hp
  split at hk
  · rename_i e; obtain rfl := Nat.eq_of_beq_eq_true e; cases hk; exact pure_sound hx hp
  split at hk
  · rename_i e; obtain rfl := Nat.eq_of_beq_eq_true e; cases hk; exact pure_sound hx hp
  split at hk
  · rename_i e; obtain rfl := Nat.eq_of_beq_eq_true e; cases hk; exact x43_sound hx hp
  split at hk
  · rename_i e; obtain rfl := Nat.eq_of_beq_eq_true e; cases hk; exact x45_sound hx hp
  · cases hk
theorem toldOk (n : Nat) (d : List UInt8) : CallSound Tryz.prog 2 (toldK (kx n d)).call := by
  intro f args h v h' e
  unfold Known.call toldK at e
  cases hk : kx n d f with
  | none => rw [hk] at e; cases e
  | some k =>
    rw [hk] at e
    dsimp only at e
    cases hq : k args h with
    | none => rw [hq] at e; cases e
    | some q =>
      obtain ⟨p, u, h2⟩ := q
      rw [hq] at e
      dsimp only at e
      split at e
      · rename_i hp
        simp only [Option.some.injEq, Prod.mk.injEq] at e
        obtain ⟨rfl, rfl⟩ := e
        exact kx_sound hk hq hp
      · cases e
theorem knOk (n : Nat) (d : List UInt8) : CallSound Tryz.prog 2 (kn n d).call := orK_sound (toldOk n d) (memoK_sound fun x hx => by
  simp only [List.mem_cons, List.not_mem_nil, or_false] at hx
  subst hx
  exact awake_ok)
theorem CBok (n : Nat) (d : List UInt8) : CallSound Tryz.prog 2 (callOf (CB n d)) := layerQ_sound entersOk zerosOk table plans (knOk n d) 1048576 40 1
theorem DBok (n : Nat) (d : List UInt8) : DrawGood Tryz.prog 2 (fun ops T h => (DB n d ops).un T h) := drawB_sound entersOk zerosOk (CBok n d)
end Go.Proofs.YtgokkngepgnedaaGreatDoor.shardBoth
