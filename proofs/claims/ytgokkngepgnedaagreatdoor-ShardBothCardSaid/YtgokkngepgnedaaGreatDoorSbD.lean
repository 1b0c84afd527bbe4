/- ShardBoth: what is told of a channel's bytes is so. -/
import Derived.Test.YtgokkngepgnedaaGreatDoorSbC
namespace Go.Proofs.YtgokkngepgnedaaGreatDoor.shardBoth
open Go Go.Ab Go.RowKit
set_option maxRecDepth 100000
section
variable {P : Program}
theorem flat_keep {m m1 : Mu} {v v' : Value} (hf : vflat 8 v = true) (h : VRel m v v') : VRel m1 v v' := by
  rw [h.of_flat 8 hf]
  exact vflat_rel m1 8 v hf
theorem ok_flat {o : AObj} (h : OneForm o) {m m1 : Mu} {l : Ab.Loc} {w : World} (hok : OKObj P m l w o) : OKObj P m1 l w o := FixO.of_one (σ := []) h m m1 l w (fun y hy => by cases hy) hok
theorem ok_ann {m m1 : Mu} {l : Ab.Loc} {w : World} (hok : OKObj P m l w annO) : OKObj P m1 l w annO := by
  obtain ⟨es', h1, h2, h3, h4⟩ := hok
  refine ⟨es', h1, h2, h3, fun i a b => ?_⟩
  obtain ⟨k1, k2, k3⟩ := h4 i a b
  have hi : i = 0 := by
    have : i < 1 := a
    omega
  subst hi
  exact ⟨flat_keep rfl k1, flat_keep rfl k2, k3⟩
theorem ren_map {m m1 : Mu} {b b' : Nat} (h : m b = m1 b') {v' : Value} (hv : VRel m1 (.map (some b')) v') : VRel m (.map (some b)) v' := by
  cases hv with
  | map _ l h1 => exact .map b l (by rw [h]; exact h1)
theorem ren_ptr {m m1 : Mu} {b b' o : Nat} (h : m b = m1 b') {v' : Value} (hv : VRel m1 (.pointer (some ⟨b', o, none⟩)) v') : VRel m (.pointer (some ⟨b, o, none⟩)) v' := by
  cases hv with
  | ptr _ _ l h1 => exact .ptr b o l (by rw [h]; exact h1)
theorem ren_sl {m m1 : Mu} {b b' o n c : Nat} (h : m b = m1 b') {v' : Value} (hv : VRel m1 (.slice (some ⟨b', o, none⟩) n c) v') : VRel m (.slice (some ⟨b, o, none⟩) n c) v' := by
  cases hv with
  | slice _ _ _ _ l h1 h2 => exact .slice b o n c l (by rw [h]; exact h1) h2
  | oslice _ _ _ k l h1 h2 h3 h4 => exact .oslice b o n k l (by rw [h]; exact h1) h2 h3 h4
  | oslice0 _ _ k l a h1 h2 h3 => exact .oslice0 b o k l a (by rw [h]; exact h1) h2 h3
  | slice0 _ _ a => exact .slice0 b o a
theorem ok_ch {m m1 : Mu} {mb pb mb' pb' n : Nat} (hm : m mb = m1 mb') (hp : m pb = m1 pb') {l : Ab.Loc} {w : World} (hok : OKObj P m1 l w (chO mb' pb' n)) : OKObj P m l w (chO mb pb n) := by
  obtain ⟨C, fr, h1, h2, h3, h4, h5⟩ := hok
  refine ⟨C, fr, h1, h2, h3, fun i v hv => ?_, h5⟩
  rw [Row.ofList_get?] at hv
  match i, hv with
  | 0, hv =>
    obtain rfl := Option.some.inj hv
    obtain ⟨v', q1, q2⟩ := h4 0 (.map (some mb')) (by rw [Row.ofList_get?]; rfl)
    exact ⟨v', q1, ren_map hm q2⟩
  | 1, hv =>
    obtain rfl := Option.some.inj hv
    obtain ⟨v', q1, q2⟩ := h4 1 (.slice (some ⟨pb', 0, none⟩) n OPEN) (by rw [Row.ofList_get?]; rfl)
    exact ⟨v', q1, ren_sl hp q2⟩
  | i + 2, hv => cases hv
theorem one_str (l : List UInt8) : OneForm (strO l) := by
  refine .inr ⟨_, _, .inr rfl, fun i v hv => ?_⟩
  rw [Row.ofList_get?] at hv
  match i, hv with
  | 0, hv => obtain rfl := Option.some.inj hv; rfl
  | i + 1, hv => cases hv
theorem pF_flat (j : Nat) : vflat 8 (pF j) = true := by
  unfold pF
  cases Nat.beq (j % 2) 0 <;> rfl
theorem one_posts (n : Nat) : OneForm (pO n) := by
  refine .inr ⟨_, _, .inr rfl, fun i v hv => ?_⟩
  obtain ⟨_, rfl⟩ := rowFn_lt hv
  exact pF_flat i
end
theorem ba {a b : Bool} (h : (a && b) = true) : a = true ∧ b = true := by rwa [Bool.and_eq_true] at h
/-- What is told of a call is so. -/
abbrev Said (f : Nat) (args : Array Value) (h : AHeap) (v : Value) (h' : AHeap) : Prop := Nx h h' ∧ ∀ (B : Base) m args' w, ARel m args args' → Rel Tryz.prog B m h w → GRel 2 m →
  Calls Tryz.prog f args' w (fun e w' => ∃ v' m', e = .returned v' ∧ Ext h m m' ∧ Rel Tryz.prog B m' h' w' ∧ VRel m' v v')
theorem args_one {m : Mu} {v : Value} {args' : Array Value} (h : ARel m #[v] args') : ∃ v', args' = #[v'] ∧ VRel m v v' := by
  obtain ⟨h1, h2⟩ := h
  obtain ⟨l⟩ := args'
  match l, h1 with
  | [v'], _ => exact ⟨v', rfl, h2 0 (by simp) (by simp)⟩
theorem args_mk {m : Mu} {v v' : Value} (h : VRel m v v') : ARel m #[v] #[v'] := ⟨rfl, fun i h1 h2 => by
  have : i = 0 := by simp at h1; omega
  subst this; exact h⟩
theorem listOf1 {args : Array Value} {v : Value} (h : listOf args = [v]) : args = #[v] := by
  rw [listOf_eq] at h
  exact Array.ext' h
theorem mini45_get (n c : Nat) : (mini45 n).get c = if c = 10 then strO (enc n) else .dead := by
  unfold mini45
  rw [AHeap.get_push]
  show (if c = 10 then strO (enc n) else (bareOf 2).get c) = _
  rw [show (bareOf 2).get c = .dead by simp [bareOf, AHeap.get, Tree.get_leaf]]
theorem e45_eq (n s : Nat) (h : AHeap) : e45 n s h = (((h.put s (strO [])).push annO).push (pO n)).push (chO h.next (h.next + 1) n) := by
  unfold e45
  rw [heapPut_eq, heapPush_eq, heapPush_eq, heapPush_eq]
theorem e45_get (n s : Nat) (h : AHeap) (c : Nat) : (e45 n s h).get c = if c = h.next + 2 then chO h.next (h.next + 1) n else if c = h.next + 1 then pO n else if c = h.next then annO else if c = s then strO [] else h.get c := by
  rw [e45_eq, AHeap.get_push, AHeap.get_push, AHeap.get_push, AHeap.get_put]
  have e1 : (h.put s (strO [])).next = h.next := rfl
  have e2 : ((h.put s (strO [])).push annO).next = h.next + 1 := rfl
  have e3 : (((h.put s (strO [])).push annO).push (pO n)).next = h.next + 2 := rfl
  rw [e1, e2, e3]
theorem x45_sound {n : Nat} {d : List UInt8} {args : Array Value} {h : AHeap} {p : Prop} {v : Value} {h' : AHeap} (hx : x45 n d args h = some (p, v, h')) (hp : p) : Said 45 args h v h' := by
  unfold x45 at hx
  split at hx <;> try (cases hx; done)
  rename_i s hargs
  split at hx <;> try (cases hx; done)
  rename_i hb
  obtain rfl := listOf1 hargs
  simp only [Option.some.injEq, Prod.mk.injEq] at hx
  obtain ⟨rfl, rfl, rfl⟩ := hx
  obtain ⟨b1, b2⟩ := ba hb
  rw [Nat.blt_eq] at b1
  rw [Nat.ble_eq] at b2
  obtain ⟨ho, rfl, n1, n2⟩ := hp
  rw [heapGet_eq] at ho
  have hck := run45 n1 n2
  unfold ck45 at hck
  split at hck <;> try (cases hck; done)
  rename_i v0 s' hr
  obtain ⟨c1, hck⟩ := ba hck
  obtain ⟨c2, hck⟩ := ba hck
  obtain ⟨c3, hck⟩ := ba hck
  obtain ⟨c4, hck⟩ := ba hck
  obtain ⟨c5, c6⟩ := ba hck
  obtain rfl := veq_eq 8 _ _ c1
  rw [heapGet_eq] at c2 c3 c4 c5
  rw [Nat.blt_eq] at c6
  have h10 : (mini45 n).get 10 = strO (enc n) := by rw [mini45_get, if_pos rfl]
  have only : ∀ i, i < 1 → i = 0 := fun i hi => by omega
  have three : ∀ j, j < 3 → j = 0 ∨ j = 1 ∨ j = 2 := fun j hj => by omega
  let x : Fr := ⟨10, [s], [11, pbOf s', 27]⟩
  have fr : FrOk Tryz.prog 2 x (mini45 n) s' h (e45 n s h) := by
    refine ⟨(show 2 ≤ 10 by decide), rfl, fun c hc => ?_, fun c => ?_, b2, fun i j hi hj _ => ?_, fun i hi => ?_, fun i hi m m1 l w hl hok => ?_, ⟨rfl, rfl⟩, fun c hc hne => ?_, fun c h1 h2 => ?_, fun i hi hd => ?_, fun i hi m m1 l w hl hok => ?_, fun j hj => ?_, fun i j hi hj he => ?_, fun j hj m m1 l w hl hok => ?_⟩
    · rw [mini45_get] at hc
      split at hc
      · rename_i e; exact ⟨0, (show 0 < 1 by decide), e⟩
      · exact absurd rfl hc
    · rw [mini45_get]; split <;> rfl
    · rw [only i hi, only j hj]
    · obtain rfl := only i hi
      show s < h.next ∧ h.get s ≠ .dead ∧ isRo (h.get s) = false
      rw [ho]
      exact ⟨b1, (fun q => by cases q), rfl⟩
    · obtain rfl := only i hi
      have hok2 : OKObj Tryz.prog m l w (h.get s) := hok
      rw [ho] at hok2
      show OKObj Tryz.prog m1 l w ((mini45 n).get 10)
      rw [h10]
      exact ok_flat (one_str _) hok2
    · have hs := hne 0 (show 0 < 1 by decide)
      have hs2 : c ≠ s := hs
      have hb2 : h.next + 3 ≤ h.lim := b2
      rw [e45_get n s h, if_neg (by omega), if_neg (by omega), if_neg (by omega), if_neg hs2]
    · have h1' : h.next + 3 ≤ c := h1
      rw [e45_get n s h, if_neg (by omega), if_neg (by omega), if_neg (by omega), if_neg (by omega)]
    · obtain rfl := only i hi
      have q := objEq_live c2
      refine ⟨q.1, q.2.1, ?_⟩
      show isRo ((e45 n s h).get s) = false
      rw [e45_get n s h, if_neg (by omega), if_neg (by omega), if_neg (by omega), if_pos rfl]
      rfl
    · obtain rfl := only i hi
      show OKObj Tryz.prog m l w ((e45 n s h).get s)
      rw [e45_get n s h, if_neg (by omega), if_neg (by omega), if_neg (by omega), if_pos rfl]
      exact ok_flat (one_str _) (objEq_ok c2 hok)
    · rcases three j hj with rfl | rfl | rfl
      · have q := objEq_live c3
        refine ⟨(show 10 + 1 ≤ 11 by decide), q.1, q.2.1, ?_⟩
        show isRo ((e45 n s h).get (h.next + 0)) = false
        rw [e45_get n s h, if_neg (by omega), if_neg (by omega), if_pos (by omega)]
        rfl
      · have q := objEq_live c4
        refine ⟨(by show 10 + 1 ≤ pbOf s'; omega), q.1, q.2.1, ?_⟩
        show isRo ((e45 n s h).get (h.next + 1)) = false
        rw [e45_get n s h, if_neg (by omega), if_pos rfl]
        rfl
      · have q := objEq_live c5
        refine ⟨(show 10 + 1 ≤ 27 by decide), q.1, q.2.1, ?_⟩
        show isRo ((e45 n s h).get (h.next + 2)) = false
        rw [e45_get n s h, if_pos rfl]
        rfl
    · have hv : ∀ j, j < 3 → x.new j = (if j = 0 then 11 else if j = 1 then pbOf s' else 27) := by
        intro j hj
        rcases three j hj with rfl | rfl | rfl <;> rfl
      rw [hv i hi, hv j hj] at he
      rcases three i hi with rfl | rfl | rfl <;> rcases three j hj with rfl | rfl | rfl <;> simp at he ⊢ <;> omega
    · have l0 : m (h.next + 0) = m1 11 := hl.2 0 (show 0 < 3 by decide)
      have l1 : m (h.next + 1) = m1 (pbOf s') := hl.2 1 (show 1 < 3 by decide)
      rw [Nat.add_zero] at l0
      rcases three j hj with rfl | rfl | rfl
      · show OKObj Tryz.prog m l w ((e45 n s h).get (h.next + 0))
        rw [e45_get n s h, if_neg (by omega), if_neg (by omega), if_pos (by omega)]
        exact ok_ann (objEq_ok c3 hok)
      · show OKObj Tryz.prog m l w ((e45 n s h).get (h.next + 1))
        rw [e45_get n s h, if_neg (by omega), if_pos rfl]
        exact ok_flat (one_posts n) (objEq_ok c4 hok)
      · show OKObj Tryz.prog m l w ((e45 n s h).get (h.next + 2))
        rw [e45_get n s h, if_pos rfl]
        exact ok_ch l0 l1 (objEq_ok c5 hok)
  refine ⟨fr.nx, fun B m args' w ha hr2 hG => ?_⟩
  obtain ⟨v', rfl, hv'⟩ := args_one ha
  refine frame_call CB1ok hr fr (fun m1 hl => args_mk ?_) (fun m m1 v' hl hv => ?_) hr2 hG
  · exact ren_ptr (hl 0 (show 0 < 1 by decide)).symm hv'
  · exact ren_ptr (hl.2 2 (show 2 < 3 by decide)) hv
end Go.Proofs.YtgokkngepgnedaaGreatDoor.shardBoth
