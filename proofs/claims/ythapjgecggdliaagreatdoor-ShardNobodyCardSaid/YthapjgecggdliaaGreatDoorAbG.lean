import Derived.Test.YthapjgecggdliaaGreatDoorAbF
import Derived.Laws.Cells
import Derived.Laws.Entries
namespace Go.Ab
open Go
section
variable {P : Program} {B : Base}

/-! ## Slicing -/
def natOf : Option Value → Nat → Option Nat
  | none, d => some d
  | some (.int _ (.ofNat n)), _ => some n
  | _, _ => none

theorem natOf_some {o : Option Value} {d n : Nat} (h : natOf o d = some n) : (o = none ∧ n = d) ∨ ∃ k, o = some (.int k (n : Int)) := by
  unfold natOf at h
  split at h
  · left; exact ⟨rfl, (Option.some.inj h).symm⟩
  · right; rename_i k n'; obtain rfl := Option.some.inj h; exact ⟨k, rfl⟩
  · cases h

theorem natOf_rel {m : Mu} {ρ ρ' : Operand → Value} {x : Option Operand} (hx : ∀ y ∈ x, VRel m (ρ y) (ρ' y)) {d n : Nat} (h : natOf (x.map ρ) d = some n) : x.map ρ' = x.map ρ := by
  cases x with
  | none => rfl
  | some y =>
    rcases natOf_some h with ⟨h, _⟩ | ⟨k, h⟩
    · cases h
    · simp only [Option.map_some, Option.some.injEq] at h
      have := hx y rfl
      rw [h] at this
      simp only [Option.map_some, Option.some.injEq]
      rw [h]
      generalize ρ' y = z at this ⊢
      cases this; rfl

theorem run_sliceBound {k : IntKind} {n y : Nat} (h : n ≤ y) (code : BoundsCode) (w : World) : (Instr.sliceBound (.int k (n : Int)) y code).run P w = .ok n w := by
  unfold Instr.sliceBound
  simp only [Go.asIntOf, pure_bind]
  rw [if_pos ⟨by omega, by omega⟩]
  simp

theorem run_sliceBounds {isSlice : Bool} {len cap : Nat} {lo hi mx : Option Value} {l h mm : Nat} (hl : natOf lo 0 = some l) (hh : natOf hi len = some h)
    (hm : natOf mx cap = some mm) (hi' : mx.isSome = true → hi.isSome = true) (h1 : l ≤ h) (h2 : h ≤ mm) (h3 : mm ≤ cap) (w : World) :
    (Instr.sliceBounds isSlice len cap lo hi mx).run P w = .ok (l, h, mm) w := by
  unfold Instr.sliceBounds
  rcases natOf_some hm with ⟨rfl, rfl⟩ | ⟨km, rfl⟩
  · rcases natOf_some hh with ⟨rfl, rfl⟩ | ⟨kh, rfl⟩ <;> rcases natOf_some hl with ⟨rfl, rfl⟩ | ⟨kl, rfl⟩ <;>
      simp [run_sliceBound (P := P) h1, run_sliceBound (P := P) h2, Result.andThen]
  · rcases natOf_some hh with ⟨rfl, rfl⟩ | ⟨kh, rfl⟩
    · simp at hi'
    · rcases natOf_some hl with ⟨rfl, rfl⟩ | ⟨kl, rfl⟩ <;>
        simp [run_sliceBound (P := P) h1, run_sliceBound (P := P) h2, run_sliceBound (P := P) h3, Result.andThen]

def lim (n c : Nat) : Nat := if Nat.ble c HALF then c else n
def sliceA (P : Program) (t : TypeId) (v : Value) (lo hi mx : Option Value) : Option Value :=
  match P.underlying t with
  | some (.slice elem) =>
    match P.info? elem, v, natOf lo 0 with
    | some i, .slice base n c, some l =>
      match natOf hi n with
      | some h =>
        match mx with
        | some _ =>
          match natOf mx 0 with
          | some mm =>
            if hi.isSome && Nat.ble l h && Nat.ble h mm && Nat.ble mm (lim n c) && (Nat.ble c HALF || Nat.blt 0 n) && Nat.ble mm HALF then some (.slice (if mm = l then base else base.map (·.add (l * i.size))) (h - l) (mm - l)) else none
          | none => none
        | none =>
          if Nat.ble c HALF then
            if Nat.ble l h && Nat.ble h c then some (.slice (if c = l then base else base.map (·.add (l * i.size))) (h - l) (c - l)) else none
          else
            match base with
            | some a => if Nat.ble l h && Nat.ble h n && Nat.blt HALF (c - l) then some (.slice (some (a.add (l * i.size))) (h - l) (c - l)) else none
            | none => none
      | none => none
    | _, _, _ => none
  | some (.array n elem) =>
    match P.info? elem, v, natOf lo 0, natOf hi n, natOf mx n with
    | some i, .pointer (some a), some l, some h, some mm =>
      if (mx.isNone || hi.isSome) && Nat.ble l h && Nat.ble h mm && Nat.ble mm n && Nat.ble n HALF then some (.slice (some (if mm = l then a else a.add (l * i.size))) (h - l) (mm - l)) else none
    | _, _, _, _, _ => none
  | _ => none

theorem Addr_add_ad {m : Mu} {b o : Nat} {l : Loc} (hm : m b = some l) (x : Nat) : AdRel m ((⟨b, o, none⟩ : Addr).add x) ((⟨l.blk, l.off + o, none⟩ : Addr).add x) :=
  AdRel.add ⟨b, o, l, rfl, hm, rfl⟩ x

theorem run_sizeOf' {t : TypeId} {i : TypeInfo} (h : P.info? t = some i) (w : World) : (Go.sizeOf t).run P w = .ok i.size w := by
  unfold Go.sizeOf Go.typeInfo
  simp only [Sem.run_bind, Go.program, Sem.run, Result.andThen_ok, h, Sem.run_pure]

theorem sliceA_sound {m : Mu} {t : TypeId} {v v' r : Value} {lo hi mx : Option Value} (hv : VRel m v v') (h : sliceA P t v lo hi mx = some r) (w : World) :
    ∃ r', (Instr.sliceAt t v' lo hi mx).run P w = .ok r' w ∧ VRel m r r' := by
  unfold sliceA at h
  split at h
  · rename_i elem hu
    split at h
    · rename_i i base n c l hi1 hl
      split at h
      · rename_i hh hhi
        have start : ∀ (base' : Option Addr) (n' cap' mm : Nat), n' = n → (natOf mx cap' = some mm) → (mx.isSome = true → hi.isSome = true) → l ≤ hh → hh ≤ mm → mm ≤ cap' →
            (Instr.sliceAt t (.slice base' n' cap') lo hi mx).run P w = .ok (.slice (if mm = l then base' else base'.map (·.add (l * i.size))) (hh - l) (mm - l)) w := by
          intro base' n' cap' mm e hmm hs h1 h2 h3
          subst e
          simp only [Instr.sliceAt, Instr.slice, Sem.run_bind, run_underlying hu, Result.andThen_ok, run_sliceBounds (P := P) hl hhi hmm hs h1 h2 h3, run_sizeOf' hi1]
          rfl
        split at h
        · rename_i xm
          split at h
          · rename_i mm hmm
            split at h
            · rename_i hc
              obtain rfl := Option.some.inj h
              simp only [Bool.and_eq_true, Nat.ble_eq] at hc
              obtain ⟨⟨⟨⟨⟨c1, c2⟩, c3⟩, c4⟩, c6⟩, c5⟩ := hc
              unfold lim at c4
              have hmm' : ∀ cap', natOf (some xm) cap' = some mm := by
                intro cap'
                rcases natOf_some hmm with ⟨h, _⟩ | ⟨k, h⟩
                · cases h
                · rw [h]; rfl
              cases hv with
              | nilSlice =>
                have hle : mm ≤ c := by
                  by_cases e : c ≤ HALF
                  · rw [if_pos (by simpa using e)] at c4; exact c4
                  · omega
                refine ⟨_, start none n c mm rfl (hmm' _) (fun _ => c1) c2 c3 hle, ?_⟩
                have : (if mm = l then none else (none : Option Addr).map (·.add (l * i.size))) = none := by split <;> rfl
                rw [this]; exact .nilSlice _ _
              | slice b o _ _ loc hm hcc =>
                have hle : mm ≤ c := by rw [if_pos (by simpa using hcc)] at c4; exact c4
                refine ⟨_, start _ n c mm rfl (hmm' _) (fun _ => c1) c2 c3 hle, ?_⟩
                by_cases e : mm = l
                · rw [if_pos e, if_pos e]; exact .slice _ _ _ _ _ hm (by omega)
                · rw [if_neg e, if_neg e]; exact (Addr_add_ad hm _).slice (by omega)
              | oslice b o _ k loc hm hk1 hk2 hn =>
                have hle : mm ≤ loc.cap - k := by
                  have : ¬ (OPEN - k ≤ HALF) := by unfold OPEN; unfold HALF at *; omega
                  rw [if_neg (by simpa using this)] at c4
                  omega
                refine ⟨_, start _ n (loc.cap - k) mm rfl (hmm' _) (fun _ => c1) c2 c3 hle, ?_⟩
                by_cases e : mm = l
                · rw [if_pos e, if_pos e]; exact .slice _ _ _ _ _ hm (by omega)
                · rw [if_neg e, if_neg e]; exact (Addr_add_ad hm _).slice (by omega)
              | oslice0 b o k loc a hm hk hk2 =>
                have : ¬ (OPEN - k ≤ HALF) := by unfold OPEN; unfold HALF at *; omega
                simp only [Bool.or_eq_true, Nat.ble_eq, Nat.blt_eq] at c6
                omega
            · cases h
          · cases h
        · have hm0 : ∀ cap', natOf none cap' = some cap' := fun _ => rfl
          split at h
          · rename_i hc
            simp only [Nat.ble_eq] at hc
            split at h
            · rename_i hc2
              obtain rfl := Option.some.inj h
              simp only [Bool.and_eq_true, Nat.ble_eq] at hc2
              cases hv with
              | nilSlice =>
                refine ⟨_, start none n c c rfl (hm0 _) (fun h => by cases h) hc2.1 hc2.2 (Nat.le_refl _), ?_⟩
                have : (if c = l then none else (none : Option Addr).map (·.add (l * i.size))) = none := by split <;> rfl
                rw [this]; exact .nilSlice _ _
              | slice b o _ _ loc hm hcc =>
                refine ⟨_, start _ n c c rfl (hm0 _) (fun h => by cases h) hc2.1 hc2.2 (Nat.le_refl _), ?_⟩
                by_cases e : c = l
                · rw [if_pos e, if_pos e]; exact .slice _ _ _ _ _ hm (by omega)
                · rw [if_neg e, if_neg e]; exact (Addr_add_ad hm _).slice (by omega)
              | oslice b o _ k loc hm hk1 hk2 hn => unfold OPEN at hc; unfold HALF at *; omega
              | oslice0 b o k loc a hm hk hk2 => unfold OPEN at hc; unfold HALF at *; omega
            · cases h
          · rename_i hc
            simp only [Nat.ble_eq] at hc
            split at h
            · rename_i a
              split at h
              · rename_i hc2
                obtain rfl := Option.some.inj h
                simp only [Bool.and_eq_true, Nat.ble_eq, Nat.blt_eq] at hc2
                obtain ⟨⟨c1, c2⟩, c3⟩ := hc2
                cases hv with
                | slice b o _ _ loc hm hcc => omega
                | oslice b o _ k loc hm hk1 hk2 hn =>
                  have c3' : HALF < OPEN - (k + l) := by omega
                  have hkl : k + l < HALF := by unfold OPEN at c3'; unfold HALF at *; omega
                  refine ⟨_, start _ n (loc.cap - k) (loc.cap - k) rfl (hm0 _) (fun h => by cases h) c1 (by omega) (Nat.le_refl _), ?_⟩
                  have e0 : OPEN - k - l = OPEN - (k + l) := by omega
                  rw [e0]
                  by_cases e : loc.cap - k = l
                  · rw [if_pos e, e]
                    obtain rfl : hh = l := by omega
                    rw [Nat.sub_self]
                    obtain ⟨b2, o2, l2, ea, hl2, _⟩ := Addr_add_ad (o := o) hm (hh * i.size)
                    rw [ea]
                    have hb : b2 = b := by have := congrArg Addr.block ea; simp [Addr.add] at this; split at this <;> simp_all
                    subst hb
                    rw [hm] at hl2; cases hl2
                    exact .oslice0 _ _ _ _ _ hm (by omega) hkl
                  · rw [if_neg e]
                    obtain ⟨b2, o2, l2, ea, hl2, ea'⟩ := Addr_add_ad (o := o) hm (l * i.size)
                    have hb : b2 = b := by have := congrArg Addr.block ea; simp [Addr.add] at this; split at this <;> simp_all
                    subst hb
                    rw [hm] at hl2; cases hl2
                    simp only [Option.map_some]
                    rw [ea, ea', show loc.cap - k - l = loc.cap - (k + l) by omega]
                    exact .oslice _ _ _ _ _ hm (by omega) hkl (by omega)
                | oslice0 b o k loc a' hm hk hk2 =>
                  obtain rfl : hh = 0 := by omega
                  obtain rfl : l = 0 := by omega
                  refine ⟨_, start (some a') 0 0 0 rfl (hm0 _) (fun h => by cases h) (Nat.le_refl _) (Nat.le_refl _) (Nat.le_refl _), ?_⟩
                  simp only [Nat.zero_mul, if_true, Nat.sub_zero, Addr.add]
                  exact .oslice0 _ _ _ _ _ hm hk hk2
              · cases h
            · cases h
      · cases h
    · cases h
  · rename_i n elem hu
    split at h
    · rename_i i a l hh mm hi1 hl hhi hmm
      split at h
      · rename_i hc
        obtain rfl := Option.some.inj h
        simp only [Bool.and_eq_true, Nat.ble_eq, Bool.or_eq_true] at hc
        obtain ⟨⟨⟨⟨c1, c2⟩, c3⟩, c4⟩, c5⟩ := hc
        cases hv with
        | ptr b o loc hm =>
          refine ⟨.slice (some (if mm = l then ⟨loc.blk, loc.off + o, none⟩ else (⟨loc.blk, loc.off + o, none⟩ : Addr).add (l * i.size))) (hh - l) (mm - l), ?_, ?_⟩
          · simp only [Instr.sliceAt, Sem.run_bind, run_underlying hu, Result.andThen_ok, Instr.sureAddr, Sem.run_pure,
              run_sliceBounds (P := P) hl hhi hmm (by intro h; rcases c1 with c1 | c1; (simp at c1; rw [c1] at h; cases h); exact c1) c2 c3 c4, run_sizeOf' hi1]
          · by_cases e : mm = l
            · rw [if_pos e, if_pos e]; exact .slice _ _ _ _ _ hm (by omega)
            · rw [if_neg e, if_neg e]; exact (Addr_add_ad hm _).slice (by omega)
      · cases h
    · cases h
  · cases h
end
end Go.Ab
