import Derived.Test.YthapjgecggdliaaGreatDoorAbT
import Derived.ChangeMade
namespace Go.Ab
open Go

/-! ## Zero values hold no address -/
def zflat (z : Value) : Bool := z.cells.toList.all (vflat 7)

theorem vflat_mono : ∀ (n : Nat) (v : Value), vflat n v = true → vflat (n + 1) v = true := by
  intro n
  induction n with
  | zero => intro v h; cases v with
    | pointer a => cases a <;> simp_all [vflat]
    | slice a => cases a <;> simp_all [vflat]
    | map a => cases a <;> simp_all [vflat]
    | chan a => cases a <;> simp_all [vflat]
    | _ => simp_all [vflat]
  | succ n ih =>
    intro v h
    cases v with
    | pointer a => cases a <;> simp_all [vflat]
    | slice a => cases a <;> simp_all [vflat]
    | map a => cases a <;> simp_all [vflat]
    | chan a => cases a <;> simp_all [vflat]
    | iface t v => simp only [vflat] at h ⊢; exact ih v h
    | agg c => simp only [vflat] at h ⊢; exact List.all_eq_true.2 fun x hx => ih x (List.all_eq_true.1 h x hx)
    | tuple c => simp only [vflat] at h ⊢; exact List.all_eq_true.2 fun x hx => ih x (List.all_eq_true.1 h x hx)
    | func f a c => simp only [vflat, Bool.and_eq_true] at h ⊢; exact ⟨List.all_eq_true.2 fun x hx => ih x (List.all_eq_true.1 h.1 x hx), List.all_eq_true.2 fun x hx => ih x (List.all_eq_true.1 h.2 x hx)⟩
    | _ => simp_all [vflat]
theorem zflat_vflat {z : Value} (h : zflat z = true) : vflat 8 z = true := by
  unfold zflat at h
  cases z with
  | agg c => simpa [vflat, Value.cells] using h
  | _ => simp only [Value.cells, List.all_cons, List.all_nil, Bool.and_true] at h; exact vflat_mono 7 _ h

theorem forIn_inv {α σ : Type} (I : σ → Prop) (f : α → σ → Option (ForInStep σ)) : ∀ (l : List α) (s0 s : σ), I s0 →
    (∀ a x r, I x → f a x = some r → match r with | .yield y => I y | .done y => I y) → forIn l s0 f = some s → I s := by
  intro l
  induction l with
  | nil => intro s0 s h _ e; simp only [List.forIn_nil, pure, Option.some.injEq] at e; rw [← e]; exact h
  | cons a l ih =>
    intro s0 s h hf e
    simp only [List.forIn_cons, bind, Option.bind_eq_some_iff] at e
    obtain ⟨r, hr, e⟩ := e
    have := hf a s0 r h hr
    cases r with
    | done y => simp only [pure, Option.some.injEq] at e; rw [← e]; exact this
    | yield y => exact ih y s this hf e

def ZI (i : TypeInfo) : Prop := ∀ z, i.zero = some z → zflat z = true

theorem reckonStruct_flat {info : TypeId → Option TypeInfo} (hinfo : ∀ t i, info t = some i → ZI i) {fs : Array Field} {i : TypeInfo} (h : Made.reckonStruct info fs = some i) : ZI i := by
  unfold Made.reckonStruct at h
  simp only [bind, Option.bind_eq_some_iff, pure] at h
  obtain ⟨a, ha, h⟩ := h
  rw [← Array.forIn_toList] at ha
  have hinv := forIn_inv (fun s : Array Field × Nat × Nat × Nat × Nat × Bool × Bool × Option (Array Value) × String => ∀ c, s.2.2.2.2.2.2.2.1 = some c → c.toList.all (vflat 7) = true) _ fs.toList _ _ (by intro c hc; cases hc; rfl) ?_ ha
  · have hz : i.zero = a.2.2.2.2.2.2.2.1.map .agg := by split at h <;> (cases h; rfl)
    intro z hzz
    rw [hz] at hzz
    cases hc : a.2.2.2.2.2.2.2.1 with
    | none => rw [hc] at hzz; cases hzz
    | some c =>
      rw [hc] at hzz
      cases hzz
      exact hinv c hc
  · intro f s r hs hr
    simp only [Option.bind_eq_some_iff] at hr
    obtain ⟨j, hj, hr⟩ := hr
    have hlast : ∀ c, (if s.2.1 + j.size > Made.mostCells then none else s.2.2.2.2.2.2.2.1.bind fun x => j.zero.bind fun y => some (x ++ y.cells)) = some c → c.toList.all (vflat 7) = true := by
      intro c hc
      split at hc
      · cases hc
      · simp only [Option.bind_eq_some_iff] at hc
        obtain ⟨x, hx, y, hy, hc⟩ := hc
        cases hc
        rw [Array.toList_append, List.all_append, hs x hx]
        exact hinfo _ _ hj y hy
    split at hr
    · cases hr
    split at hr
    · cases hr
    have fin : ∀ {y s2 : Array Field × Nat × Nat × Nat × Nat × Bool × Bool × Option (Array Value) × String}, some (ForInStep.yield s2) = some (ForInStep.yield y) →
        (∀ c, s2.2.2.2.2.2.2.2.1 = some c → c.toList.all (vflat 7) = true) → ∀ c, y.2.2.2.2.2.2.2.1 = some c → c.toList.all (vflat 7) = true := by
      intro y s2 e h; cases e; exact h
    cases r with
    | yield y => split at hr <;> (obtain ⟨_, _, hr⟩ := Option.bind_eq_some_iff.1 hr; by_cases hb : j.bytes = 0 <;> (first | rw [if_pos hb] at hr | rw [if_neg hb] at hr) <;> exact fin hr hlast)
    | done y => split at hr <;> (obtain ⟨_, _, hr⟩ := Option.bind_eq_some_iff.1 hr; by_cases hb : j.bytes = 0 <;> (first | rw [if_pos hb] at hr | rw [if_neg hb] at hr) <;> cases hr)

theorem reckon_flat {info : TypeId → Option TypeInfo} (hinfo : ∀ t i, info t = some i → ZI i) {d : TypeDesc} {i : TypeInfo} (h : Made.reckon info d = some i) : ZI i := by
  unfold Made.reckon at h
  split at h
  · simp only [bind, Option.bind_eq_some_iff, pure] at h
    obtain ⟨j, hj, h⟩ := h
    split at h
    · cases h
    · split at h
      · cases h
      · simp only [Option.bind_eq_some_iff] at h
        obtain ⟨_, _, h⟩ := h
        cases h; intro z hz; cases hz; rfl
    · simp only [Option.bind_eq_some_iff] at h
      obtain ⟨_, _, h⟩ := h
      cases h; intro z hz; cases hz; rfl
  · simp only [bind, Option.bind_eq_some_iff, pure] at h
    obtain ⟨_, _, _, _, h⟩ := h
    cases h; intro z hz; cases hz; rfl
  · simp only [bind, Option.bind_eq_some_iff, pure] at h
    obtain ⟨_, _, _, _, _, _, _, _, h⟩ := h
    cases h; intro z hz; cases hz; rfl
  · simp only [bind, Option.bind_eq_some_iff, pure] at h
    obtain ⟨_, _, _, _, h⟩ := h
    cases h; intro z hz; cases hz; rfl
  · simp only [bind, Option.bind_eq_some_iff, pure] at h
    obtain ⟨_, _, h⟩ := h
    cases h; intro z hz; cases hz; rfl
  · simp only [bind, Option.bind_eq_some_iff, pure] at h
    obtain ⟨j, hj, _, _, h⟩ := h
    cases h
    intro z hz
    dsimp only at hz
    split at hz
    · cases hz
    · split at hz
      · cases hz; rfl
      · rw [Option.map_eq_some_iff] at hz
        obtain ⟨y, hy, rfl⟩ := hz
        have := hinfo _ _ hj y hy
        unfold zflat at this ⊢
        simp only [Value.cells, List.all_eq_true]
        intro x hx
        have hx := Array.mem_toList_iff.1 hx
        rw [Array.mem_flatten] at hx
        obtain ⟨c, hc, hxc⟩ := hx
        obtain ⟨_, rfl⟩ := Array.mem_replicate.1 hc
        exact List.all_eq_true.1 this x (Array.mem_toList_iff.2 hxc)
  · exact reckonStruct_flat hinfo h
  · cases h

theorem zf_of {P : Program} (h : P.types.toList.all (fun i => match i.zero with | some z => zflat z | none => true) = true) : ZF P := by
  have htab : ∀ (t : Nat) (i : TypeInfo), P.types[t]? = some i → ZI i := by
    intro t i hi z hz
    have := List.all_eq_true.1 h i (Array.mem_toList_iff.2 (Array.mem_of_getElem? hi))
    rw [hz] at this
    exact this
  have hat : ∀ f t i, Made.infoAt P.toTables f t = some i → ZI i := by
    intro f
    induction f with
    | zero => intro t i hi; simp [Made.infoAt] at hi
    | succ f ih =>
      intro t i hi
      unfold Made.infoAt at hi
      split at hi
      · exact htab t i hi
      · simp only [Option.bind_eq_some_iff] at hi
        obtain ⟨d, _, hi⟩ := hi
        exact reckon_flat ih hi
  intro t i z hi hz
  suffices hzi : ZI i from zflat_vflat (hzi z hz)
  unfold Tables.info? at hi
  split at hi
  · exact htab t i hi
  · exact hat _ _ _ hi
end Go.Ab
