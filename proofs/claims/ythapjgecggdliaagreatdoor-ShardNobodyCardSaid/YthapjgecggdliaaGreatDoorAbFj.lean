import Derived.Test.YthapjgecggdliaaGreatDoorAbFi
namespace Go.Ab
open Go

/-! ## Blocks numbered anew -/
def atOf : List Nat → Nat → Option Nat
  | [], _ => none
  | x :: _, 0 => some x
  | _ :: l, i + 1 => atOf l i
def idxIn : List Nat → Nat → Nat → Option Nat
  | [], _, _ => none
  | x :: l, b, i => match Nat.beq x b with
    | true => some i
    | false => idxIn l b (i + 1)
theorem idxIn_some : ∀ (l : List Nat) (b i j : Nat), idxIn l b i = some j → i ≤ j ∧ atOf l (j - i) = some b := by
  intro l
  induction l with
  | nil => intro b i j h; cases h
  | cons x l ih =>
    intro b i j h
    simp only [idxIn] at h
    split at h
    · rename_i e
      cases h
      rw [Nat.sub_self]
      exact ⟨Nat.le_refl _, by rw [Nat.eq_of_beq_eq_true e]; rfl⟩
    · obtain ⟨h1, h2⟩ := ih b (i + 1) j h
      refine ⟨by omega, ?_⟩
      rw [show j - i = (j - (i + 1)) + 1 by omega]
      exact h2
theorem atOf_lt : ∀ (l : List Nat) (i b : Nat), atOf l i = some b → i < l.length := by
  intro l
  induction l with
  | nil => intro i b h; cases h
  | cons x l ih =>
    intro i b h
    cases i with
    | zero => simp
    | succ i => have := ih i b h; simp; omega
theorem atOf_some : ∀ (l : List Nat) (i : Nat), i < l.length → ∃ b, atOf l i = some b := by
  intro l
  induction l with
  | nil => intro i h; simp at h
  | cons x l ih =>
    intro i h
    cases i with
    | zero => exact ⟨x, rfl⟩
    | succ i => exact ih i (by simpa using h)
/-- No number twice. -/
def onceOk : List Nat → Bool
  | [] => true
  | x :: l => (idxIn l x 0).isNone && onceOk l
theorem idxIn_none : ∀ (l : List Nat) (b i k : Nat), (idxIn l b i).isNone = true → atOf l k ≠ some b := by
  intro l
  induction l with
  | nil => intro b i k _ h; cases h
  | cons x l ih =>
    intro b i k h e
    simp only [idxIn] at h
    split at h
    · cases h
    · rename_i hne
      cases k with
      | zero =>
        obtain rfl := Option.some.inj e
        rw [Nat.beq_refl] at hne; cases hne
      | succ k => exact ih b (i + 1) k h e
theorem onceOk_inj : ∀ (l : List Nat), onceOk l = true → ∀ i j b, atOf l i = some b → atOf l j = some b → i = j := by
  intro l
  induction l with
  | nil => intro _ i j b h; cases h
  | cons x l ih =>
    intro h i j b h1 h2
    simp only [onceOk, Bool.and_eq_true] at h
    cases i with
    | zero =>
      cases j with
      | zero => rfl
      | succ j =>
        obtain rfl := Option.some.inj h1
        exact absurd h2 (idxIn_none l x 0 j h.1)
    | succ i =>
      cases j with
      | zero =>
        obtain rfl := Option.some.inj h2
        exact absurd h1 (idxIn_none l x 0 i h.1)
      | succ j => rw [ih h.2 i j b h1 h2]

def mu2 (m : Mu) (σ : List Nat) (lim : Nat) : Mu := fun y => match atOf σ y with
  | some b => m b
  | none => if lim ≤ y then m (y - lim) else none
def renB (σ : List Nat) (lim : Nat) (b : Nat) : Nat := match idxIn σ b 0 with
  | some i => i
  | none => lim + b
theorem mu2_far {m : Mu} {σ : List Nat} {lim : Nat} (h : σ.length ≤ lim) (b : Nat) : mu2 m σ lim (lim + b) = m b := by
  unfold mu2
  cases e : atOf σ (lim + b) with
  | some x => have := atOf_lt _ _ _ e; omega
  | none => dsimp only; rw [if_pos (by omega), show lim + b - lim = b by omega]
theorem mu2_renB {m : Mu} {σ : List Nat} {lim : Nat} (h : σ.length ≤ lim) (b : Nat) : mu2 m σ lim (renB σ lim b) = m b := by
  unfold renB
  cases e : idxIn σ b 0 with
  | some i =>
    have q := (idxIn_some σ b 0 i e).2
    rw [Nat.sub_zero] at q
    unfold mu2
    dsimp only
    rw [q]
  | none => exact mu2_far h b

/-- A value, its blocks numbered anew. -/
def renL (g : Value → Option Value) : List Value → Option (List Value)
  | [] => some []
  | v :: l => match g v, renL g l with
    | some v2, some l2 => some (v2 :: l2)
    | _, _ => none
def renV (f : Nat → Nat) : Nat → Value → Option Value
  | _, .bool b => some (.bool b)
  | _, .int k n => some (.int k n)
  | _, .float k n => some (.float k n)
  | _, .complex k a b => some (.complex k a b)
  | _, .string s => some (.string s)
  | _, .pointer none => some (.pointer none)
  | _, .pointer (some ⟨b, o, none⟩) => some (.pointer (some ⟨f b, o, none⟩))
  | _, .slice none n c => some (.slice none n c)
  | _, .slice (some ⟨b, o, none⟩) n c => some (.slice (some ⟨f b, o, none⟩) n c)
  | _, .map none => some (.map none)
  | _, .map (some b) => some (.map (some (f b)))
  | _, .chan x => some (.chan x)
  | _, .nilFunc => some .nilFunc
  | _, .nilIface => some .nilIface
  | n + 1, .iface t v => match renV f n v with
    | some v2 => some (.iface t v2)
    | none => none
  | n + 1, .agg c => match renL (renV f n) c.toList with
    | some l => some (.agg l.toArray)
    | none => none
  | n + 1, .tuple c => match renL (renV f n) c.toList with
    | some l => some (.tuple l.toArray)
    | none => none
  | n + 1, .func g a c => match renL (renV f n) a.toList, renL (renV f n) c.toList with
    | some l, some l2 => some (.func g l.toArray l2.toArray)
    | _, _ => none
  | _, _ => none

theorem renL_length {g : Value → Option Value} : ∀ (l l2 : List Value), renL g l = some l2 → l2.length = l.length := by
  intro l
  induction l with
  | nil => intro l2 h; cases h; rfl
  | cons v l ih =>
    intro l2 h
    simp only [renL] at h
    split at h
    · rename_i v2 l3 h1 h2
      cases h
      simp [ih _ h2]
    · cases h
theorem renL_get {g : Value → Option Value} : ∀ (l l2 : List Value), renL g l = some l2 → ∀ i (h : i < l.length) (h2 : i < l2.length), g l[i] = some l2[i] := by
  intro l
  induction l with
  | nil => intro l2 _ i h; simp at h
  | cons v l ih =>
    intro l2 h i hi hi2
    simp only [renL] at h
    split at h
    · rename_i v2 l3 h1 h2
      cases h
      cases i with
      | zero => exact h1
      | succ i => exact ih l3 h2 i (by simpa using hi) (by simpa using hi2)
    · cases h
/-- Rows of values stand for the same. -/
theorem renL_rel {m2 : Mu} {g : Value → Option Value} {c c' : Array Value} {l : List Value} (hs : c.size = c'.size) (h : renL g c.toList = some l)
    (ih : ∀ i (h : i < c.size) (h' : i < c'.size), ∀ v2, g c[i] = some v2 → VRel m2 v2 c'[i]) : l.toArray.size = c'.size ∧ ∀ i (h : i < l.toArray.size) (h' : i < c'.size), VRel m2 l.toArray[i] c'[i] := by
  have hl := renL_length _ _ h
  have hl2 : l.length = c.size := by simpa using hl
  refine ⟨by simp [hl2, hs], fun i h1 h2 => ?_⟩
  have q := renL_get _ _ h i (by simp; omega) (by simpa using h1)
  simp only [List.getElem_toArray]
  exact ih i (by omega) h2 _ (by simpa using q)

theorem renV_rel {m m2 : Mu} {f : Nat → Nat} (hf : ∀ b, m2 (f b) = m b) {v v' : Value} (h : VRel m v v') : ∀ n v2, renV f n v = some v2 → VRel m2 v2 v' := by
  induction h with
  | bool b => intro n v2 h; cases n <;> (simp only [renV] at h; cases h; exact .bool b)
  | int k b => intro n v2 h; cases n <;> (simp only [renV] at h; cases h; exact .int k b)
  | float k b => intro n v2 h; cases n <;> (simp only [renV] at h; cases h; exact .float k b)
  | complex k a b => intro n v2 h; cases n <;> (simp only [renV] at h; cases h; exact .complex k a b)
  | string s => intro n v2 h; cases n <;> (simp only [renV] at h; cases h; exact .string s)
  | nilPtr => intro n v2 h; cases n <;> (simp only [renV] at h; cases h; exact .nilPtr)
  | ptr b o l hl => intro n v2 h; cases n <;> (simp only [renV] at h; cases h; exact .ptr _ o l (by rw [hf]; exact hl))
  | nilSlice k c => intro n v2 h; cases n <;> (simp only [renV] at h; cases h; exact .nilSlice k c)
  | slice b o k c l hl hc => intro n v2 h; cases n <;> (simp only [renV] at h; cases h; exact .slice _ o k c l (by rw [hf]; exact hl) hc)
  | oslice b o k c l hl h1 h2 h3 => intro n v2 h; cases n <;> (simp only [renV] at h; cases h; exact .oslice _ o k c l (by rw [hf]; exact hl) h1 h2 h3)
  | oslice0 b o k l a hl h1 h2 => intro n v2 h; cases n <;> (simp only [renV] at h; cases h; exact .oslice0 _ o k l a (by rw [hf]; exact hl) h1 h2)
  | nilMap => intro n v2 h; cases n <;> (simp only [renV] at h; cases h; exact .nilMap)
  | nilChan => intro n v2 h; cases n <;> (simp only [renV] at h; cases h; exact .nilChan)
  | any r v' a b c => intro n v2 h; cases n <;> (simp only [renV] at h; cases h; exact .any r v' a b c)
  | map b l hl => intro n v2 h; cases n <;> (simp only [renV] at h; cases h; exact .map _ l (by rw [hf]; exact hl))
  | nilFunc => intro n v2 h; cases n <;> (simp only [renV] at h; cases h; exact .nilFunc)
  | nilIface => intro n v2 h; cases n <;> (simp only [renV] at h; cases h; exact .nilIface)
  | func g a a' c c' h1 _ h3 _ i1 i2 =>
    intro n v2 h
    cases n with
    | zero => simp [renV] at h
    | succ n =>
      simp only [renV] at h
      split at h
      · rename_i l l2 e1 e2
        cases h
        obtain ⟨p1, p2⟩ := renL_rel h1 e1 (fun i a b v2 e => i1 i a b n v2 e)
        obtain ⟨p3, p4⟩ := renL_rel h3 e2 (fun i a b v2 e => i2 i a b n v2 e)
        exact .func g _ _ _ _ p1 p2 p3 p4
      · cases h
  | iface t v v' _ ih =>
    intro n v2 h
    cases n with
    | zero => simp [renV] at h
    | succ n =>
      simp only [renV] at h
      split at h
      · rename_i x e
        cases h
        exact .iface t _ _ (ih n x e)
      · cases h
  | agg c c' h1 _ ih =>
    intro n v2 h
    cases n with
    | zero => simp [renV] at h
    | succ n =>
      simp only [renV] at h
      split at h
      · rename_i l e
        cases h
        obtain ⟨p1, p2⟩ := renL_rel h1 e (fun i a b v2 e => ih i a b n v2 e)
        exact .agg _ _ p1 p2
      · cases h
  | tuple c c' h1 _ ih =>
    intro n v2 h
    cases n with
    | zero => simp [renV] at h
    | succ n =>
      simp only [renV] at h
      split at h
      · rename_i l e
        cases h
        obtain ⟨p1, p2⟩ := renL_rel h1 e (fun i a b v2 e => ih i a b n v2 e)
        exact .tuple _ _ p1 p2
      · cases h

/-- Whatever stands for something does so under other numbers too. -/
theorem junk_rel {m m2 : Mu} {f : Nat → Nat} (hf : ∀ b, m2 (f b) = m b) {v v' : Value} (h : VRel m v v') : ∃ v2, VRel m2 v2 v' := by
  have rows : ∀ c c' : Array Value, c.size = c'.size → (∀ i (h : i < c.size) (h' : i < c'.size), ∃ v2, VRel m2 v2 c'[i]) → ∃ d : Array Value, d.size = c'.size ∧ ∀ i (h : i < d.size) (h' : i < c'.size), VRel m2 d[i] c'[i] := by
    intro c c' hs hx
    have hx' : ∀ i : Fin c'.size, ∃ v2, VRel m2 v2 c'[i] := fun i => hx i.1 (by omega) i.2
    refine ⟨Array.ofFn (fun i : Fin c'.size => (hx' i).choose), by simp, fun i h h' => ?_⟩
    simp only [Array.getElem_ofFn]
    exact (hx' ⟨i, h'⟩).choose_spec
  induction h with
  | bool b => exact ⟨_, .bool b⟩
  | int k b => exact ⟨_, .int k b⟩
  | float k b => exact ⟨_, .float k b⟩
  | complex k a b => exact ⟨_, .complex k a b⟩
  | string s => exact ⟨_, .string s⟩
  | nilPtr => exact ⟨_, .nilPtr⟩
  | ptr b o l hl => exact ⟨_, .ptr (f b) o l (by rw [hf]; exact hl)⟩
  | nilSlice k c => exact ⟨_, .nilSlice k c⟩
  | slice b o k c l hl hc => exact ⟨_, .slice (f b) o k c l (by rw [hf]; exact hl) hc⟩
  | oslice b o k c l hl h1 h2 h3 => exact ⟨_, .oslice (f b) o k c l (by rw [hf]; exact hl) h1 h2 h3⟩
  | oslice0 b o k l a hl h1 h2 => exact ⟨_, .oslice0 (f b) o k l a (by rw [hf]; exact hl) h1 h2⟩
  | nilMap => exact ⟨_, .nilMap⟩
  | nilChan => exact ⟨_, .nilChan⟩
  | any r v' a b c => exact ⟨_, .any r v' a b c⟩
  | map b l hl => exact ⟨_, .map (f b) l (by rw [hf]; exact hl)⟩
  | nilFunc => exact ⟨_, .nilFunc⟩
  | nilIface => exact ⟨_, .nilIface⟩
  | func g a a' c c' h1 _ h3 _ i1 i2 =>
    obtain ⟨d, p1, p2⟩ := rows a a' h1 i1
    obtain ⟨e, p3, p4⟩ := rows c c' h3 i2
    exact ⟨_, .func g d _ e _ p1 p2 p3 p4⟩
  | iface t v v' _ ih => obtain ⟨x, hx⟩ := ih; exact ⟨_, .iface t x _ hx⟩
  | agg c c' h1 _ ih => obtain ⟨d, p1, p2⟩ := rows c c' h1 ih; exact ⟨_, .agg d _ p1 p2⟩
  | tuple c c' h1 _ ih => obtain ⟨d, p1, p2⟩ := rows c c' h1 ih; exact ⟨_, .tuple d _ p1 p2⟩
open Classical in
/-- Some value that stands for a given one. -/
noncomputable def junkOf (m2 : Mu) (v' : Value) : Value := if h : ∃ v2, VRel m2 v2 v' then h.choose else undef
theorem junkOf_rel {m2 : Mu} {v' : Value} (h : ∃ v2, VRel m2 v2 v') : VRel m2 (junkOf m2 v') v' := by
  unfold junkOf
  rw [dif_pos h]
  exact h.choose_spec
end Go.Ab
