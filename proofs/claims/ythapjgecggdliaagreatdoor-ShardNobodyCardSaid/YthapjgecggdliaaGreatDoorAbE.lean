import Derived.Test.YthapjgecggdliaaGreatDoorAbD
namespace Go.Ab
open Go
section
variable {P : Program} {B : Base}

/-! ## Rows -/
theorem ARel.of_flat {m : Mu} {c : Array Value} {n : Nat} (h : c.toList.all (vflat n) = true) : ARel m c c :=
  ⟨rfl, fun i h1 _ => vflat_rel m n _ (List.all_eq_true.1 h _ (by simp))⟩
theorem ARel.empty {m : Mu} : ARel m #[] #[] := ⟨rfl, fun i h => by simp at h⟩
theorem ARel.single {m : Mu} {v v' : Value} (h : VRel m v v') : ARel m #[v] #[v'] :=
  ⟨rfl, fun i h1 h2 => by
    have : i = 0 := by simp at h1; omega
    subst this
    exact h⟩
theorem ARel.get? {m : Mu} {c c' : Array Value} (h : ARel m c c') {i : Nat} {v : Value} (hv : c[i]? = some v) : ∃ v', c'[i]? = some v' ∧ VRel m v v' := by
  have hi : i < c.size := by
    rcases Nat.lt_or_ge i c.size with x | x
    · exact x
    · rw [Array.getElem?_eq_none x] at hv; cases hv
  have hi' : i < c'.size := by rw [← h.1]; exact hi
  have e : v = c[i] := by rw [Array.getElem?_eq_getElem hi] at hv; exact (Option.some.inj hv).symm
  exact ⟨c'[i], Array.getElem?_eq_getElem hi', by rw [e]; exact h.2 i hi hi'⟩
theorem ARel.of_get? {m : Mu} {c c' : Array Value} (hs : c.size = c'.size) (h : ∀ (i : Nat) (v v' : Value), c[i]? = some v → c'[i]? = some v' → VRel m v v') : ARel m c c' :=
  ⟨hs, fun i h1 h2 => h i _ _ (Array.getElem?_eq_getElem h1) (Array.getElem?_eq_getElem h2)⟩
theorem ARel.push {m : Mu} {c c' : Array Value} {v v' : Value} (h : ARel m c c') (hv : VRel m v v') : ARel m (c.push v) (c'.push v') := by
  refine ARel.of_get? (by simp [h.1]) fun i x x' h1 h2 => ?_
  rw [Array.getElem?_push] at h1 h2
  by_cases e : i = c.size
  · rw [if_pos e] at h1
    rw [if_pos (by rw [← h.1]; exact e)] at h2
    cases h1; cases h2; exact hv
  · rw [if_neg e] at h1
    rw [if_neg (by rw [← h.1]; exact e)] at h2
    obtain ⟨y, hy, hxy⟩ := h.get? h1
    rw [h2] at hy; cases hy; exact hxy
theorem ARel.append {m : Mu} {c c' d d' : Array Value} (h : ARel m c c') (hd : ARel m d d') : ARel m (c ++ d) (c' ++ d') := by
  refine ARel.of_get? (by simp [h.1, hd.1]) fun i x x' h1 h2 => ?_
  rw [Array.getElem?_append] at h1 h2
  by_cases e : i < c.size
  · rw [if_pos e] at h1
    rw [if_pos (by have := h.1; omega)] at h2
    obtain ⟨y, hy, hxy⟩ := h.get? h1
    rw [h2] at hy; cases hy; exact hxy
  · rw [if_neg e] at h1
    rw [if_neg (by have := h.1; omega), ← h.1] at h2
    obtain ⟨y, hy, hxy⟩ := hd.get? h1
    rw [h2] at hy; cases hy; exact hxy
theorem ARel.extract {m : Mu} {c c' : Array Value} (h : ARel m c c') (a b : Nat) : ARel m (c.extract a b) (c'.extract a b) := by
  refine ARel.of_get? (by simp [h.1]) fun i x x' h1 h2 => ?_
  rw [Array.getElem?_extract] at h1 h2
  by_cases e : i < min b c.size - a
  · rw [if_pos e] at h1
    rw [if_pos (by have := h.1; omega)] at h2
    obtain ⟨y, hy, hxy⟩ := h.get? h1
    rw [h2] at hy; cases hy; exact hxy
  · rw [if_neg e] at h1; cases h1
theorem ARel.map {m : Mu} {α : Type} {xs : Array α} {f f' : α → Value} (h : ∀ x ∈ xs.toList, VRel m (f x) (f' x)) : ARel m (xs.map f) (xs.map f') :=
  ⟨by simp, fun i h1 h2 => by
    simp only [Array.getElem_map]
    exact h _ (by simp)⟩
theorem ARel.set {m : Mu} {c c' : Array Value} {v v' : Value} (h : ARel m c c') (i : Nat) (hv : VRel m v v') : ARel m (c.setIfInBounds i v) (c'.setIfInBounds i v') := by
  refine ARel.of_get? (by simp [h.1]) fun j x x' h1 h2 => ?_
  rw [Array.getElem?_setIfInBounds] at h1 h2
  by_cases e : i = j
  · rw [if_pos e] at h1 h2
    by_cases e2 : i < c.size
    · rw [if_pos (by omega)] at h1
      rw [if_pos (by have := h.1; omega)] at h2
      cases h1; cases h2; exact hv
    · rw [if_neg (by omega)] at h1; cases h1
  · rw [if_neg e] at h1 h2
    obtain ⟨y, hy, hxy⟩ := h.get? h1
    rw [h2] at hy; cases hy; exact hxy
theorem VRel.cells {m : Mu} {v v' : Value} (h : VRel m v v') : ARel m v.cells v'.cells := by
  have hh := h
  have cells_of : ∀ v : Value, (∀ c, v ≠ .agg c) → v.cells = #[v] := by
    intro v hv
    cases v <;> first | rfl | exact absurd rfl (hv _)
  cases h <;> first
    | exact ARel.single hh
    | (rename_i h1 h2; exact ⟨h1, h2⟩)
    | (rename_i h1 h2; rw [cells_of _ h1]; exact ARel.single hh)
theorem VRel.agg' {m : Mu} {c c' : Array Value} (h : ARel m c c') : VRel m (.agg c) (.agg c') := .agg _ _ h.1 h.2

/-! ## Reading values -/
theorem Sim.asBool {m : Mu} {v v' : Value} (h : VRel m v v') : Sim P B m (Go.asBool v) (Go.asBool v') (fun _ a b => a = b) := by
  cases h <;> first | exact Sim.pure rfl | exact Sim.halt
theorem Sim.asIntOf {m : Mu} {v v' : Value} (h : VRel m v v') : Sim P B m (Go.asIntOf v) (Go.asIntOf v') (fun _ a b => a = b) := by
  cases h <;> first | exact Sim.pure rfl | exact Sim.halt
theorem Sim.asInt {m : Mu} {v v' : Value} (h : VRel m v v') : Sim P B m (Go.asInt v) (Go.asInt v') (fun _ a b => a = b) := by
  unfold Go.asInt
  exact (Sim.asIntOf h).bind fun m' _ a b e => Sim.pure (by rw [e])
theorem Sim.sureAddr {m : Mu} {v v' : Value} (h : VRel m v v') : Sim P B m (Instr.sureAddr v) (Instr.sureAddr v') AdRel := by
  cases h <;> first | exact Sim.halt | (rename_i b o l hm; exact Sim.pure ⟨b, o, l, rfl, hm, rfl⟩)
theorem Sim.asAgg {m : Mu} {v v' : Value} (h : VRel m v v') : Sim P B m (Go.asAgg v) (Go.asAgg v') ARel := by
  cases h <;> first | exact Sim.halt | (rename_i h1 h2; exact Sim.pure ⟨h1, h2⟩)

/-! ## Cells -/
theorem Sim.loadCellsFrom {m : Mu} {a a' : Addr} (h : AdRel m a a') : ∀ (n i : Nat) (acc acc' : Array Value), ARel m acc acc' →
    Sim P B m (Go.loadCellsFrom a i n acc) (Go.loadCellsFrom a' i n acc') ARel := by
  intro n
  induction n generalizing m with
  | zero => intro i acc acc' ha; exact Sim.pure ha
  | succ n ih =>
    intro i acc acc' ha
    unfold Go.loadCellsFrom
    exact (Sim.load (h.add i)).bind fun m' hm v v' hv => ih (h.mono hm) _ _ _ ((ha.mono hm).push hv)
theorem Sim.loadCells {m : Mu} {a a' : Addr} (h : AdRel m a a') (n : Nat) : Sim P B m (Go.loadCells a n) (Go.loadCells a' n) ARel :=
  Sim.loadCellsFrom h n 0 _ _ ARel.empty

theorem Sim.storeCells {m : Mu} {a a' : Addr} (h : AdRel m a a') : ∀ (vs vs' : List Value) (i : Nat), ARel m vs.toArray vs'.toArray →
    Sim P B m (Go.storeCells a vs i) (Go.storeCells a' vs' i) (fun _ _ _ => True) := by
  intro vs
  induction vs generalizing m with
  | nil =>
    intro vs' i hv
    have : vs' = [] := by
      have := hv.1
      cases vs' with
      | nil => rfl
      | cons x xs => simp at this
    subst this
    exact Sim.pure trivial
  | cons v vs ih =>
    intro vs' i hv
    cases vs' with
    | nil => have := hv.1; simp at this
    | cons v' vs' =>
      have h0 : VRel m v v' := hv.2 0 (by simp) (by simp)
      have h1 : ARel m vs.toArray vs'.toArray := by
        refine ⟨by have := hv.1; simpa using this, fun j a b => ?_⟩
        have := hv.2 (j + 1) (by simpa using a) (by simpa using b)
        simpa using this
      unfold Go.storeCells
      exact (Sim.store (h.add i) h0).bind fun m' hm _ _ _ => ih (h.mono hm) _ _ (h1.mono hm)

theorem Sim.loadVar {m : Mu} {a a' : Addr} (h : AdRel m a a') (t : TypeId) : Sim P B m (Go.loadVar t a) (Go.loadVar t a') (fun m' v v' => VRel m' v v') := by
  unfold Go.loadVar
  refine Sim.free (Free.isAgg t) fun b _ => ?_
  by_cases e : b = true
  · rw [if_pos e, if_pos e]
    refine Sim.free (Free.sizeOf t) fun s _ => ?_
    exact (Sim.loadCells h s).bind fun m' hm c c' hc => Sim.pure (VRel.agg' hc)
  · rw [if_neg e, if_neg e]
    exact Sim.load h

theorem Sim.storeVar {m : Mu} {a a' : Addr} {v v' : Value} (h : AdRel m a a') (hv : VRel m v v') (t : TypeId) :
    Sim P B m (Go.storeVar t a v) (Go.storeVar t a' v') (fun _ _ _ => True) := by
  unfold Go.storeVar
  refine Sim.free (Free.sizeOf t) fun s _ => ?_
  have hc := hv.cells
  by_cases e : v.cells.size ≠ s
  · rw [if_pos e]; exact Sim.bind_stuck fun _ => rfl
  · rw [if_neg e, if_neg (by rw [← hc.1]; exact e)]
    exact Sim.storeCells h _ _ 0 (by simpa using hc)

theorem Sim.part {m : Mu} {c c' : Array Value} (h : ARel m c c') (t : TypeId) (off : Nat) : Sim P B m (Go.part t c off) (Go.part t c' off) (fun m' v v' => VRel m' v v') := by
  unfold Go.part
  refine Sim.free (Free.isAgg t) fun b _ => ?_
  by_cases e : b = true
  · rw [if_pos e, if_pos e]
    exact Sim.free (Free.sizeOf t) fun s _ => Sim.pure (VRel.agg' (h.extract _ _))
  · rw [if_neg e, if_neg e]
    cases hx : c[off]? with
    | none => exact Sim.halt
    | some v =>
      obtain ⟨v', hv', hv⟩ := h.get? hx
      rw [hv']
      exact Sim.pure hv

theorem Sim.newRow {m : Mu} {c c' : Array Value} (h : ARel m c c') (t : TypeId) : Sim P B m (Go.newRow t c) (Go.newRow t c') AdRel := by
  unfold Go.newRow
  refine (Sim.newCells h).bind fun m' hm r r' hr => ?_
  obtain ⟨l, h1, h2, h3⟩ := hr
  exact Sim.pure ⟨r, 0, l, rfl, h1, by simp [h2, h3]⟩
theorem Sim.newVar {m : Mu} {v v' : Value} (h : VRel m v v') (t : TypeId) : Sim P B m (Go.newVar t v) (Go.newVar t v') AdRel := Sim.newRow h.cells t

/-- The program's zero values hold no address. -/
def ZF (P : Program) : Prop := ∀ t i z, P.info? t = some i → i.zero = some z → vflat 8 z = true
theorem Sim.zero {m : Mu} {β γ : Type} {t : TypeId} {f : Value → Sem β} {f' : Value → Sem γ} {RR : Mu → β → γ → Prop} (hz : ZF P)
    (k : ∀ z, vflat 8 z = true → Sim P B m (f z) (f' z) RR) : Sim P B m (Go.zeroValue t >>= f) (Go.zeroValue t >>= f') RR :=
  Sim.free (Free.zeroValue t) fun z ⟨hp, h⟩ => by
    obtain ⟨i, h1, h2⟩ := zero_of_run h
    exact k z (hz t i z h1 h2)

/-! ## Instructions -/
theorem Sim.alloc {m : Mu} (hz : ZF P) (t : TypeId) : Sim P B m (Instr.alloc t true (.tuple #[])) (Instr.alloc t true (.tuple #[])) (fun m' v v' => VRel m' v v') := by
  unfold Instr.alloc
  refine Sim.zero hz fun z hzf => ?_
  exact (Sim.newVar (vflat_rel m 8 z hzf) t).bind fun m' hm a a' ha => Sim.pure ha.ptr
theorem Sim.box {m : Mu} {v v' : Value} (h : VRel m v v') (t : TypeId) : Sim P B m (Instr.box t v) (Instr.box t v') (fun m' v v' => VRel m' v v') := by
  unfold Instr.box
  exact (Sim.newVar h t).bind fun m' hm a a' ha => Sim.pure ha.ptr
theorem Sim.loadAt {m : Mu} {v v' : Value} (h : VRel m v v') (t : TypeId) : Sim P B m (Instr.loadAt t v) (Instr.loadAt t v') (fun m' v v' => VRel m' v v') := by
  unfold Instr.loadAt
  exact (Sim.sureAddr h).bind fun m' hm a a' ha => Sim.loadVar ha t
theorem Sim.storeAt {m : Mu} {v v' x x' : Value} (h : VRel m v v') (hx : VRel m x x') (t : TypeId) : Sim P B m (Instr.storeAt t v x) (Instr.storeAt t v' x') (fun _ _ _ => True) := by
  unfold Instr.storeAt
  exact (Sim.sureAddr h).bind fun m' hm a a' ha => Sim.storeVar ha (hx.mono hm) t
theorem partAt_runA (a : Addr) (c b : Nat) (hp : AHeap) (ha : a.spot = none) : (partAt a c b).runA P hp = none := by
  unfold partAt byteOf
  obtain ⟨blk, off, spot⟩ := a
  obtain rfl : spot = none := ha
  refine runA_bind_none ?_
  simp only [Go.program]
  rfl
theorem Sim.fieldAt {m : Mu} {v v' : Value} (h : VRel m v v') (s : TypeId) (f : Nat) : Sim P B m (Instr.fieldAt s v f) (Instr.fieldAt s v' f) (fun m' v v' => VRel m' v v') := by
  unfold Instr.fieldAt
  refine Sim.free (Free.underlying s) fun d _ => ?_
  cases d <;> try exact Sim.halt
  rename_i fields _
  dsimp only
  cases fields[f]? with
  | none => exact Sim.halt
  | some fl =>
    refine (Sim.sureAddr h).bind fun m' hm a a' ha => ?_
    refine Sim.bind (RR := AdRel) ?_ fun m2 hm2 b b' hb => Sim.pure hb.ptr
    unfold fieldPlace
    refine Sim.free (Free.sizeOf fl.type) fun n _ => ?_
    by_cases e : n = 0
    · rw [if_pos e]
      refine Sim.of_none fun hp => partAt_runA a _ _ hp ?_
      obtain ⟨b, o, l, rfl, _⟩ := ha; rfl
    · rw [if_neg e, if_neg e]
      exact Sim.pure (ha.add _)
theorem Sim.field {m : Mu} {v v' : Value} (h : VRel m v v') (s : TypeId) (f : Nat) : Sim P B m (Instr.field s v f) (Instr.field s v' f) (fun m' v v' => VRel m' v v') := by
  unfold Instr.field
  refine Sim.free (Free.underlying s) fun d _ => ?_
  cases d <;> try exact Sim.halt
  rename_i fields _
  dsimp only
  cases fields[f]? with
  | none => exact Sim.halt
  | some fl => exact (Sim.asAgg h).bind fun m' hm a a' ha => Sim.part ha _ _
theorem Sim.extract {m : Mu} {v v' : Value} (h : VRel m v v') (i : Nat) : Sim P B m (Instr.extract v i) (Instr.extract v' i) (fun m' v v' => VRel m' v v') := by
  unfold Instr.extract
  cases h <;> first
    | exact Sim.halt
    | (rename_i c c' h1 h2
       dsimp only
       cases hx : c[i]? with
       | none => exact Sim.halt
       | some v =>
         obtain ⟨v', hv', hv⟩ := ARel.get? ⟨h1, h2⟩ hx
         rw [hv']
         exact Sim.pure hv)
theorem Sim.makeInterface {m : Mu} {v v' : Value} (h : VRel m v v') (t : TypeId) : Sim P B m (Instr.makeInterface t v) (Instr.makeInterface t v') (fun m' v v' => VRel m' v v') := by
  unfold Instr.makeInterface
  refine Sim.free (Free.underlying t) fun d _ => ?_
  cases d <;> first | exact Sim.halt | exact Sim.pure (.iface _ _ _ h)
theorem Sim.makeFunc {m : Mu} {fn : Fn} {a a' c c' : Array Value} (h : ARel m a a') (h2 : ARel m c c') : Sim P B m (Instr.makeFunc fn a c) (Instr.makeFunc fn a' c') (fun m' v v' => VRel m' v v') :=
  Sim.pure (.func _ _ _ _ _ h.1 h.2 h2.1 h2.2)
theorem Sim.makeMap {m : Mu} (t : TypeId) : Sim P B m (Instr.makeMap t none) (Instr.makeMap t none) (fun m' v v' => VRel m' v v') := by
  unfold Instr.makeMap
  exact Sim.newMap.bind fun m' hm r r' hr => Sim.pure hr

/-! ### Indexes and slices -/
def idxTail (t : TypeId) (k : IntKind) (i : Int) (base : Option Addr) (len : Nat) (elem : TypeId) : Sem Value := do
  let tiny := len ≤ 1 && (match ← underlying t with | .array .. => true | _ => false)
  match base with
  | some a =>
    if 0 ≤ i ∧ i < len then pure (.pointer (some (a.add (i.toNat * (← sizeOf elem)))))
    else if tiny then unsupported (.noEntry "op/indexAddr.an index out of range at an array of length 0 or 1 (ledger 616)")
    else boundsPanic k i len .index
  | none => boundsPanic k i 0 .index
theorem Sim.idxTail {m : Mu} {t : TypeId} {k : IntKind} {i : Int} {base base' : Option Addr} {len : Nat} {elem : TypeId}
    (h1 : match base, base' with | some a, some a' => AdRel m a a' ∨ len = 0 | none, _ => True | _, _ => False) :
    Sim P B m (idxTail t k i base len elem) (idxTail t k i base' len elem) (fun m' v v' => VRel m' v v') := by
  unfold Ab.idxTail
  refine Sim.free (Free.underlying t) fun d2 _ => ?_
  cases base with
  | none => exact Sim.bounds
  | some a =>
    cases base' with
    | none => exact h1.elim
    | some a' =>
      dsimp only at h1 ⊢
      by_cases e : 0 ≤ i ∧ i < len
      · rw [if_pos e, if_pos e]
        rcases h1 with h1 | h1
        · exact Sim.free (Free.sizeOf elem) fun s _ => Sim.pure (h1.add _).ptr
        · omega
      · rw [if_neg e]
        refine Sim.of_none fun hp => ?_
        (repeat' split) <;> first | exact boundsPanic_runA _ _ _ _ hp | rfl
theorem Sim.indexAt {m : Mu} {v v' x x' : Value} (h : VRel m v v') (hx : VRel m x x') (t : TypeId) : Sim P B m (Instr.indexAt t v x) (Instr.indexAt t v' x') (fun m' v v' => VRel m' v v') := by
  unfold Instr.indexAt
  refine (Sim.asIntOf hx).bind fun m1 hm1 ki ki' e => ?_
  subst e
  obtain ⟨k, i⟩ := ki
  refine Sim.free (Free.underlying t) fun d _ => ?_
  have h' := h.mono hm1
  cases d <;> try exact Sim.halt
  · rename_i elem _
    cases h' <;> try exact Sim.halt
    · rename_i n c
      exact Sim.idxTail (base := none) (base' := none) (len := n) (elem := elem) trivial
    · rename_i b o n c l hm hc
      exact Sim.idxTail (base := some _) (base' := some _) (.inl ⟨b, o, l, rfl, hm, rfl⟩)
    · rename_i b o n k l hm _ _ _
      exact Sim.idxTail (base := some _) (base' := some _) (.inl ⟨b, o, l, rfl, hm, rfl⟩)
    · rename_i b o k l a hm _ _
      exact Sim.idxTail (base := some _) (base' := some _) (.inr rfl)
  · rename_i len elem _
    exact (Sim.sureAddr h').bind fun m2 hm2 a a' ha => Sim.idxTail (base := some _) (base' := some _) (.inl ha)
end
end Go.Ab
