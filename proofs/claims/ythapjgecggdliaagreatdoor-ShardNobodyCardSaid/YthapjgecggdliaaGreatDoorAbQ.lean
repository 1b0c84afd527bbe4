import Derived.Test.YthapjgecggdliaaGreatDoorAbP
namespace Go.Ab
open Go
section
variable {P : Program}

theorem fillA_skip {sel : Nat → Bool} {base : Nat} {G : AHeap} (objs : List (Nat × AObj)) : ∀ new : List (Nat × AObj), (∀ x ∈ new, sel x.1 = false) → fillA sel base (new ++ objs) G = fillA sel base objs G := by
  intro new
  induction new with
  | nil => intro _; rfl
  | cons x rest ih =>
    intro h
    obtain ⟨i, o⟩ := x
    have h0 := h (i, o) (by simp)
    simp only [List.cons_append, fillA]
    dsimp only at h0
    rw [h0]
    simp only [Bool.false_and, Bool.false_eq_true, if_false]
    exact ih fun y hy => h y (by simp [hy])
theorem objAt_skip (objs : List (Nat × AObj)) (i : Nat) : ∀ new : List (Nat × AObj), (∀ x ∈ new, x.1 ≠ i) → objAt (new ++ objs) i = objAt objs i := by
  intro new
  induction new with
  | nil => intro _; rfl
  | cons x rest ih =>
    intro h
    obtain ⟨k, o⟩ := x
    have h0 : k ≠ i := h (k, o) (by simp)
    have : Nat.beq k i = false := by
      cases hb : Nat.beq k i with
      | false => rfl
      | true => rw [Nat.beq_eq] at hb; exact absurd hb h0
    simp only [List.cons_append, objAt, this, Bool.false_eq_true, if_false]
    exact ih fun y hy => h y (by simp [hy])
theorem objAt_none {objs : List (Nat × AObj)} {i : Nat} (h : ∀ x ∈ objs, x.1 ≠ i) : objAt objs i = none := by
  have := objAt_skip [] i objs h
  simpa [objAt] using this
theorem objAt_mem {objs : List (Nat × AObj)} {i : Nat} {o : AObj} (h : objAt objs i = some o) : (i, o) ∈ objs := by
  induction objs with
  | nil => simp [objAt] at h
  | cons x rest ih =>
    obtain ⟨k, p⟩ := x
    simp only [objAt] at h
    split at h
    · rename_i e
      rw [Nat.beq_eq] at e
      obtain rfl := Option.some.inj h
      subst e
      simp
    · exact List.mem_cons_of_mem _ (ih h)

/-- What is known of one operation of the run. -/
structure FactAt (P : Program) (enters : FuncId → FKind) (callF : CallF) (ops : Array Oper) (ms : List Nat) (base : Nat) (o : Oper) (j : Nat) (T : Tree Value) (G : AHeap) (v : Value) (G' : AHeap) (os : List (Nat × AObj)) : Prop where
  off : wantedA ops o T = false → v = undef ∧ G' = G ∧ objAt os j = none
  plain : wantedA ops o T = true → clsOf P o = .plain → G' = G ∧ opR P (rhoA T) o (fillA (prd ms j) base os G) = some v ∧ objAt os j = none
  alloc : wantedA ops o T = true → clsOf P o = .alloc → G' = G ∧ ∃ ob, opN P (rhoA T) o (base + j) = some (v, ob) ∧ objAt os j = some ob
  loud : wantedA ops o T = true → clsOf P o = .loud → stepA P enters callF ops o T (fillA (prd ms j) base os G) = some (v, G') ∧ objAt os j = none ∧
    ∀ i ob, i < j → objAt os i = some ob → (fillA (prd ms j) base os G).get (base + i) ≠ .dead → G'.get (base + i) ≠ .dead

theorem go_spec {enters : FuncId → FKind} {callF : CallF} {ops : Array Oper} {ms : List Nat} {base : Nat} (hms : ∀ a b, prd ms a b = true → b < a) :
    ∀ (l : List Oper) (j : Nat) (T : Tree Value) (G : AHeap) (objs : List (Nat × AObj)) (vs : List Value) (Gs : List AHeap) (os : List (Nat × AObj)),
    drawGo P enters callF ops ms base l j T G objs = some (vs, Gs, os) → (∀ x ∈ objs, x.1 < j) →
    vs.length = l.length ∧ Gs.length = l.length ∧ (∃ new, os = new ++ objs ∧ ∀ x ∈ new, j ≤ x.1 ∧ x.1 < j + l.length) ∧
    ∀ i, i < l.length → FactAt P enters callF ops ms base (l.getD i default) (j + i) (slots (l.take i) (vs.take i) T) (heapAt G Gs i) (vs.getD i undef) (heapAt G Gs (i + 1)) os := by
  intro l
  induction l with
  | nil =>
    intro j T G objs vs Gs os h _
    simp only [drawGo, Option.some.injEq, Prod.mk.injEq] at h
    obtain ⟨rfl, rfl, rfl⟩ := h
    exact ⟨rfl, rfl, ⟨[], rfl, fun x hx => by simp at hx⟩, fun i hi => by simp at hi⟩
  | cons o l ih =>
    intro j T G objs vs Gs os h hobjs
    -- the step, whatever it is
    have step : ∀ (v : Value) (G' : AHeap) (objs' : List (Nat × AObj)) (vs' : List Value) (Gs' : List AHeap), vs = v :: vs' → Gs = G' :: Gs' → (∃ n1, objs' = n1 ++ objs ∧ ∀ x ∈ n1, x.1 = j) →
        drawGo P enters callF ops ms base l (j + 1) (Tput T o.dst v) G' objs' = some (vs', Gs', os) →
        (∀ new, os = new ++ objs' → (∀ x ∈ new, j + 1 ≤ x.1) → FactAt P enters callF ops ms base o j T G v G' os) →
        vs.length = (o :: l).length ∧ Gs.length = (o :: l).length ∧ (∃ new, os = new ++ objs ∧ ∀ x ∈ new, j ≤ x.1 ∧ x.1 < j + (o :: l).length) ∧
        ∀ i, i < (o :: l).length → FactAt P enters callF ops ms base ((o :: l).getD i default) (j + i) (slots ((o :: l).take i) (vs.take i) T) (heapAt G Gs i) (vs.getD i undef) (heapAt G Gs (i + 1)) os := by
      rintro v G' objs' vs' Gs' rfl rfl ⟨n1, rfl, hn1⟩ hgo hfact
      obtain ⟨e1, e2, ⟨new, e3, e4⟩, e5⟩ := ih (j + 1) _ _ _ _ _ _ hgo (fun x hx => by
        rcases List.mem_append.1 hx with hx | hx
        · rw [hn1 x hx]; omega
        · have := hobjs x hx; omega)
      refine ⟨by simp [e1], by simp [e2], ⟨new ++ n1, by rw [e3]; simp, fun x hx => ?_⟩, fun i hi => ?_⟩
      · simp only [List.length_cons]
        rcases List.mem_append.1 hx with hx | hx
        · have := e4 x hx; omega
        · have := hn1 x hx; omega
      · cases i with
        | zero => exact hfact new e3 fun x hx => (e4 x hx).1
        | succ i =>
          have := e5 i (by simpa using hi)
          rw [show j + 1 + i = j + (i + 1) by omega] at this
          have hh : ∀ k, heapAt G' Gs' k = heapAt G (G' :: Gs') (k + 1) := by
            intro k
            cases k with
            | zero => rfl
            | succ k => rfl
          rw [hh, hh] at this
          exact this
    simp only [drawGo] at h
    split at h
    · rename_i hw
      split at h <;> try (cases h; done)
      rename_i vs' Gs' os' hgo
      simp only [Option.some.injEq, Prod.mk.injEq] at h
      obtain ⟨rfl, rfl, rfl⟩ := h
      refine step undef G objs vs' Gs' rfl rfl ⟨[], rfl, fun x hx => by simp at hx⟩ hgo fun new e1 e2 => ?_
      have hno : objAt os' j = none := by
        rw [e1]
        refine objAt_none fun x hx => ?_
        rcases List.mem_append.1 hx with hx | hx
        · have := e2 x hx; omega
        · have := hobjs x hx; omega
      exact ⟨fun _ => ⟨rfl, rfl, hno⟩, (fun h => (by rw [hw] at h; cases h)), (fun h => (by rw [hw] at h; cases h)), (fun h => (by rw [hw] at h; cases h))⟩
    · rename_i hw
      split at h
      · rename_i hcls
        split at h <;> try (cases h; done)
        rename_i v hv
        split at h <;> try (cases h; done)
        rename_i vs' Gs' os' hgo
        simp only [Option.some.injEq, Prod.mk.injEq] at h
        obtain ⟨rfl, rfl, rfl⟩ := h
        refine step v G objs vs' Gs' rfl rfl ⟨[], rfl, fun x hx => by simp at hx⟩ hgo fun new e1 e2 => ?_
        have hno : objAt os' j = none := by
          rw [e1]
          refine objAt_none fun x hx => ?_
          rcases List.mem_append.1 hx with hx | hx
          · have := e2 x hx; omega
          · have := hobjs x hx; omega
        have hf : fillA (prd ms j) base os' G = fillA (prd ms j) base objs G := by
          rw [e1]
          refine fillA_skip objs new fun x hx => ?_
          cases hb : prd ms j x.1 with
          | false => rfl
          | true => have := hms _ _ hb; have := e2 x hx; omega
        exact ⟨(fun h => (by rw [hw] at h; cases h)), fun _ _ => ⟨rfl, by rw [hf]; exact hv, hno⟩, (fun _ h => (by rw [hcls] at h; cases h)), (fun _ h => (by rw [hcls] at h; cases h))⟩
      · rename_i hcls
        split at h <;> try (cases h; done)
        rename_i v ob hv
        split at h <;> try (cases h; done)
        rename_i vs' Gs' os' hgo
        simp only [Option.some.injEq, Prod.mk.injEq] at h
        obtain ⟨rfl, rfl, rfl⟩ := h
        refine step v G ((j, ob) :: objs) vs' Gs' rfl rfl ⟨[(j, ob)], rfl, fun x hx => by simp at hx; rw [hx]⟩ hgo fun new e1 e2 => ?_
        have hno : objAt os' j = some ob := by
          rw [e1, objAt_skip _ _ new (fun x hx => by have := e2 x hx; omega)]
          simp [objAt]
        exact ⟨(fun h => (by rw [hw] at h; cases h)), (fun _ h => (by rw [hcls] at h; cases h)), fun _ _ => ⟨rfl, ob, hv, hno⟩, (fun _ h => (by rw [hcls] at h; cases h))⟩
      · rename_i hcls
        split at h <;> try (cases h; done)
        rename_i v G' hv
        split at h <;> try (cases h; done)
        rename_i hlive
        split at h <;> try (cases h; done)
        rename_i vs' Gs' os' hgo
        simp only [Option.some.injEq, Prod.mk.injEq] at h
        obtain ⟨rfl, rfl, rfl⟩ := h
        refine step v G' objs vs' Gs' rfl rfl ⟨[], rfl, fun x hx => by simp at hx⟩ hgo fun new e1 e2 => ?_
        have hno : objAt os' j = none := by
          rw [e1]
          refine objAt_none fun x hx => ?_
          rcases List.mem_append.1 hx with hx | hx
          · have := e2 x hx; omega
          · have := hobjs x hx; omega
        have hf : fillA (prd ms j) base os' G = fillA (prd ms j) base objs G := by
          rw [e1]
          refine fillA_skip objs new fun x hx => ?_
          cases hb : prd ms j x.1 with
          | false => rfl
          | true => have := hms _ _ hb; have := e2 x hx; omega
        refine ⟨(fun h => (by rw [hw] at h; cases h)), (fun _ h => (by rw [hcls] at h; cases h)), (fun _ h => (by rw [hcls] at h; cases h)), fun _ _ => ⟨by rw [hf]; exact hv, hno, fun i ob hi ho hl => ?_⟩⟩
        rw [hf] at hl
        have hm : (i, ob) ∈ objs := by
          rw [e1, objAt_skip _ _ new (fun x hx => by have := e2 x hx; omega)] at ho
          exact objAt_mem ho
        have := List.all_eq_true.1 hlive (i, ob) hm
        simp only [Bool.or_eq_true, isDead_iff, Bool.not_eq_true'] at this
        rcases this with this | this
        · exact absurd this hl
        · intro h2; rw [isDead_iff.2 h2] at this; cases this
end
end Go.Ab
