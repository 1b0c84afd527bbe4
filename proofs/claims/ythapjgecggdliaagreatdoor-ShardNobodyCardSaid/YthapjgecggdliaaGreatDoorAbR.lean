import Derived.Test.YthapjgecggdliaaGreatDoorAbQ
namespace Go.Ab
open Go
section
variable {P : Program}

/-! ## Small facts on the plan -/
theorem prd_lt {P : Program} {ops : Array Oper} {ms : List Nat} (hp : (List.range ops.size).all (planAt P ops ms ops.size) = true) (hlen : ms.length = ops.size) : ∀ a b, prd ms a b = true → b < a := by
  intro a b h
  unfold prd at h
  rcases Nat.lt_or_ge a ops.size with ha | ha
  · have := List.all_eq_true.1 hp a (by simpa using ha)
    unfold planAt at this
    simp only [Bool.and_eq_true, Nat.blt_eq] at this
    rcases Nat.lt_or_ge b a with hb | hb
    · exact hb
    · have h2 : ms.getD a 0 < 2 ^ b := Nat.lt_of_lt_of_le this.1.1.1.1.1 (Nat.pow_le_pow_right (by omega) hb)
      rw [Nat.testBit_lt_two_pow h2] at h; cases h
  · rw [List.getD_eq_getElem?_getD, List.getElem?_eq_none (by omega)] at h
    simp at h

theorem masksGo_length : ∀ (l : List Oper) (acc : List Nat), (masksGo l acc).length = acc.length + l.length := by
  intro l
  induction l with
  | nil => intro acc; rfl
  | cons o l ih => intro acc; simp only [masksGo]; rw [ih]; simp; omega

theorem slots_succ : ∀ (l : List Oper) (vs : List Value) (T : Tree Value) (i : Nat), i < l.length → i < vs.length →
    slots (l.take (i + 1)) (vs.take (i + 1)) T = Tput (slots (l.take i) (vs.take i) T) (l.getD i default).dst (vs.getD i undef) := by
  intro l
  induction l with
  | nil => intro vs T i h; simp at h
  | cons o l ih =>
    intro vs T i h1 h2
    cases vs with
    | nil => simp at h2
    | cons v vs =>
      cases i with
      | zero => simp [slots]
      | succ i =>
        have := ih vs (Tput T o.dst v) i (by simpa using h1) (by simpa using h2)
        simpa [slots] using this

theorem Tget_put (T : Tree Value) (d : Option Tmp) (v : Value) (t : Tmp) : Tget (Tput T d v) t = if d = some t then v else Tget T t := by
  cases d with
  | none => simp [Tput]
  | some d =>
    simp only [Tput, Tget, Tree.get_set]
    by_cases e : t = d
    · subst e; simp
    · rw [if_neg e, if_neg (by simpa using fun h => e h.symm)]

/-- The slots behind the first 'q' operations. -/
theorem slots_get {l : List Oper} {vs : List Value} {T : Tree Value} (hlen : vs.length = l.length) (hdist : ∀ i j d, i < j → j < l.length → (l.getD i default).dst = some d → (l.getD j default).dst = some d → False) :
    ∀ q, q ≤ l.length → ∀ t, (∀ i, i < q → (l.getD i default).dst = some t → Tget (slots (l.take q) (vs.take q) T) t = vs.getD i undef) ∧
      ((∀ i, i < q → (l.getD i default).dst ≠ some t) → Tget (slots (l.take q) (vs.take q) T) t = Tget T t) := by
  intro q
  induction q with
  | zero => intro _ t; exact ⟨fun i hi => by omega, fun _ => by simp [slots]⟩
  | succ q ih =>
    intro hq t
    obtain ⟨i1, i2⟩ := ih (by omega) t
    rw [slots_succ l vs T q (by omega) (by omega), Tget_put]
    refine ⟨fun i hi hd => ?_, fun h => ?_⟩
    · by_cases e : i = q
      · subst e; rw [if_pos hd]
      · rw [if_neg]
        · exact i1 i (by omega) hd
        · intro h2; exact hdist i q t (by omega) (by omega) hd h2
    · rw [if_neg (h q (by omega))]
      exact i2 fun i hi => h i (by omega)

theorem Rel.rewin {B : Base} {m : Mu} {h h' : AHeap} {w : World} (hr : Rel P B m h w) (hg : ∀ b, h'.get b = h.get b) (hf : ∀ b, h'.next ≤ b → b < h'.lim → h'.get b = .dead ∧ m b = none) : Rel P B m h' w := by
  refine ⟨hr.os, hr.tape, hr.output, hr.prot, fun b hb => ?_, fun b b' l l' h1 h2 h3 => ?_, hf⟩
  · rw [hg] at hb ⊢; exact hr.obj b hb
  · rw [hg] at h1 h2 h3; exact hr.sep b b' l l' h1 h2 h3

/-! ## All that is known of a region's run -/
structure Ctx (P : Program) (enters : FuncId → FKind) (callF : CallF) (ops : Array Oper) (ms : List Nat) (base lim : Nat) (T0 : Tree Value) (h0 : AHeap) (vs : List Value) (Gs : List AHeap) (os : List (Nat × AObj)) : Prop where
  mlen : ms.length = ops.size
  vlen : vs.length = ops.size
  glen : Gs.length = ops.size
  plan : ∀ j, j < ops.size → planAt P ops ms ops.size j = true
  lt : ∀ a b, prd ms a b = true → b < a
  osIdx : ∀ x ∈ os, x.1 < ops.size
  fact : ∀ i, i < ops.size → FactAt P enters callF ops ms base (opAt ops i) i (slots (ops.toList.take i) (vs.take i) T0) (heapAt h0 Gs i) (vs.getD i undef) (heapAt h0 Gs (i + 1)) os
  todo : ∀ i, i < ops.size → clsOf P (opAt ops i) = .plain → wantedA ops (opAt ops i) (slots (ops.toList.take i) (vs.take i) T0) = true → ∀ q ∈ todoAt P ops ms i,
    opR P (rhoA (slots (ops.toList.take i) (vs.take i) T0)) (opAt ops i) (fillA (prd ms i) base os (heapAt h0 Gs q)) = some (vs.getD i undef)
  h0next : h0.next = base + ops.size
  h0lim : h0.lim = lim
  hlim : base + ops.size ≤ lim

section ctx
variable {enters : FuncId → FKind} {callF : CallF} {ops : Array Oper} {ms : List Nat} {base lim : Nat} {T0 : Tree Value} {h0 : AHeap} {vs : List Value} {Gs : List AHeap} {os : List (Nat × AObj)}

theorem opAt_toList (ops : Array Oper) (i : Nat) : ops.toList.getD i default = opAt ops i := by
  unfold opAt
  rw [List.getD_eq_getElem?_getD, Array.getD_eq_getD_getElem?]; simp

theorem Ctx.closed (C : Ctx P enters callF ops ms base lim T0 h0 vs Gs os) {j i : Nat} (hj : j < ops.size) (hi : i < ops.size) (h : prd ms j i = true) :
    ∃ e ∈ edgesOf (opAt ops j), e = i ∨ prd ms e i = true := by
  have := C.plan j hj
  unfold planAt at this
  simp only [Bool.and_eq_true] at this
  have := List.all_eq_true.1 this.1.1.1.1.2 i (by simpa using hi)
  rw [h] at this
  simp only [Bool.not_true, Bool.false_or, Bool.and_eq_true] at this
  obtain ⟨e, he, h2⟩ := List.any_eq_true.1 this.2
  refine ⟨e, he, ?_⟩
  simp only [Bool.or_eq_true, Nat.beq_eq] at h2
  exact h2
theorem Ctx.reads (C : Ctx P enters callF ops ms base lim T0 h0 vs Gs os) {j i : Nat} (hj : j < ops.size) (hi : i < ops.size) {t : Tmp} (ht : t ∈ tmpsOf (opAt ops j) ∨ ∃ g w, (opAt ops j).guard = some (g, w) ∧ (ops[g]?).bind (·.dst) = some t)
    (hd : (opAt ops i).dst = some t) : i = j ∨ prd ms j i = true ∨ prd ms i j = true := by
  have := C.plan j hj
  unfold planAt at this
  simp only [Bool.and_eq_true] at this
  have := List.all_eq_true.1 this.1.1.1.2 t (by
    rcases ht with ht | ⟨g, w, hg, hd⟩
    · exact List.mem_append.2 (.inl ht)
    · refine List.mem_append.2 (.inr ?_)
      rw [hg]; dsimp only; rw [hd]; simp)
  have := List.all_eq_true.1 this i (by simpa using hi)
  rw [hd] at this
  simpa [or_assoc] using this
theorem Ctx.guard (C : Ctx P enters callF ops ms base lim T0 h0 vs Gs os) {j g : Nat} {w : Bool} (hj : j < ops.size) (hg : (opAt ops j).guard = some (g, w)) : g < ops.size ∧ prd ms j g = true := by
  have := C.plan j hj
  unfold planAt at this
  simp only [Bool.and_eq_true] at this
  have := this.1.1.2
  rw [hg] at this
  simpa using this
theorem Ctx.dist (C : Ctx P enters callF ops ms base lim T0 h0 vs Gs os) {i j : Nat} {d : Tmp} (hij : i < j) (hj : j < ops.size) (h1 : (opAt ops i).dst = some d) (h2 : (opAt ops j).dst = some d) : False := by
  have := C.plan j hj
  unfold planAt at this
  simp only [Bool.and_eq_true] at this
  have := this.1.2
  rw [h2] at this
  dsimp only at this
  have := List.all_eq_true.1 this i (by simpa using hij)
  rw [h1] at this
  simp at this
theorem Ctx.chain (C : Ctx P enters callF ops ms base lim T0 h0 vs Gs os) {i j : Nat} (hij : i < j) (hj : j < ops.size) (h1 : isLoud P (opAt ops i) = true) (h2 : isLoud P (opAt ops j) = true) : prd ms j i = true := by
  have := C.plan j hj
  unfold planAt at this
  simp only [Bool.and_eq_true] at this
  have := this.2
  rw [h2] at this
  simp only [Bool.not_true, Bool.false_or] at this
  have := List.all_eq_true.1 this i (by simpa using hij)
  rw [h1] at this
  simpa using this

theorem isLoud_iff {o : Oper} : isLoud P o = true ↔ clsOf P o = .loud := by
  unfold isLoud
  cases clsOf P o <;> simp

/-- Only loud ones turn memory. -/
theorem Ctx.quiet (C : Ctx P enters callF ops ms base lim T0 h0 vs Gs os) {i : Nat} (hi : i < ops.size) (h : isLoud P (opAt ops i) = false) : heapAt h0 Gs (i + 1) = heapAt h0 Gs i := by
  have F := C.fact i hi
  cases hw : wantedA ops (opAt ops i) (slots (ops.toList.take i) (vs.take i) T0) with
  | false => exact (F.off hw).2.1
  | true =>
    cases hc : clsOf P (opAt ops i) with
    | plain => exact (F.plain hw hc).1
    | alloc => exact (F.alloc hw hc).1
    | loud => rw [isLoud_iff.2 hc] at h; cases h
theorem Ctx.same (C : Ctx P enters callF ops ms base lim T0 h0 vs Gs os) : ∀ (d q : Nat), q + d ≤ ops.size → (∀ l, q ≤ l → l < q + d → isLoud P (opAt ops l) = false) → heapAt h0 Gs (q + d) = heapAt h0 Gs q := by
  intro d
  induction d with
  | zero => intro q _ _; rfl
  | succ d ih =>
    intro q h1 h2
    rw [show q + (d + 1) = (q + d) + 1 by omega, C.quiet (by omega) (h2 (q + d) (by omega) (by omega))]
    exact ih q (by omega) fun l a b => h2 l a (by omega)
theorem Ctx.nx (C : Ctx P enters callF ops ms base lim T0 h0 vs Gs os) {G : Nat} (hC : CallSound P G callF) {i : Nat} (hi : i < ops.size) : Nx (fillA (prd ms i) base os (heapAt h0 Gs i)) (heapAt h0 Gs (i + 1)) ∨ heapAt h0 Gs (i + 1) = heapAt h0 Gs i := by
  have F := C.fact i hi
  cases hw : wantedA ops (opAt ops i) (slots (ops.toList.take i) (vs.take i) T0) with
  | false => exact .inr (F.off hw).2.1
  | true =>
    cases hc : clsOf P (opAt ops i) with
    | plain => exact .inr (F.plain hw hc).1
    | alloc => exact .inr (F.alloc hw hc).1
    | loud => exact .inl (stepA_next hC (F.loud hw hc).1)
theorem Ctx.osNo (C : Ctx P enters callF ops ms base lim T0 h0 vs Gs os) {x : Nat} {o : AObj} (h : objAt os x = some o) : isRo o = false := by
  have hx : x < ops.size := C.osIdx _ (objAt_mem h)
  have F := C.fact x hx
  cases hw : wantedA ops (opAt ops x) (slots (ops.toList.take x) (vs.take x) T0) with
  | false => rw [(F.off hw).2.2] at h; cases h
  | true =>
    cases hc : clsOf P (opAt ops x) with
    | plain => rw [(F.plain hw hc).2.2] at h; cases h
    | alloc =>
      obtain ⟨_, ob, e1, e2⟩ := F.alloc hw hc
      rw [e2] at h
      obtain rfl := Option.some.inj h
      exact opN_ro e1
    | loud => rw [(F.loud hw hc).2.1] at h; cases h
/-- What all these memories share. -/
theorem Ctx.heaps (C : Ctx P enters callF ops ms base lim T0 h0 vs Gs os) {G : Nat} (hC : CallSound P G callF) : ∀ q, q ≤ ops.size →
    base + ops.size ≤ (heapAt h0 Gs q).next ∧ (heapAt h0 Gs q).lim = lim ∧ ((∀ i, i < ops.size → h0.get (base + i) = .dead) → ∀ x, q ≤ x → x < ops.size → (heapAt h0 Gs q).get (base + x) = .dead) ∧ (∀ b, b < base ∨ lim ≤ b → h0.get b = .dead → (heapAt h0 Gs q).get b = .dead) ∧ (∀ b, isRo ((heapAt h0 Gs q).get b) = true → (heapAt h0 Gs q).get b = h0.get b) := by
  intro q
  induction q with
  | zero => intro _; exact ⟨by simp [heapAt, C.h0next], C.h0lim, fun hf x _ hx => hf x hx, fun _ _ h => h, fun _ _ => rfl⟩
  | succ q ih =>
    intro hq
    obtain ⟨i1, i2, i3, i4, i5⟩ := ih (by omega)
    rcases C.nx hC (i := q) (by omega) with hn | hn
    · have fn := fillA_next (sel := prd ms q) (base := base) (G := heapAt h0 Gs q) os
      have hdead : (∀ i, i < ops.size → h0.get (base + i) = .dead) → ∀ x, q + 1 ≤ x → x < ops.size → (fillA (prd ms q) base os (heapAt h0 Gs q)).get (base + x) = .dead := by
        intro hf x h1 h2
        rcases fillA_get (sel := prd ms q) (base := base) (G := heapAt h0 Gs q) os (base + x) with ⟨i, o, e1, e2, e3, _⟩ | ⟨_, e⟩
        · have := C.lt _ _ e3; omega
        · rw [e]; exact i3 hf x (by omega) h2
      refine ⟨by have := hn.1; rw [fn.1] at this; omega, by rw [hn.2.1, fn.2, i2], fun hf x h1 h2 => hn.2.2.1 _ (.inl (by rw [fn.1]; omega)) (hdead hf x h1 h2), fun b hb h => ?_, fun b hb => ?_⟩
      rotate_left
      · have e0 := hn.2.2.2 b hb
        rw [e0] at hb ⊢
        rcases fillA_get (sel := prd ms q) (base := base) (G := heapAt h0 Gs q) os b with ⟨i, o, e1, e2, e3, e4, e5⟩ | ⟨_, e⟩
        · rw [e5, C.osNo e2] at hb; cases hb
        · rw [e] at hb ⊢; exact i5 b hb
      refine hn.2.2.1 b (by rw [fn.1, fn.2, i2]; omega) ?_
      rcases fillA_get (sel := prd ms q) (base := base) (G := heapAt h0 Gs q) os b with ⟨i, o, e1, e2, e3, _⟩ | ⟨_, e⟩
      · have := C.osIdx _ (objAt_mem e2); have := C.hlim; simp only at *; omega
      · rw [e]; exact i4 b hb h
    · rw [hn]
      exact ⟨i1, i2, fun hf x h1 h2 => i3 hf x (by omega) h2, i4, i5⟩
end ctx
end
end Go.Ab
