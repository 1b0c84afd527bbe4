import Derived.Test.YthapjgecggdliaaGreatDoorAbR
namespace Go.Ab
open Go
section
variable {P : Program} {enters : FuncId → FKind} {callF : CallF} {ops : Array Oper} {ms : List Nat} {base lim : Nat} {T0 : Tree Value} {h0 : AHeap} {vs : List Value} {Gs : List AHeap} {os : List (Nat × AObj)}

/-- What holds while a region runs in whatever order: 'S' are done; the loud ones among them are those below 'q'. -/
structure Inv (P : Program) (B : Base) (G N : Nat) (ops : Array Oper) (ms : List Nat) (base lim : Nat) (T0 : Tree Value) (h0 : AHeap) (vs : List Value) (Gs : List AHeap) (os : List (Nat × AObj)) (m0 : Mu) (ds : List Deferred)
    (S : Nat → Bool) (q : Nat) (m : Mu) (H : AHeap) (a : Act) (w : World) : Prop where
  closed : ∀ j, j < ops.size → S j = true → ∀ i, i < ops.size → prd ms j i = true → S i = true
  qle : q ≤ ops.size
  qform : q = 0 ∨ ∃ l, isLoud P (opAt ops l) = true ∧ q = l + 1
  louds : ∀ l, l < ops.size → isLoud P (opAt ops l) = true → (S l = true ↔ l < q)
  tsz : a.tmps.size = N
  done : ∀ t i, i < ops.size → S i = true → (opAt ops i).dst = some t → VRel m (vs.getD i undef) (a.tmps.getD t undef)
  kept : ∀ t, (∀ i, i < ops.size → (opAt ops i).dst = some t → S i = false) → VRel m (Tget T0 t) (a.tmps.getD t undef)
  rel : Rel P B m H w
  hnext : H.next = (heapAt h0 Gs q).next
  hlim : H.lim = lim
  hget1 : ∀ i o, S i = true → objAt os i = some o → (heapAt h0 Gs q).get (base + i) = .dead → H.get (base + i) = o
  hget2 : ∀ b, (∀ i o, S i = true → objAt os i = some o → b = base + i → (heapAt h0 Gs q).get b ≠ .dead) → H.get b = (heapAt h0 Gs q).get b
  free : ∀ i, i < ops.size → S i = false → (heapAt h0 Gs q).get (base + i) = .dead ∧ m (base + i) = none
  grel : GRel G m
  le : Mu.le m0 m
  ext : ∀ b, b < base ∨ lim ≤ b → m b = m0 b
  defers : a.defers = ds

theorem Inv.notS {B : Base} {G N : Nat} {m0 : Mu} {ds : List Deferred} {S : Nat → Bool} {q : Nat} {m : Mu} {H : AHeap} {a : Act} {w : World}
    (_I : Inv P B G N ops ms base lim T0 h0 vs Gs os m0 ds S q m H a w) {i : Nat} : S i = true ∨ S i = false := by cases S i <;> simp

/-- One step. -/
theorem Inv.step {B : Base} {G N : Nat} {m0 : Mu} {ds : List Deferred} (C : Ctx P enters callF ops ms base lim T0 h0 vs Gs os) (hE : Enters P enters) (hz : ZF P) (hC : CallSound P G callF)
    (hfree : ∀ i, i < ops.size → h0.get (base + i) = .dead) (hok : ops.toList.all (opOk G N) = true) {S : Nat → Bool} {q : Nat} {m : Mu} {H : AHeap} {a : Act} {w : World}
    (I : Inv P B G N ops ms base lim T0 h0 vs Gs os m0 ds S q m H a w) {i : Nat} (hi : i < ops.size) (hS : S i = false) (hready : ∀ e ∈ edgesOf (opAt ops i), e < ops.size → S e = true)
    {K : Act → World → Prop} {Q : Exit → Act → World → Prop}
    (hK : ∀ q' m' H' a' w', Inv P B G N ops ms base lim T0 h0 vs Gs os m0 ds (fun x => if x = i then true else S x) q' m' H' a' w' → K a' w') : wpOp P ops Q i K a w := by
  have hdstN := dst_of_ok hok
  have hops : ops[i]? = some (opAt ops i) := by unfold opAt; rw [Array.getD_eq_getD_getElem?, Array.getElem?_eq_getElem hi]; rfl
  -- all that must be done is done
  have hpre : ∀ x, x < ops.size → prd ms i x = true → S x = true := by
    intro x hx h
    obtain ⟨e, he, h2⟩ := C.closed hi hx h
    rcases h2 with rfl | h2
    · exact hready e he hx
    · have hlt := C.lt _ _ h2
      have hel : e < ops.size := by
        rcases Nat.lt_or_ge e ops.size with c | c
        · exact c
        · exfalso
          have hm : prd ms e x = false := by
            have := C.lt
            cases hb : prd ms e x with
            | false => rfl
            | true =>
              unfold prd at hb
              rw [List.getD_eq_getElem?_getD, List.getElem?_eq_none (by rw [C.mlen]; exact c)] at hb
              simp at hb
          rw [hm] at h2; cases h2
      exact I.closed e hel (hready e he hel) x hx h2
  have hTi := slots_get (T := T0) (l := ops.toList) (vs := vs) (by simp [C.vlen]) (fun x y d h1 h2 h3 h4 => C.dist h1 (by simpa using h2) (by rw [opAt_toList] at h3; exact h3) (by rw [opAt_toList] at h4; exact h4)) i (by simpa using Nat.le_of_lt hi)
  let Ti := slots (ops.toList.take i) (vs.take i) T0
  -- the operands' slots
  have hslot : ∀ t, (t ∈ tmpsOf (opAt ops i) ∨ ∃ g w, (opAt ops i).guard = some (g, w) ∧ (ops[g]?).bind (·.dst) = some t) → VRel m (Tget Ti t) (a.tmps.getD t undef) := by
    intro t ht
    by_cases c : ∃ x, x < i ∧ (opAt ops x).dst = some t
    · obtain ⟨x, hx, hd⟩ := c
      have e := (hTi t).1 x hx (by rw [opAt_toList]; exact hd)
      show VRel m (Tget Ti t) _
      rw [show Tget Ti t = vs.getD x undef from e]
      refine I.done t x (by omega) ?_ hd
      rcases C.reads hi (by omega) ht hd with h | h | h
      · omega
      · exact hpre x (by omega) h
      · have := C.lt _ _ h; omega
    · have e := (hTi t).2 (fun x hx hd => c ⟨x, hx, by rw [opAt_toList] at hd; exact hd⟩)
      rw [show Tget Ti t = Tget T0 t from e]
      refine I.kept t fun x hx hd => ?_
      rcases C.reads hi hx ht hd with h | h | h
      · rw [h]; exact hS
      · have := C.lt _ _ h; exact absurd ⟨x, this, hd⟩ c
      · rcases I.notS (i := x) with h2 | h2
        · rw [I.closed x hx h2 i hi h] at hS; cases hS
        · exact h2
  have hopk : opOk G N (opAt ops i) = true := List.all_eq_true.1 hok _ (Array.mem_toList_iff.2 (Array.mem_of_getElem? hops))
  have hopnd : ∀ x ∈ (opAt ops i).op.operands.toList, VRel m (rhoA Ti x) (a.eval x) := by
    intro x hx
    have hxo : opndOk G x = true := by
      unfold opOk at hopk
      simp only [Bool.and_eq_true] at hopk
      exact List.all_eq_true.1 hopk.1 x hx
    cases x with
    | tmp t => exact hslot t (.inl (List.mem_filterMap.2 ⟨.tmp t, hx, rfl⟩))
    | const v => exact vflat_rel m 8 v hxo
    | global g =>
      obtain ⟨l, h1, h2, h3⟩ := I.grel g (by simpa [opndOk] using hxo)
      have := VRel.ptr (m := m) g 0 l h1
      rw [h2, h3] at this
      exact this
    | func f => exact .func _ _ _ _ _ rfl (fun i h => by simp at h) rfl (fun i h => by simp at h)
  have hw : Region.wanted (opAt ops i) (yielded ops a.tmps) = wantedA ops (opAt ops i) Ti :=
    wanted_eq' I.tsz ops (opAt ops i) fun g wnt d hg hd => ⟨hdstN g d hd, hslot d (.inr ⟨g, wnt, hg, hd⟩)⟩
  have F := C.fact i hi
  -- from the step's outcome to the goal
  have fin : ∀ (K0 K' : AHeap) (v : Value), v = vs.getD i undef → stepA P enters callF ops (opAt ops i) Ti K0 = some (v, K') →
      Rel P (B.hide m H K0 w) m K0 w →
      (∀ m' v' w', Ext K0 m m' → Rel P (B.hide m H K0 w) m' K' w' → VRel m' v v' → K (a.put (opAt ops i).dst v') w') → wpOp P ops Q i K a w := by
    intro K0 K' v _ hst hrel hk
    have := stepA_sound' (B := B.hide m H K0 w) (Q := Q) hE hz hC hst hrel I.grel hopnd hw hk
    unfold wpOp
    rw [hops]
    dsimp only
    split
    · rename_i h1; rw [if_pos h1] at this; exact .inl this
    · rename_i h1; rw [if_neg h1] at this; exact this
  -- the slots behind the step
  have tm1 : ∀ m' v', Mu.le m m' → VRel m' (vs.getD i undef) v' → ∀ t x, x < ops.size → (if x = i then true else S x) = true → (opAt ops x).dst = some t → VRel m' (vs.getD x undef) ((a.put (opAt ops i).dst v').tmps.getD t undef) := by
    intro m' v' hle hv t x hx hSx hd
    by_cases e : x = i
    · subst e
      rw [hd]
      have hdn := hdstN x t (by rw [hops]; exact hd)
      simp only [Act.put, Array.getD_eq_getD_getElem?, Array.getElem?_setIfInBounds]
      rw [if_pos trivial, if_pos (by rw [I.tsz]; exact hdn)]
      exact hv
    · rw [if_neg e] at hSx
      have h1 := (I.done t x hx hSx hd).mono hle
      have hne : (opAt ops i).dst ≠ some t := by
        intro h2
        rcases Nat.lt_or_gt_of_ne e with h3 | h3
        · exact C.dist h3 hi hd h2
        · exact C.dist h3 hx h2 hd
      cases hdd : (opAt ops i).dst with
      | none => exact h1
      | some d =>
        simp only [Act.put, Array.getD_eq_getD_getElem?, Array.getElem?_setIfInBounds] at h1 ⊢
        rw [if_neg (fun h => hne (by rw [hdd, h]))]
        exact h1
  have tm2 : ∀ m' v', Mu.le m m' → ∀ t, (∀ x, x < ops.size → (opAt ops x).dst = some t → (if x = i then true else S x) = false) → VRel m' (Tget T0 t) ((a.put (opAt ops i).dst v').tmps.getD t undef) := by
    intro m' v' hle t h
    have hne : (opAt ops i).dst ≠ some t := by
      intro h2
      have := h i hi h2
      simp at this
    have h1 := (I.kept t fun x hx hd => by
      have := h x hx hd
      split at this
      · cases this
      · exact this).mono hle
    cases hdd : (opAt ops i).dst with
    | none => exact h1
    | some d =>
      simp only [Act.put, Array.getD_eq_getD_getElem?, Array.getElem?_setIfInBounds] at h1 ⊢
      rw [if_neg (fun h => hne (by rw [hdd, h]))]
      exact h1
  have tsz' : ∀ v', (a.put (opAt ops i).dst v').tmps.size = N := by
    intro v'
    cases (opAt ops i).dst with
    | none => exact I.tsz
    | some d => simp [Act.put, I.tsz]
  have def' : ∀ v', (a.put (opAt ops i).dst v').defers = ds := by
    intro v'
    cases (opAt ops i).dst with
    | none => exact I.defers
    | some d => exact I.defers
  have closed' : ∀ j, j < ops.size → (if j = i then true else S j) = true → ∀ x, x < ops.size → prd ms j x = true → (if x = i then true else S x) = true := by
    intro j hj hSj x hx h
    by_cases e : x = i
    · rw [if_pos e]
    · rw [if_neg e]
      by_cases e2 : j = i
      · subst e2; exact hpre x hx h
      · rw [if_neg e2] at hSj; exact I.closed j hj hSj x hx h
  obtain ⟨hh1, hh2, hh3', hh4, _⟩ := C.heaps hC q I.qle
  have hh3 := hh3' hfree
  -- the memory at which it is reckoned
  let Kp := fillA (prd ms i) base os (heapAt h0 Gs q)
  have hKp : ∀ b, Kp.get b ≠ .dead → Kp.get b = H.get b := by
    intro b hb
    rcases fillA_get (sel := prd ms i) (base := base) (G := heapAt h0 Gs q) os b with ⟨x, o, e1, e2, e3, e4, e5⟩ | ⟨e1, e2⟩
    · show Kp.get b = _
      rw [show Kp.get b = o from e5]
      subst e1
      exact (I.hget1 x o (hpre x (C.osIdx _ (objAt_mem e2)) e3) e2 e4).symm
    · have hb2 : (heapAt h0 Gs q).get b ≠ .dead := by rw [← e2]; exact hb
      rw [show Kp.get b = (heapAt h0 Gs q).get b from e2, I.hget2 b fun _ _ _ _ _ => hb2]
  have hKpn : Kp.next = H.next ∧ Kp.lim = lim := by
    have := fillA_next (sel := prd ms i) (base := base) (G := heapAt h0 Gs q) os
    exact ⟨this.1.trans I.hnext.symm, this.2.trans hh2⟩
  have hKdead : ∀ b, H.get b = .dead → Kp.get b = .dead := by
    intro b hb
    cases hd : isDead (Kp.get b) with
    | true => exact isDead_iff.1 hd
    | false =>
      have : Kp.get b ≠ .dead := fun h => by rw [isDead_iff.2 h] at hd; cases hd
      rw [hKp b this] at this
      exact absurd hb this
  have hKp0 : ∀ b, Kp.get b = .dead → (heapAt h0 Gs q).get b = .dead := by
    intro b hb
    rcases fillA_get (sel := prd ms i) (base := base) (G := heapAt h0 Gs q) os b with ⟨x, o, e1, e2, e3, e4, e5⟩ | ⟨e1, e2⟩
    · exact e4
    · rw [← e2]; exact hb
  have hRelK : Rel P (B.hide m H Kp w) m Kp w := I.rel.hide hKp fun b h1 h2 => by
    have := I.rel.fresh b (by rw [← hKpn.1]; exact h1) (by rw [I.hlim, ← hKpn.2]; exact h2)
    exact ⟨hKdead b this.1, this.2⟩
  have hnotS : ∀ x, x < ops.size → (if x = i then true else S x) = false → S x = false := by
    intro x _ h
    split at h
    · cases h
    · exact h
  -- where nothing is turned
  have still : ∀ (hheap : heapAt h0 Gs (i + 1) = heapAt h0 Gs i) (hno : objAt os i = none), stepA P enters callF ops (opAt ops i) Ti Kp = some (vs.getD i undef, Kp) → wpOp P ops Q i K a w := by
    intro hheap hno hst
    refine fin Kp Kp _ rfl hst hRelK fun m' v' w' c1 c2 c3 => ?_
    have hnew : ∃ q', (q' = q ∨ (q' = i + 1 ∧ isLoud P (opAt ops i) = true)) ∧ heapAt h0 Gs q' = heapAt h0 Gs q ∧ ∀ l, l < ops.size → isLoud P (opAt ops l) = true → ((if l = i then true else S l) = true ↔ l < q') := by
      cases hl : isLoud P (opAt ops i) with
      | false =>
        refine ⟨q, .inl rfl, rfl, fun l hl1 hl2 => ?_⟩
        rw [if_neg (by rintro rfl; rw [hl] at hl2; cases hl2)]
        exact I.louds l hl1 hl2
      | true =>
        have hqi : q ≤ i := by
          rcases Nat.lt_or_ge i q with c | c
          · rw [(I.louds i hi hl).2 c] at hS; cases hS
          · exact c
        have hbet : ∀ l, q ≤ l → l < i → isLoud P (opAt ops l) = false := by
          intro l h1 h2
          cases hll : isLoud P (opAt ops l) with
          | false => rfl
          | true =>
            have := hpre l (by omega) (C.chain h2 hi hll hl)
            have := (I.louds l (by omega) hll).1 this
            omega
        have hs := C.same (i - q) q (by omega) (fun l h1 h2 => hbet l h1 (by omega))
        rw [show q + (i - q) = i by omega] at hs
        refine ⟨i + 1, .inr ⟨rfl, rfl⟩, hheap.trans hs, fun l hl1 hl2 => ?_⟩
        by_cases e : l = i
        · subst e; simp
        · rw [if_neg e, I.louds l hl1 hl2]
          constructor
          · intro h; omega
          · intro h
            rcases Nat.lt_or_ge l q with c | c
            · exact c
            · rw [hbet l c (by omega)] at hl2; cases hl2
    obtain ⟨q', hq1, hq2, hq3⟩ := hnew
    refine hK q' m' H _ w' ⟨closed', ?_, ?_, hq3, tsz' v', tm1 m' v' c1.1 c3, tm2 m' v' c1.1, ?_, ?_, I.hlim, ?_, ?_, ?_, I.grel.mono c1.1, Mu.le_trans I.le c1.1, ?_, def' v'⟩
    · rcases hq1 with rfl | ⟨rfl, _⟩
      · exact I.qle
      · omega
    · rcases hq1 with rfl | ⟨rfl, h⟩
      · exact I.qform
      · exact .inr ⟨i, h, rfl⟩
    · refine I.rel.reveal c2 c1.1 hKp (fun b _ => rfl) (fun b _ => rfl) (fun b hb => ?_) fun b h1 h2 => ?_
      · by_cases e : Kp.get b = .dead
        · rw [e]
          cases hd : isDead (H.get b) with
          | true => exact isDead_iff.1 hd
          | false => exact absurd ⟨(fun h => (by rw [isDead_iff.2 h] at hd; cases hd)), e⟩ hb
        · exact (hKp b e).symm
      · have f := I.rel.fresh b h1 h2
        have f2 := c2.fresh b (by rw [hKpn.1]; exact h1) (by rw [hKpn.2, ← I.hlim]; exact h2)
        exact ⟨f.1, f2.2⟩
    · rw [hq2]; exact I.hnext
    · intro x o hx ho hd
      rw [hq2] at hd
      split at hx
      · rename_i e; subst e; rw [hno] at ho; cases ho
      · exact I.hget1 x o hx ho hd
    · intro b hb
      rw [hq2]
      refine I.hget2 b fun x o hx ho e => ?_
      have := hb x o (by split <;> simp_all) ho e
      rw [hq2] at this; exact this
    · intro x hx hxS
      have hsx := hnotS x hx hxS
      obtain ⟨f1, f2⟩ := I.free x hx hsx
      rw [hq2]
      refine ⟨f1, ?_⟩
      rw [c1.2 (base + x) (.inl (by rw [hKpn.1, I.hnext]; omega))]
      exact f2
    · intro b hb
      rw [c1.2 b (by rcases hb with hb | hb; (left; rw [hKpn.1, I.hnext]; omega); (right; rw [hKpn.2]; exact hb))]
      exact I.ext b hb
  cases hwa : wantedA ops (opAt ops i) Ti with
  | false =>
    obtain ⟨e1, e2, e3⟩ := F.off hwa
    refine still e2 e3 ?_
    unfold stepA
    rw [hwa]
    dsimp only
    rw [e1]
  | true =>
    cases hcls : clsOf P (opAt ops i) with
    | plain =>
      obtain ⟨e1, e2, e3⟩ := F.plain hwa hcls
      refine still e1 e3 ?_
      have hopr : opR P (rhoA Ti) (opAt ops i) Kp = some (vs.getD i undef) := by
        by_cases hsq : sameQ P ops i q = true
        · unfold sameQ at hsq
          simp only [Bool.and_eq_true, Nat.ble_eq] at hsq
          have hs := C.same (i - q) q (by omega) (fun l h1 h2 => by
            cases hll : isLoud P (opAt ops l) with
            | false => rfl
            | true =>
              have := List.all_eq_true.1 hsq.2 l (List.mem_filter.2 ⟨by simp; omega, hll⟩)
              simp at this
              rcases this with h3 | h3
              · have h3' : ¬ q ≤ l := by
                  intro h4; rw [show Nat.ble q l = true from by simpa using h4] at h3; cases h3
                omega
              · have h3' : ¬ l < i := by
                  intro h4; rw [show Nat.blt l i = true from by simpa using h4] at h3; cases h3
                omega)
          rw [show q + (i - q) = i by omega] at hs
          show opR P (rhoA Ti) (opAt ops i) (fillA (prd ms i) base os (heapAt h0 Gs q)) = _
          rw [← hs]; exact e2
        · refine C.todo i hi hcls hwa q (List.mem_filter.2 ⟨?_, ?_⟩)
          · rcases I.qform with h | ⟨l, h1, h2⟩
            · rw [h]; simp
            · refine List.mem_cons_of_mem _ (List.mem_map.2 ⟨l, List.mem_filter.2 ⟨by have := I.qle; simp; omega, h1⟩, h2.symm⟩)
          · simp only [Bool.and_eq_true, Bool.not_eq_true']
            refine ⟨?_, by simpa using hsq⟩
            unfold compat
            refine List.all_eq_true.2 fun l hl => ?_
            have hl := List.mem_filter.1 hl
            have hln : l < ops.size := by simpa using hl.1
            simp only [Bool.and_eq_true, Bool.or_eq_true, Bool.not_eq_true', Nat.blt_eq]
            refine ⟨?_, ?_⟩
            · cases hp : prd ms i l with
              | false => exact .inl rfl
              | true => exact .inr ((I.louds l hln hl.2).1 (hpre l hln hp))
            · cases hp : Nat.blt l q with
              | false => exact .inl rfl
              | true =>
                right
                have hSl := (I.louds l hln hl.2).2 (by simpa using hp)
                cases hp2 : prd ms l i with
                | false => rfl
                | true => rw [I.closed l hln hSl i hi hp2] at hS; cases hS
      unfold stepA
      rw [hwa]
      dsimp only
      rw [opR_opA hopr]
    | alloc =>
      obtain ⟨e1, ob, e2, e3⟩ := F.alloc hwa hcls
      obtain ⟨f1, f2⟩ := I.free i hi hS
      have hnl : isLoud P (opAt ops i) = false := by unfold isLoud; rw [hcls]
      have hKi : Kp.get (base + i) = .dead := by
        rcases fillA_get (sel := prd ms i) (base := base) (G := heapAt h0 Gs q) os (base + i) with ⟨x, o, g1, g2, g3, _⟩ | ⟨_, g2⟩
        · have := C.lt _ _ g3; omega
        · rw [show Kp.get (base + i) = _ from g2]; exact f1
      have hHi : H.get (base + i) = .dead := by
        rw [I.hget2 (base + i) fun x o hx _ e => by
          have : x = i := by omega
          rw [this, hS] at hx; cases hx]
        exact f1
      let Kw : AHeap := { Kp with next := base + i, lim := base + i + 1 }
      have hKw : ∀ b, Kw.get b = Kp.get b := fun _ => rfl
      have hRelW : Rel P (B.hide m H Kw w) m Kw w := I.rel.hide (fun b hb => by rw [hKw] at hb ⊢; exact hKp b hb) fun b h1 h2 => by
        have h1' : base + i ≤ b := h1
        have h2' : b < base + i + 1 := h2
        obtain rfl : b = base + i := by omega
        exact ⟨hKi, f2⟩
      have hst : stepA P enters callF ops (opAt ops i) Ti Kw = some (vs.getD i undef, Kw.push ob) := by
        unfold stepA
        rw [hwa]
        dsimp only
        rw [opN_opA (h := Kw) e2 (Nat.lt_succ_self _)]
      have hpg : ∀ b, (Kw.push ob).get b = if b = base + i then ob else Kp.get b := fun b => AHeap.get_push Kw b ob
      refine fin Kw (Kw.push ob) _ rfl hst hRelW fun m' v' w' c1 c2 c3 => ?_
      have hout : ∀ b, b ≠ base + i → m' b = m b := fun b hb => c1.2 b (by
        show b < base + i ∨ base + i + 1 ≤ b
        omega)
      have hHput : ∀ b, (H.put (base + i) ob).get b = if b = base + i then ob else H.get b := fun b => AHeap.get_put H _ b ob
      refine hK q m' (H.put (base + i) ob) _ w' ⟨closed', I.qle, I.qform, ?_, tsz' v', tm1 m' v' c1.1 c3, tm2 m' v' c1.1, ?_, I.hnext, I.hlim, ?_, ?_, ?_, I.grel.mono c1.1, Mu.le_trans I.le c1.1, ?_, def' v'⟩
      · intro l hl1 hl2
        rw [if_neg (by rintro rfl; rw [hnl] at hl2; cases hl2)]
        exact I.louds l hl1 hl2
      · refine I.rel.reveal c2 c1.1 hKp (fun b hb => (stepA_next hC hst).2.2.2 b hb) (fun b hb => ?_) (fun b hb => ?_) fun b h1 h2 => ?_
        · rw [hHput, if_neg (by rintro rfl; exact hb.1 hHi)]
        · rw [hHput, hpg]
          by_cases e : b = base + i
          · rw [if_pos e, if_pos e]
          · rw [if_neg e, if_neg e]
            by_cases e4 : Kp.get b = .dead
            · rw [e4]
              cases hd : isDead (H.get b) with
              | true => exact isDead_iff.1 hd
              | false => exact absurd ⟨(fun h => (by rw [isDead_iff.2 h] at hd; cases hd)), e4⟩ hb
            · exact (hKp b e4).symm
        · have h1' : H.next ≤ b := h1
          have h2' : b < H.lim := h2
          have hne : b ≠ base + i := by rw [I.hnext] at h1'; omega
          have f := I.rel.fresh b h1' h2'
          rw [hHput, if_neg hne, hout b hne]
          exact f
      · intro x o hx ho hd
        rw [hHput]
        split at hx
        · rename_i e; subst e; rw [e3] at ho; cases ho; rw [if_pos rfl]
        · rename_i e
          rw [if_neg (by omega)]
          exact I.hget1 x o hx ho hd
      · intro b hb
        rw [hHput, if_neg]
        · refine I.hget2 b fun x o hx ho e => hb x o (by split <;> simp_all) ho e
        · rintro rfl
          exact hb i ob (by simp) e3 rfl f1
      · intro x hx hxS
        have hsx := hnotS x hx hxS
        obtain ⟨g1, g2⟩ := I.free x hx hsx
        refine ⟨g1, ?_⟩
        rw [hout (base + x) (by
          intro h
          have : x = i := by omega
          subst this
          simp at hxS)]
        exact g2
      · intro b hb
        have := C.hlim
        rw [hout b (by omega)]
        exact I.ext b hb
    | loud =>
      obtain ⟨e1, e2, e3⟩ := F.loud hwa hcls
      have hl : isLoud P (opAt ops i) = true := isLoud_iff.2 hcls
      have hqi : q ≤ i := by
        rcases Nat.lt_or_ge i q with c | c
        · rw [(I.louds i hi hl).2 c] at hS; cases hS
        · exact c
      have hbet : ∀ l, q ≤ l → l < i → isLoud P (opAt ops l) = false := by
        intro l h1 h2
        cases hll : isLoud P (opAt ops l) with
        | false => rfl
        | true =>
          have := hpre l (by omega) (C.chain h2 hi hll hl)
          have := (I.louds l (by omega) hll).1 this
          omega
      have hs := C.same (i - q) q (by omega) (fun l h1 h2 => hbet l h1 (by omega))
      rw [show q + (i - q) = i by omega] at hs
      rw [hs] at e1 e3
      have hnx : Nx Kp (heapAt h0 Gs (i + 1)) := stepA_next hC e1
      refine fin Kp (heapAt h0 Gs (i + 1)) _ rfl e1 hRelK fun m' v' w' c1 c2 c3 => ?_
      let G1 := heapAt h0 Gs (i + 1)
      let H' := fillA S base os G1
      have hH'n := fillA_next (sel := S) (base := base) (G := G1) os
      have hKx : ∀ x, i ≤ x → x < ops.size → Kp.get (base + x) = .dead := by
        intro x h1 h2
        rcases fillA_get (sel := prd ms i) (base := base) (G := heapAt h0 Gs q) os (base + x) with ⟨y, o, g1, g2, g3, _⟩ | ⟨_, g2⟩
        · have := C.lt _ _ g3; omega
        · rw [show Kp.get (base + x) = _ from g2]; exact hh3 x (by omega) h2
      refine hK (i + 1) m' H' _ w' ⟨closed', by omega, .inr ⟨i, hl, rfl⟩, ?_, tsz' v', tm1 m' v' c1.1 c3, tm2 m' v' c1.1, ?_, hH'n.1, ?_, ?_, ?_, ?_, I.grel.mono c1.1, Mu.le_trans I.le c1.1, ?_, def' v'⟩
      · intro l hl1 hl2
        by_cases e : l = i
        · subst e; simp
        · rw [if_neg e, I.louds l hl1 hl2]
          constructor
          · intro h; omega
          · intro h
            rcases Nat.lt_or_ge l q with c | c
            · exact c
            · rw [hbet l c (by omega)] at hl2; cases hl2
      · refine I.rel.reveal c2 c1.1 hKp (fun b hb => hnx.2.2.2 b hb) (fun b hb => ?_) (fun b hb => ?_) fun b h1 h2 => ?_
        · -- hidden: it was made, and is not known to the loud one
          have hq0 := hKp0 b hb.2
          have hex : ∃ x o, S x = true ∧ objAt os x = some o ∧ b = base + x := by
            refine Classical.byContradiction fun hno => hb.1 ?_
            rw [I.hget2 b fun x o h1 h2 h3 => absurd ⟨x, o, h1, h2, h3⟩ hno]
            exact hq0
          obtain ⟨x, o, g1, g2, rfl⟩ := hex
          have hxn : x < ops.size := C.osIdx _ (objAt_mem g2)
          have hG1 : G1.get (base + x) = .dead := hnx.2.2.1 _ (.inl (by rw [hKpn.1, I.hnext]; omega)) hb.2
          rw [I.hget1 x o g1 g2 hq0]
          rcases fillA_get (sel := S) (base := base) (G := G1) os (base + x) with ⟨y, o2, k1, k2, k3, k4, k5⟩ | ⟨k1, _⟩
          · obtain rfl : x = y := by omega
            rw [g2] at k2; cases k2
            exact k5
          · exact absurd hG1 (k1 x o rfl g2 g1)
        · rcases fillA_get (sel := S) (base := base) (G := G1) os b with ⟨x, o, k1, k2, k3, k4, k5⟩ | ⟨_, k2⟩
          · subst k1
            have hxn : x < ops.size := C.osIdx _ (objAt_mem k2)
            show H'.get _ = G1.get _
            rw [show H'.get (base + x) = o from k5, k4]
            by_cases e : Kp.get (base + x) = .dead
            · have hd : H.get (base + x) = .dead := by
                cases hd : isDead (H.get (base + x)) with
                | true => exact isDead_iff.1 hd
                | false => exact absurd ⟨(fun h => (by rw [isDead_iff.2 h] at hd; cases hd)), e⟩ hb
              rw [← I.hget1 x o k3 k2 (hKp0 _ e)]; exact hd
            · exfalso
              rcases Nat.lt_or_ge x i with c | c
              · exact e3 x o c k2 e k4
              · exact e (hKx x c hxn)
          · exact k2
        · have f := c2.fresh b (by rw [← hH'n.1]; exact h1) (by rw [← hH'n.2]; exact h2)
          refine ⟨?_, f.2⟩
          rcases fillA_get (sel := S) (base := base) (G := G1) os b with ⟨x, o, k1, k2, k3, k4, k5⟩ | ⟨_, k2⟩
          · exfalso
            have hxn : x < ops.size := C.osIdx _ (objAt_mem k2)
            have hn1 := hnx.1
            have h1' : G1.next ≤ b := by rw [← hH'n.1]; exact h1
            have : Kp.next ≤ b := Nat.le_trans hn1 h1'
            rw [hKpn.1, I.hnext] at this
            omega
          · rw [show H'.get b = _ from k2]; exact f.1
      · rw [hH'n.2, hnx.2.1, hKpn.2]
      · intro x o hx ho hd
        split at hx
        · rename_i e; subst e; rw [e2] at ho; cases ho
        · rcases fillA_get (sel := S) (base := base) (G := G1) os (base + x) with ⟨y, o2, k1, k2, k3, k4, k5⟩ | ⟨k1, _⟩
          · obtain rfl : x = y := by omega
            rw [ho] at k2; cases k2
            exact k5
          · exact absurd hd (k1 x o rfl ho hx)
      · intro b hb
        rcases fillA_get (sel := S) (base := base) (G := G1) os b with ⟨x, o, k1, k2, k3, k4, k5⟩ | ⟨_, k2⟩
        · exact absurd k4 (hb x o (by split <;> simp_all) k2 k1)
        · exact k2
      · intro x hx hxS
        have hsx := hnotS x hx hxS
        obtain ⟨f1, f2⟩ := I.free x hx hsx
        have hKd : Kp.get (base + x) = .dead := by
          rcases fillA_get (sel := prd ms i) (base := base) (G := heapAt h0 Gs q) os (base + x) with ⟨y, o, g1, g2, g3, _⟩ | ⟨_, g2⟩
          · obtain rfl : x = y := by omega
            rw [hpre x hx g3] at hsx; cases hsx
          · rw [show Kp.get (base + x) = _ from g2]; exact f1
        refine ⟨hnx.2.2.1 _ (.inl (by rw [hKpn.1, I.hnext]; omega)) hKd, ?_⟩
        rw [c1.2 (base + x) (.inl (by rw [hKpn.1, I.hnext]; omega))]
        exact f2
      · intro b hb
        rw [c1.2 b (by rcases hb with hb | hb; (left; rw [hKpn.1, I.hnext]; omega); (right; rw [hKpn.2]; exact hb))]
        exact I.ext b hb
end
end Go.Ab
