import Derived.Test.YthapjgecggdliaaGreatDoorAbS
namespace Go.Ab
open Go
section
variable {P : Program}

theorem checkGo_spec {ops : Array Oper} {ms : List Nat} {base : Nat} {h0 : AHeap} {Gs : List AHeap} {os : List (Nat × AObj)} :
    ∀ (l : List Oper) (vs : List Value) (j : Nat) (T : Tree Value), checkGo P ops ms base h0 Gs os l vs j T = true → vs.length = l.length →
    ∀ i, i < l.length → clsOf P (l.getD i default) = .plain → wantedA ops (l.getD i default) (slots (l.take i) (vs.take i) T) = true → ∀ q ∈ todoAt P ops ms (j + i),
      opR P (rhoA (slots (l.take i) (vs.take i) T)) (l.getD i default) (fillA (prd ms (j + i)) base os (heapAt h0 Gs q)) = some (vs.getD i undef) := by
  intro l
  induction l with
  | nil => intro vs j T _ _ i hi; simp at hi
  | cons o l ih =>
    intro vs j T h hl i hi hc hw q hq
    cases vs with
    | nil => simp at hl
    | cons v vs =>
      simp only [checkGo, Bool.and_eq_true] at h
      cases i with
      | zero =>
        have h1 := h.1
        simp only [List.getD_cons_zero] at hc
        simp only [List.take_zero, slots, List.getD_cons_zero] at hw ⊢
        rw [hc, hw] at h1
        dsimp only at h1
        have h2 := List.all_eq_true.1 h1 q hq
        simp only [Nat.add_zero] at h2 ⊢
        split at h2
        · rename_i v' hv'
          rw [hv', veq_eq 8 v' v h2]
        · cases h2
      | succ i =>
        have := ih vs (j + 1) (Tput T o.dst v) h.2 (by simpa using hl) i (by simpa using hi) (by simpa using hc) (by simpa [slots] using hw) q (by rw [show j + 1 + i = j + (i + 1) by omega]; exact hq)
        rw [show j + 1 + i = j + (i + 1) by omega] at this
        simpa [slots] using this

theorem order_progress {md : Region.Mode} {ops : Array Oper} {listed : Array Bool} (hsz : listed.size = ops.size) : ∀ (l seen : List Nat), orderGo md ops l seen = true → (∀ x ∈ seen, listed.getD x false = true) →
    (∀ x ∈ l, x < ops.size) → (∃ x ∈ l, listed.getD x false = false) → ∃ i, i ∈ Region.ready md ops listed := by
  intro l
  induction l with
  | nil => intro seen _ _ _ h; obtain ⟨x, hx, _⟩ := h; simp at hx
  | cons i l ih =>
    intro seen h hs hl hex
    simp only [orderGo, Bool.and_eq_true] at h
    have hi := hl i (by simp)
    cases hb : listed.getD i false with
    | true =>
      refine ih (i :: seen) h.2 (fun x hx => ?_) (fun x hx => hl x (by simp [hx])) ?_
      · rcases List.mem_cons.1 hx with rfl | hx
        · exact hb
        · exact hs x hx
      · obtain ⟨x, hx, hf⟩ := hex
        rcases List.mem_cons.1 hx with rfl | hx
        · rw [hb] at hf; cases hf
        · exact ⟨x, hx, hf⟩
    | false =>
      refine ⟨i, mem_ready.2 ⟨?_, ops[i]'hi, Array.getElem?_eq_getElem hi, fun e he hbi => ?_⟩⟩
      · rw [← hb]
        simp [Array.getD_eq_getD_getElem?, Array.getElem?_eq_getElem (show i < listed.size by omega)]
      · have h1 := h.1
        unfold boundIn at h1
        have hop : opAt ops i = ops[i]'hi := by unfold opAt; rw [Array.getD_eq_getD_getElem?, Array.getElem?_eq_getElem hi]; rfl
        rw [hop] at h1
        have h2 := List.all_eq_true.1 h1 e (Array.mem_toList_iff.2 he)
        rw [hbi] at h2
        simp only [Bool.not_true, Bool.false_or] at h2
        obtain ⟨x, hx, hxe⟩ := List.any_eq_true.1 h2
        rw [Nat.beq_eq] at hxe
        rw [hxe]; exact hs x hx

theorem natGo_at {md : Region.Mode} : ∀ (l : List Oper) (j : Nat), natGo md l j = true → ∀ i, i < l.length → ((l.getD i default).after.toList.all fun e => !Region.binds md e || Nat.blt e.on (j + i)) = true := by
  intro l
  induction l with
  | nil => intro j _ i hi; simp at hi
  | cons o l ih =>
    intro j h i hi
    simp only [natGo, Bool.and_eq_true] at h
    cases i with
    | zero => exact h.1
    | succ i =>
      have := ih (j + 1) h.2 i (by simpa using hi)
      rw [show j + (i + 1) = j + 1 + i by omega]
      exact this
theorem natGo_order {md : Region.Mode} {ops : Array Oper} (h : natGo md ops.toList 0 = true) : ∀ (k j : Nat) (seen : List Nat), (∀ x, x < j → x ∈ seen) → j + k ≤ ops.size → orderGo md ops (List.range' j k) seen = true := by
  intro k
  induction k with
  | zero => intro j seen _ _; rfl
  | succ k ih =>
    intro j seen hs hj
    simp only [List.range'_succ, orderGo, Bool.and_eq_true]
    refine ⟨?_, ih (j + 1) (j :: seen) (fun x hx => ?_) (by omega)⟩
    · have := natGo_at _ 0 h j (by simp; omega)
      rw [opAt_toList] at this
      unfold boundIn
      refine List.all_eq_true.2 fun e he => ?_
      have h1 := List.all_eq_true.1 this e he
      simp only [Bool.or_eq_true, Nat.blt_eq] at h1 ⊢
      rcases h1 with h1 | h1
      · exact .inl h1
      · exact .inr (List.any_eq_true.2 ⟨e.on, hs _ (by omega), by simp⟩)
    · by_cases c : x = j
      · rw [c]; simp
      · exact List.mem_cons_of_mem _ (hs x (by omega))
theorem orderOk_list {md : Region.Mode} {ops : Array Oper} (h : orderOk md ops = true) : ∃ l, orderGo md ops l [] = true ∧ (∀ x, x < ops.size → x ∈ l) ∧ ∀ z ∈ l, z < ops.size := by
  unfold orderOk at h
  rw [Bool.or_eq_true] at h
  rcases h with h | h
  · refine ⟨List.range' 0 ops.size, natGo_order h ops.size 0 [] (fun x hx => by omega) (by omega), fun x hx => ?_, fun z hz => ?_⟩
    · simp [List.mem_range']; omega
    · simp [List.mem_range'] at hz; omega
  · simp only [Bool.and_eq_true] at h
    refine ⟨_, h.1.1, fun x hx => ?_, fun z hz => by simpa using List.all_eq_true.1 h.2 z hz⟩
    obtain ⟨y, hy, hxy⟩ := List.any_eq_true.1 (List.all_eq_true.1 h.1.2 x (by simpa using hx))
    rw [Nat.beq_eq] at hxy
    rw [hxy]; exact hy
theorem binds_any {md : Region.Mode} {e : Edge} (h : Region.binds .any e = true) : Region.binds md e = true := by
  unfold Region.binds at *
  split at h <;> first | (cases h; done) | rfl

def unl (listed : Array Bool) (n : Nat) : Nat := ((List.range n).filter fun x => !listed.getD x false).length

theorem unl_lt {listed : Array Bool} {n i : Nat} (hi : i < n) (hs : listed.size = n) (h : listed.getD i false = false) : unl (listed.setIfInBounds i true) n < unl listed n := by
  have e : (List.range n).filter (fun x => !(listed.setIfInBounds i true).getD x false) = ((List.range n).filter fun x => !listed.getD x false).filter (fun x => !Nat.beq x i) := by
    rw [List.filter_filter]
    refine List.filter_congr fun x hx => ?_
    by_cases c : x = i
    · subst c
      simp [hs, hi]
    · rw [getD_set_ne false (Ne.symm c)]
      have : Nat.beq x i = false := by
        cases hb : Nat.beq x i with
        | false => rfl
        | true => rw [Nat.beq_eq] at hb; exact absurd hb c
      rw [this]; simp
  unfold unl
  rw [e, List.length_filter_lt_length_iff_exists]
  refine ⟨i, List.mem_filter.2 ⟨by simpa using hi, by rw [h]; rfl⟩, ?_⟩
  have : Nat.beq i i = true := by simp
  rw [this]; simp

section
variable {enters : FuncId → FKind} {callF : CallF} {ops : Array Oper} {ms : List Nat} {base lim : Nat} {T0 : Tree Value} {h0 : AHeap} {vs : List Value} {Gs : List AHeap} {os : List (Nat × AObj)}

theorem any_sound {B : Base} {G N : Nat} {m0 : Mu} {ds : List Deferred} (C : Ctx P enters callF ops ms base lim T0 h0 vs Gs os) (hE : Enters P enters) (hz : ZF P) (hC : CallSound P G callF)
    (hfree : ∀ i, i < ops.size → h0.get (base + i) = .dead) (hok : ops.toList.all (opOk G N) = true) {md : Region.Mode} (hord : orderOk md ops = true) {Q : Exit → Act → World → Prop}
    (hQ : ∀ S q m H a w, (∀ x, x < ops.size → S x = true) → Inv P B G N ops ms base lim T0 h0 vs Gs os m0 ds S q m H a w → Q .normal a w) :
    ∀ (f : Nat) (listed : Array Bool) (q : Nat) (m : Mu) (H : AHeap) (a : Act) (w : World), listed.size = ops.size → unl listed ops.size ≤ f →
      Inv P B G N ops ms base lim T0 h0 vs Gs os m0 ds (fun x => listed.getD x false) q m H a w → wpAny P md ops Q f listed a w := by
  have hall : ∀ (listed : Array Bool), listed.size = ops.size → Region.ready md ops listed = [] → ∀ x, x < ops.size → listed.getD x false = true := by
    intro listed hsz hr x hx
    obtain ⟨l0, o1, o2, o3⟩ := orderOk_list hord
    cases hb : listed.getD x false with
    | true => rfl
    | false =>
      obtain ⟨i, hi⟩ := order_progress (listed := listed) hsz l0 [] o1 (by simp) o3 ⟨x, o2 x hx, hb⟩
      rw [hr] at hi; simp at hi
  intro f
  induction f with
  | zero =>
    intro listed q m H a w hsz hu I
    have hdone : ∀ x, x < ops.size → listed.getD x false = true := by
      intro x hx
      cases hb : listed.getD x false with
      | true => rfl
      | false =>
        have : x ∈ (List.range ops.size).filter fun x => !listed.getD x false := List.mem_filter.2 ⟨by simpa using hx, by rw [hb]; rfl⟩
        unfold unl at hu
        have h0 : ((List.range ops.size).filter fun x => !listed.getD x false) = [] := List.length_eq_zero_iff.1 (by omega)
        rw [h0] at this; simp at this
    refine ⟨?_, hQ _ q m H a w hdone I⟩
    refine List.eq_nil_iff_forall_not_mem.2 fun i hi => ?_
    obtain ⟨h1, o, ho, _⟩ := mem_ready.1 hi
    have hlt : i < ops.size := (Array.getElem?_eq_some_iff.1 ho).1
    have h2 := hdone i hlt
    simp [Array.getD_eq_getD_getElem?, Array.getElem?_eq_getElem (show i < listed.size by omega)] at h1 h2
    rw [h1] at h2; cases h2
  | succ f ih =>
    intro listed q m H a w hsz hu I
    refine ⟨fun hr => hQ _ q m H a w (hall listed hsz hr) I, fun i hi => ?_⟩
    obtain ⟨h1, o, ho, hbound⟩ := mem_ready.1 hi
    have hlt : i < ops.size := (Array.getElem?_eq_some_iff.1 ho).1
    have hS : listed.getD i false = false := by
      simp [Array.getD_eq_getD_getElem?, Array.getElem?_eq_getElem (show i < listed.size by omega)] at h1 ⊢
      exact h1
    have hop : opAt ops i = o := by unfold opAt; rw [Array.getD_eq_getD_getElem?, ho]; rfl
    refine I.step C hE hz hC hfree hok hlt hS (fun e he hel => ?_) fun q' m' H' a' w' I' => ?_
    · unfold edgesOf at he
      rw [hop] at he
      obtain ⟨ed, hed, h3⟩ := List.mem_filterMap.1 he
      split at h3
      · rename_i hb
        obtain rfl := Option.some.inj h3
        exact hbound ed (Array.mem_toList_iff.1 hed) (binds_any hb)
      · cases h3
    · refine ih _ q' m' H' a' w' (by simpa using hsz) (by have := unl_lt hlt hsz hS; omega) ?_
      have e : (fun x => (listed.setIfInBounds i true).getD x false) = fun x => if x = i then true else listed.getD x false := by
        funext x
        by_cases c : x = i
        · subst c; simp [hsz, hlt]
        · rw [getD_set_ne false (Ne.symm c), if_neg c]
      rw [e]; exact I'
end

theorem drawn_sound {G : Nat} {enters : FuncId → FKind} (hE : Enters P enters) (hz : ZF P) {callF : CallF} (hC : CallSound P G callF) {ops : Array Oper} {T : Tree Value} {h : AHeap} {vs : List Value} {Gs : List AHeap} {os : List (Nat × AObj)}
    (hplan : planOk P ops (masksGo ops.toList []) ops.size = true) (hbound : Nat.ble (h.next + ops.size) h.lim = true)
    (hgo : drawGo P enters callF ops (masksGo ops.toList []) h.next ops.toList 0 T { h with next := h.next + ops.size } [] = some (vs, Gs, os))
    (htodo : ∀ i, i < ops.size → clsOf P (opAt ops i) = .plain → wantedA ops (opAt ops i) (slots (ops.toList.take i) (vs.take i) T) = true → ∀ q ∈ todoAt P ops (masksGo ops.toList []) i,
      opR P (rhoA (slots (ops.toList.take i) (vs.take i) T)) (opAt ops i) (fillA (prd (masksGo ops.toList []) i) h.next os (heapAt { h with next := h.next + ops.size } Gs q)) = some (vs.getD i undef)) :
    Nx h (fillA (fun _ => true) h.next os (heapAt { h with next := h.next + ops.size } Gs ops.size)) ∧
    ∀ (B : Base) m n id a w (Q : Exit → Act → World → Prop), ops.toList.all (opOk G n) = true → TRel m n T a.tmps → Rel P B m h w → GRel G m →
      (∀ m' a' w', Ext h m m' → TRel m' n (slots ops.toList vs T) a'.tmps → a'.defers = a.defers → Rel P B m' (fillA (fun _ => true) h.next os (heapAt { h with next := h.next + ops.size } Gs ops.size)) w' → Q .normal a' w') → (Code.region id ops true).wp P Q a w := by
  have hplan' := hplan
  unfold planOk at hplan'
  simp only [Bool.and_eq_true] at hplan'
  obtain ⟨⟨⟨hp, hany⟩, htext⟩, hgc⟩ := hplan'
  have hmlen : (masksGo ops.toList []).length = ops.size := by rw [masksGo_length]; simp
  have hlt := prd_lt hp hmlen
  obtain ⟨s1, s2, ⟨new, s3, s4⟩, s5⟩ := go_spec (enters := enters) (callF := callF) (ops := ops) (base := h.next) hlt ops.toList 0 T _ [] vs Gs os hgo (by simp)
  have C : Ctx P enters callF ops (masksGo ops.toList []) h.next h.lim T { h with next := h.next + ops.size } vs Gs os := by
    refine ⟨hmlen, by simpa using s1, by simpa using s2, fun j hj => List.all_eq_true.1 hp j (by simpa using hj), hlt, fun x hx => ?_, fun i hi => ?_, fun i hi hc hw q hq => ?_, rfl, rfl, by simpa using hbound⟩
    · rw [s3] at hx
      have := s4 x (by simpa using hx)
      simp only [Array.length_toList] at this
      omega
    · have := s5 i (by simpa using hi)
      rw [opAt_toList] at this
      simpa using this
    · exact htodo i hi hc hw q hq
  have hheaps := C.heaps hC ops.size (Nat.le_refl _)
  have hfn := fillA_next (sel := fun _ => true) (base := h.next) (G := heapAt { h with next := h.next + ops.size } Gs ops.size) os
  have hfull : slots ops.toList vs T = slots (ops.toList.take ops.size) (vs.take ops.size) T := by
    rw [List.take_of_length_le (by simp), List.take_of_length_le (by rw [s1]; simp)]
  refine ⟨⟨by rw [hfn.1]; have := hheaps.1; omega, by rw [hfn.2]; exact hheaps.2.1, fun b hb hbd => ?_, fun b hb => ?_⟩, fun B m N id a w Q hok hT hr hG hQ => ?_⟩
  rotate_left 2
  · have hfree : ∀ i, i < ops.size → (⟨h.t, h.next + ops.size, h.lim⟩ : AHeap).get (h.next + i) = .dead := by
      intro i hi
      have hb : h.next + ops.size ≤ h.lim := by simpa using hbound
      have := (hr.fresh (h.next + i) (by omega) (by omega)).1
      unfold AHeap.get at this ⊢
      exact this
    have hfinal : ∀ S q m' H a' w', (∀ x, x < ops.size → S x = true) → Inv P B G N ops (masksGo ops.toList []) h.next h.lim T { h with next := h.next + ops.size } vs Gs os m a.defers S q m' H a' w' → Q .normal a' w' := by
      intro S q m' H a' w' hS I
      have hsame : heapAt { h with next := h.next + ops.size } Gs ops.size = heapAt { h with next := h.next + ops.size } Gs q := by
        have := C.same (ops.size - q) q (by have := I.qle; omega) (fun l h1 h2 => by
          cases hl : isLoud P (opAt ops l) with
          | false => rfl
          | true =>
            have := I.qle
            have := (I.louds l (by omega) hl).1 (hS l (by omega))
            omega)
        rw [show q + (ops.size - q) = ops.size by have := I.qle; omega] at this
        exact this
      refine hQ m' a' w' ⟨I.le, I.ext⟩ ⟨I.tsz, fun t => ?_⟩ I.defers (I.rel.congr (fun b => ?_) ?_ ?_)
      · have hs := slots_get (T := T) (l := ops.toList) (vs := vs) s1 (fun x y d h1 h2 h3 h4 => C.dist h1 (by simpa using h2) (by rw [opAt_toList] at h3; exact h3) (by rw [opAt_toList] at h4; exact h4)) ops.size (by simp) t
        rw [hfull]
        by_cases c : ∃ x, x < ops.size ∧ (opAt ops x).dst = some t
        · obtain ⟨x, hx, hxd⟩ := c
          rw [hs.1 x hx (by rw [opAt_toList]; exact hxd)]
          exact I.done t x hx (hS x hx) hxd
        · rw [hs.2 fun x hx hxd => c ⟨x, hx, by rw [opAt_toList] at hxd; exact hxd⟩]
          exact I.kept t fun x hx hxd => absurd ⟨x, hx, hxd⟩ c
      · rw [hsame]
        rcases fillA_get (sel := fun _ => true) (base := h.next) (G := heapAt { h with next := h.next + ops.size } Gs q) os b with ⟨i, o, e1, e2, _, e4, e5⟩ | ⟨e1, e2⟩
        · rw [e5, e1]
          exact (I.hget1 i o (hS i (C.osIdx _ (objAt_mem e2))) e2 (by rw [← e1]; exact e4)).symm
        · rw [e2]
          exact (I.hget2 b fun i o hi ho hb => e1 i o hb ho rfl).symm
      · rw [hfn.1, hsame]; exact I.hnext.symm
      · rw [hfn.2, hheaps.2.1]; exact I.hlim.symm
    have hinit : Inv P B G N ops (masksGo ops.toList []) h.next h.lim T { h with next := h.next + ops.size } vs Gs os m a.defers (fun x => (Array.replicate ops.size false).getD x false) 0 m { h with next := h.next + ops.size } a { w with drawn := w.drawn + 1 } := by
      have hS0 : ∀ x, (Array.replicate ops.size false).getD x false = false := by
        intro x
        simp [Array.getD_eq_getD_getElem?, Array.getElem?_replicate]
        split <;> rfl
      refine ⟨fun j _ hj => ?_, Nat.zero_le _, .inl rfl, fun l _ _ => ?_, hT.size, fun t i _ hi => ?_, fun t _ => hT.rel t, ?_, rfl, rfl, fun i o hi => ?_, fun _ _ => rfl, fun i hi _ => ?_, hG, Mu.le_refl m, fun _ _ => rfl, rfl⟩
      · rw [hS0] at hj; cases hj
      · rw [hS0]; simp
      · rw [hS0] at hi; cases hi
      · refine hr.drew.rewin (fun _ => rfl) fun b hb hb2 => ?_
        exact hr.fresh b (by simp only at hb; omega) hb2
      · rw [hS0] at hi; cases hi
      · have hlm : h.next + ops.size ≤ h.lim := by simpa using hbound
        exact hr.fresh (h.next + i) (by omega) (by omega)
    refine wp_region_draw fun t => ?_
    have hone : ∀ md, orderOk md ops = true → ∀ t, wpOps P ops Q (Region.linearise md ops t) a { w with drawn := w.drawn + 1 } := by
      intro md hmd t
      exact wpAny_sound ops.size t _ a _ (any_sound C hE hz hC hfree hok hmd hfinal ops.size _ 0 m _ a _ (by simp) (by unfold unl; exact Nat.le_trans (List.length_filter_le _ _) (by simp)) hinit)
    unfold Region.schedule
    split
    · exact hone .any hany t
    · split
      · exact hone .text htext _
      · exact hone .gc hgc _
  · rcases fillA_get (sel := fun _ => true) (base := h.next) (G := heapAt { h with next := h.next + ops.size } Gs ops.size) os b with ⟨i, o, e1, e2, _⟩ | ⟨_, e⟩
    · have := C.osIdx _ (objAt_mem e2)
      have hlm : h.next + ops.size ≤ h.lim := by simpa using hbound
      simp only at this
      omega
    · rw [e]; exact hheaps.2.2.2.1 b hb hbd
  · rcases fillA_get (sel := fun _ => true) (base := h.next) (G := heapAt { h with next := h.next + ops.size } Gs ops.size) os b with ⟨i, o, e1, e2, e3, e4, e5⟩ | ⟨_, e⟩
    · rw [e5, C.osNo e2] at hb; cases hb
    · rw [e] at hb ⊢; exact hheaps.2.2.2.2 b hb
theorem drawA_sound {G : Nat} {enters : FuncId → FKind} (hE : Enters P enters) (hz : ZF P) {callF : CallF} (hC : CallSound P G callF) : DrawSound P G (drawA P enters callF) := by
  intro ops T h T' h' hd
  unfold drawA at hd
  dsimp only at hd
  split at hd <;> try (cases hd; done)
  rename_i hguard
  split at hd <;> try (cases hd; done)
  rename_i vs Gs os hgo
  split at hd <;> try (cases hd; done)
  rename_i hchk
  simp only [Option.some.injEq, Prod.mk.injEq] at hd
  obtain ⟨rfl, rfl⟩ := hd
  simp only [Bool.and_eq_true] at hguard
  obtain ⟨⟨hplan, hbound⟩, hdead⟩ := hguard
  have hplan' := hplan
  unfold planOk at hplan'
  simp only [Bool.and_eq_true] at hplan'
  have hlt := prd_lt hplan'.1.1.1 (by rw [masksGo_length]; simp)
  obtain ⟨s1, _⟩ := go_spec (enters := enters) (callF := callF) (ops := ops) (base := h.next) hlt ops.toList 0 T _ [] vs Gs os hgo (by simp)
  refine drawn_sound hE hz hC hplan hbound hgo fun i hi hc hw q hq => ?_
  have := checkGo_spec ops.toList vs 0 T hchk (by simpa using s1) i (by simpa using hi) (by rw [opAt_toList]; exact hc) (by rw [opAt_toList]; exact hw) q (by simpa using hq)
  rw [opAt_toList] at this
  simpa using this
end
end Go.Ab
