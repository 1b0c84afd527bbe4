import Derived.Test.YthapjgecggdliaaGreatDoorAbFj
namespace Go.Ab
open Go

/-! ## A state, its blocks numbered anew -/
/-- The first so many values, made anew. -/
def cellsF (g : Nat → Value → Option Value) (t : Tree Value) : Nat → Nat → Tree Value → Option (Tree Value)
  | 0, _, acc => some acc
  | k + 1, i, acc => match g i (t.get undef i) with
    | some v => cellsF g t k (i + 1) (acc.set undef i v)
    | none => none
theorem cellsF_get {g : Nat → Value → Option Value} {t : Tree Value} : ∀ (k i : Nat) (acc r : Tree Value), cellsF g t k i acc = some r →
    ∀ j, (i ≤ j ∧ j < i + k → g j (t.get undef j) = some (r.get undef j)) ∧ (¬ (i ≤ j ∧ j < i + k) → r.get undef j = acc.get undef j) := by
  intro k
  induction k with
  | zero => intro i acc r h j; cases h; exact ⟨fun q => by omega, fun _ => rfl⟩
  | succ k ih =>
    intro i acc r h j
    simp only [cellsF] at h
    split at h
    · rename_i v hv
      obtain ⟨q1, q2⟩ := ih (i + 1) _ r h j
      by_cases e : j = i
      · subst e
        have := q2 (by omega)
        rw [Tree.get_set, if_pos rfl] at this
        exact ⟨fun _ => by rw [hv, this], fun q => by omega⟩
      · refine ⟨fun q => q1 (by omega), fun q => ?_⟩
        have := q2 (by omega)
        rwa [Tree.get_set, if_neg e] at this
    · cases h
/-- What is kept is numbered anew; what is not is whatever it is. -/
def keepV (f : Nat → Nat) (K : Nat → Bool) (j : Nat → Value) (i : Nat) (v : Value) : Option Value := match K i with
  | true => renV f 8 v
  | false => some (j i)
/-- Z: kept as it is, whatever it is. -/
def keepT (f : Nat → Nat) (K Z : Nat → Bool) (j : Nat → Value) (i : Nat) (v : Value) : Option Value := match Z i with
  | true => some v
  | false => keepV f K j i v
def renE (f : Nat → Nat) (e : MapEntry) : Option MapEntry := match renV f 8 e.key, renV f 8 e.val with
  | some k, some v => some { e with key := k, val := v }
  | _, _ => none
def renEs (f : Nat → Nat) : List MapEntry → Option (List MapEntry)
  | [] => some []
  | e :: l => match renE f e, renEs f l with
    | some e2, some l2 => some (e2 :: l2)
    | _, _ => none
def renO1 (f : Nat → Nat) (K : Nat → Bool) (R : Bool) (j : Nat → Value) : AObj → Option AObj
  | .dead => some .dead
  | .cells c t => match cellsF (keepV f K j) c.t c.len 0 .leaf with
    | some r => some (.cells ⟨c.len, r⟩ t)
    | none => none
  | .ro c t => match R with
    | true => some (.ro c t)
    | false => match cellsF (keepV f K j) c.t c.len 0 .leaf with
      | some r => some (.ro ⟨c.len, r⟩ t)
      | none => none
  | .map es k => match renEs f es.toList with
    | some l => some (.map l.toArray k)
    | none => none
  | .iter s p => some (.iter s p)
  | .miter x since seen last => some (.miter (x.map f) since seen last)
/-- Z: kept as it is, whatever it is. -/
def renO (f : Nat → Nat) (K : Nat → Bool) (R Z : Bool) (j : Nat → Value) (o : AObj) : Option AObj := match Z with
  | true => some o
  | false => renO1 f K R j o
def renH (f : Nat → Nat) (K : Nat → Nat → Bool) (R Z : Nat → Bool) (j : Nat → Nat → Value) (h : Tree AObj) : List Nat → Nat → Tree AObj → Option (Tree AObj)
  | [], _, acc => some acc
  | b :: l, i, acc => match renO f (K i) (R i) (Z i) (j i) (h.get .dead b) with
    | some o => renH f K R Z j h l (i + 1) (acc.set .dead i o)
    | none => none
theorem renH_get {f : Nat → Nat} {K : Nat → Nat → Bool} {R Z : Nat → Bool} {j : Nat → Nat → Value} {h : Tree AObj} : ∀ (l : List Nat) (i : Nat) (acc r : Tree AObj), renH f K R Z j h l i acc = some r →
    ∀ y, (∀ b, i ≤ y → atOf l (y - i) = some b → renO f (K y) (R y) (Z y) (j y) (h.get .dead b) = some (r.get .dead y)) ∧ (y < i ∨ i + l.length ≤ y → r.get .dead y = acc.get .dead y) := by
  intro l
  induction l with
  | nil => intro i acc r h y; cases h; exact ⟨fun b _ e => by (cases e), fun _ => rfl⟩
  | cons x l ih =>
    intro i acc r h y
    simp only [renH] at h
    split at h
    · rename_i o ho
      obtain ⟨q1, q2⟩ := ih (i + 1) _ r h y
      by_cases e : y = i
      · subst e
        have := q2 (.inl (by omega))
        rw [Tree.get_set, if_pos rfl] at this
        refine ⟨fun b _ hb => ?_, fun q => by simp only [List.length_cons] at q; omega⟩
        rw [Nat.sub_self] at hb
        obtain rfl := Option.some.inj hb
        rw [ho, this]
      · refine ⟨fun b hb hb2 => ?_, fun q => ?_⟩
        · refine q1 b (by omega) ?_
          rw [show y - i = (y - (i + 1)) + 1 by omega] at hb2
          exact hb2
        · simp only [List.length_cons] at q
          have := q2 (by omega)
          rwa [Tree.get_set, if_neg e] at this
    · cases h

/-- What is said of a state at a loop's head: which blocks it has, which slots and cells are kept. -/
structure Shape where
  σ : List Nat
  n : Nat
  KT : Nat → Bool
  K : Nat → Nat → Bool
  R : Nat → Bool := fun _ => false
  Z : Nat → Bool := fun _ => false
  ZT : Nat → Bool := fun _ => false
/-- The state, its blocks numbered anew; what is not kept is 'jt' and 'jh'. -/
def canonS (S : Shape) (G : Nat) (s : Tree Value × AHeap) (jt : Nat → Value) (jh : Nat → Nat → Value) : Option (Tree Value × AHeap) :=
  match onceOk S.σ && Nat.ble S.σ.length s.2.lim && (List.range G).all (fun g => match atOf S.σ g with | some x => Nat.beq x g | none => false) with
  | true => match cellsF (keepT (renB S.σ s.2.lim) S.KT S.ZT jt) s.1 S.n 0 .leaf, renH (renB S.σ s.2.lim) S.K S.R S.Z jh s.2.t S.σ 0 .leaf with
    | some T, some t => some (T, ⟨t, S.σ.length, s.2.lim⟩)
    | _, _ => none
  | false => none
variable {P : Program} {G : Nat} {B : Base}

theorem isRo_renO1 {f : Nat → Nat} {K : Nat → Bool} {R : Bool} {j : Nat → Value} {o o2 : AObj} (h : renO1 f K R j o = some o2) : isRo o2 = isRo o ∧ (o = .dead → o2 = .dead) := by
  cases o with
  | dead => cases h; exact ⟨rfl, fun _ => rfl⟩
  | cells c t => simp only [renO1] at h; split at h <;> cases h; exact ⟨rfl, fun q => by cases q⟩
  | ro c t =>
    cases R with
    | true => cases h; exact ⟨rfl, fun q => by cases q⟩
    | false => simp only [renO1] at h; split at h <;> cases h; exact ⟨rfl, fun q => by cases q⟩
  | map es k => simp only [renO1] at h; split at h <;> cases h; exact ⟨rfl, fun q => by cases q⟩
  | iter s p => cases h; exact ⟨rfl, fun q => by cases q⟩
  | miter x a b c => cases h; exact ⟨rfl, fun q => by cases q⟩
theorem isRo_renO {f : Nat → Nat} {K : Nat → Bool} {R Z : Bool} {j : Nat → Value} {o o2 : AObj} (h : renO f K R Z j o = some o2) : isRo o2 = isRo o ∧ (o = .dead → o2 = .dead) := by
  cases Z with
  | true => cases h; exact ⟨rfl, fun q => q⟩
  | false => exact isRo_renO1 h
theorem protOf_same {o o2 : AObj} {x : Option Obj} (h : isRo o2 = isRo o) (hp : protOf o x) : protOf o2 x :=
  protOf_mk (fun q => protOf_some hp (by rw [← h]; exact q)) (fun q => protOf_none hp (by rw [← h]; exact q))

theorem renEs_spec {f : Nat → Nat} : ∀ (l l2 : List MapEntry), renEs f l = some l2 → l2.length = l.length ∧ ∀ i (h : i < l.length) (h2 : i < l2.length), renE f l[i] = some l2[i] := by
  intro l
  induction l with
  | nil => intro l2 h; cases h; exact ⟨rfl, fun i h => by simp at h⟩
  | cons e l ih =>
    intro l2 h
    simp only [renEs] at h
    split at h
    · rename_i e2 l3 h1 h2
      cases h
      obtain ⟨q1, q2⟩ := ih l3 h2
      refine ⟨by simp [q1], fun i hi hi2 => ?_⟩
      cases i with
      | zero => exact h1
      | succ i => exact q2 i (by simpa using hi) (by simpa using hi2)
    · cases h
theorem renE_rel {m m2 : Mu} {f : Nat → Nat} (hf : ∀ b, m2 (f b) = m b) {e e2 e' : MapEntry} (h : ERel m e e') (he : renE f e = some e2) : ERel m2 e2 e' := by
  unfold renE at he
  split at he
  · rename_i k v h1 h2
    cases he
    exact ⟨renV_rel hf h.1 _ _ h1, renV_rel hf h.2.1 _ _ h2, h.2.2⟩
  · cases he

/-- What a cell of a world's block holds. -/
noncomputable def heldAt (m2 : Mu) (w : World) (l : Option Loc) (i : Nat) : Value := match l with
  | some l => match w.heap[l.blk]? with
    | some (.cells C _ _) => junkOf m2 (C.getD (l.off + i) undef)
    | _ => undef
  | none => undef
theorem heldAt_eq {m2 : Mu} {w : World} {l : Loc} {i : Nat} {C : Array Value} {t : TypeId} {fr : Nat × Nat} {v : Value} (h : w.heap[l.blk]? = some (.cells C t fr)) (hv : C[l.off + i]? = some v) : heldAt m2 w (some l) i = junkOf m2 v := by
  unfold heldAt
  simp only [h]
  rw [Array.getD_eq_getD_getElem?, hv]
  rfl
theorem row_ren {m m2 : Mu} {f : Nat → Nat} (hf : ∀ b, m2 (f b) = m b) {c : Row} {r : Tree Value} {K : Nat → Bool} {w : World} {l : Loc} {C : Array Value} {t : TypeId} {fr : Nat × Nat}
    (hC : w.heap[l.blk]? = some (.cells C t fr)) (hrow : ∀ i v, c.get? i = some v → ∃ v', C[l.off + i]? = some v' ∧ VRel m v v')
    (hr : cellsF (keepV f K (heldAt m2 w (some l))) c.t c.len 0 .leaf = some r) : ∀ i v, Row.get? ⟨c.len, r⟩ i = some v → ∃ v', C[l.off + i]? = some v' ∧ VRel m2 v v' := by
  intro i v hv
  have hi : i < c.len := by
    have := Row.lt_of_get? hv
    exact this
  rw [Row.get?_eq, if_pos hi] at hv
  obtain rfl := Option.some.inj hv
  obtain ⟨v', h1, h2⟩ := hrow i (c.t.get undef i) (by rw [Row.get?_eq, if_pos hi])
  refine ⟨v', h1, ?_⟩
  have q := (cellsF_get _ _ _ _ hr i).1 ⟨by omega, by omega⟩
  unfold keepV at q
  split at q
  · exact renV_rel hf h2 _ _ q
  · rw [heldAt_eq hC h1] at q
    rw [← Option.some.inj q]
    exact junkOf_rel (junk_rel hf h2)
theorem ok_ren1 {m m2 : Mu} {f : Nat → Nat} (hf : ∀ b, m2 (f b) = m b) {o o2 : AObj} {K : Nat → Bool} {R : Bool} {w : World} {l : Loc} (hfl : R = true → ∀ c t, o = .ro c t → ∀ i v, c.get? i = some v → vflat 8 v = true) (hok : OKObj P m l w o) (h : renO1 f K R (heldAt m2 w (some l)) o = some o2) : OKObj P m2 l w o2 := by
  cases o with
  | dead => cases h; exact trivial
  | cells c t =>
    simp only [renO1] at h
    split at h
    · rename_i r hr
      cases h
      obtain ⟨C, fr, h1, h2, h3, h4, h5⟩ := hok
      exact ⟨C, fr, h1, h2, h3, row_ren hf h1 h4 hr, h5⟩
    · cases h
  | ro c t =>
    cases R with
    | true =>
      cases h
      obtain ⟨C, te, fr, h1, h3, h4⟩ := hok
      refine ⟨C, te, fr, h1, h3, fun i v hv => ?_⟩
      obtain ⟨v', q1, q2⟩ := h4 i v hv
      have hfv := hfl rfl c t rfl i v hv
      obtain rfl := q2.of_flat 8 hfv
      exact ⟨_, q1, vflat_rel m2 8 _ hfv⟩
    | false =>
      simp only [renO1] at h
      split at h
      · rename_i r hr
        cases h
        obtain ⟨C, te, fr, h1, h3, h4⟩ := hok
        exact ⟨C, te, fr, h1, h3, row_ren hf h1 h4 hr⟩
      · cases h
  | map es k =>
    simp only [renO1] at h
    split at h
    · rename_i l2 hl
      cases h
      obtain ⟨es', h1, h2, h3, h4⟩ := hok
      obtain ⟨q1, q2⟩ := renEs_spec _ _ hl
      have q1' : l2.length = es.size := by simpa using q1
      refine ⟨es', h1, h2, by simp [q1', h3], fun i hi hi' => ?_⟩
      have := q2 i (by simp; omega) (by simpa using hi)
      simp only [List.getElem_toArray]
      exact renE_rel hf (h4 i (by omega) hi') (by simpa using this)
    · cases h
  | iter s p => cases h; exact hok
  | miter x a b c =>
    cases h
    obtain ⟨⟨x', h1, h2⟩, h3⟩ := hok
    refine ⟨⟨x', h1, ?_⟩, h3⟩
    cases x with
    | none => cases x' with
      | none => exact trivial
      | some r => exact h2.elim
    | some y => cases x' with
      | none => exact h2.elim
      | some r => obtain ⟨l2, e1, e2⟩ := h2; exact ⟨l2, by rw [hf]; exact e1, e2⟩

/-- What may be kept as it is. -/
def OneForm (o : AObj) : Prop := o = .dead ∨ ∃ c t, (o = .ro c t ∨ o = .cells c t) ∧ ∀ i v, c.get? i = some v → vflat 8 v = true
theorem ok_ren {m m2 : Mu} {f : Nat → Nat} (hf : ∀ b, m2 (f b) = m b) {o o2 : AObj} {K : Nat → Bool} {R Z : Bool} {w : World} {l : Loc} (hfl : R = true → ∀ c t, o2 = .ro c t → ∀ i v, c.get? i = some v → vflat 8 v = true) (hz : Z = true → OneForm o2) (hok : OKObj P m l w o) (h : renO f K R Z (heldAt m2 w (some l)) o = some o2) : OKObj P m2 l w o2 := by
  cases Z with
  | true =>
    obtain rfl := Option.some.inj h
    rcases hz rfl with rfl | ⟨c, t, rfl | rfl, hc⟩
    · exact trivial
    · obtain ⟨C, te, fr, h1, h3, h4⟩ := hok
      refine ⟨C, te, fr, h1, h3, fun i v hv => ?_⟩
      obtain ⟨v', q1, q2⟩ := h4 i v hv
      have hfv := hc i v hv
      obtain rfl := q2.of_flat 8 hfv
      exact ⟨_, q1, vflat_rel m2 8 _ hfv⟩
    · obtain ⟨C, fr, h1, h2, h3, h4, h5⟩ := hok
      refine ⟨C, fr, h1, h2, h3, fun i v hv => ?_, h5⟩
      obtain ⟨v', q1, q2⟩ := h4 i v hv
      have hfv := hc i v hv
      obtain rfl := q2.of_flat 8 hfv
      exact ⟨_, q1, vflat_rel m2 8 _ hfv⟩
  | false =>
    refine ok_ren1 hf (fun hR c t ho => ?_) hok h
    subst ho
    subst hR
    exact hfl rfl c t (Option.some.inj h).symm
/-- What may be kept in a slot as it is: it points nowhere but to blocks that keep their numbers. -/
def FixV (σ : List Nat) (v : Value) : Prop := ∀ (m m' : Mu) v', (∀ y, atOf σ y = some y → m' y = m y) → VRel m v v' → VRel m' v v'

theorem canonZ {S : Shape} {s : Tree Value × AHeap} {m : Mu} {a : Act} {w : World} {S2 : (Nat → Value) → (Nat → Nat → Value) → Tree Value × AHeap}
    (hR : ∀ jt jh y, S.R y = true → ∀ c t, (S2 jt jh).2.get y = .ro c t → ∀ i v, c.get? i = some v → vflat 8 v = true)
    (hZ : ∀ jt jh y, S.Z y = true → OneForm ((S2 jt jh).2.get y)) (hZT : ∀ jt jh i, S.ZT i = true → FixV S.σ (Tget (S2 jt jh).1 i)) (hc : ∀ jt jh, canonS S G s jt jh = some (S2 jt jh)) (hT : TRel m S.n s.1 a.tmps) (hr : Rel P B m s.2 w) (hG : GRel G m) :
    ∃ m2 jt jh, GRel G m2 ∧ TRel m2 S.n (S2 jt jh).1 a.tmps ∧ Rel P B m2 (S2 jt jh).2 w := by
  let m2 := mu2 m S.σ s.2.lim
  let jt : Nat → Value := fun t => junkOf m2 (a.tmps.getD t undef)
  let jh : Nat → Nat → Value := fun y i => heldAt m2 w (m2 y) i
  refine ⟨m2, jt, jh, ?_⟩
  have e := hc jt jh
  unfold canonS at e
  split at e
  · rename_i hok
    simp only [Bool.and_eq_true, Nat.ble_eq] at hok
    obtain ⟨⟨ho, hl⟩, hg⟩ := hok
    have hf : ∀ b, m2 (renB S.σ s.2.lim b) = m b := mu2_renB hl
    split at e
    · rename_i T t hT2 hH2
      rw [← Option.some.inj e]
      have hat : ∀ y b, atOf S.σ y = some b → m2 y = m b := by
        intro y b hy
        show mu2 m S.σ s.2.lim y = m b
        unfold mu2; rw [hy]
      have hget : ∀ y b, atOf S.σ y = some b → renO (renB S.σ s.2.lim) (S.K y) (S.R y) (S.Z y) (jh y) (s.2.get b) = some (t.get .dead y) := fun y b hy => (renH_get _ _ _ _ hH2 y).1 b (Nat.zero_le _) hy
      have hout : ∀ y, S.σ.length ≤ y → t.get .dead y = .dead := fun y hy => by
        rw [(renH_get _ _ _ _ hH2 y).2 (.inr (by omega)), Tree.get_leaf]
      have hin : ∀ y, t.get .dead y ≠ .dead → ∃ b, atOf S.σ y = some b ∧ s.2.get b ≠ .dead := by
        intro y hy
        have hlt : y < S.σ.length := by
          rcases Nat.lt_or_ge y S.σ.length with h | h
          · exact h
          · exact absurd (hout y h) hy
        obtain ⟨b, hb⟩ := atOf_some _ _ hlt
        exact ⟨b, hb, fun q => hy ((isRo_renO (hget y b hb)).2 q)⟩
      refine ⟨?_, ?_, ?_⟩
      · intro g hgG
        have q := List.all_eq_true.1 hg g (by simpa using hgG)
        split at q
        · rename_i x hx
          obtain rfl := Nat.eq_of_beq_eq_true q
          obtain ⟨l, h1, h2⟩ := hG x hgG
          exact ⟨l, by rw [hat _ _ hx]; exact h1, h2⟩
        · cases q
      · refine ⟨hT.size, fun i => ?_⟩
        show VRel m2 (T.get undef i) _
        rcases Nat.lt_or_ge i S.n with hi | hi
        · have q := (cellsF_get _ _ _ _ hT2 i).1 ⟨by omega, by omega⟩
          unfold keepT at q
          split at q
          · rename_i hz
            have q2 := hZT jt jh i hz
            rw [← Option.some.inj e] at q2
            have q2' : FixV S.σ (T.get undef i) := q2
            rw [← Option.some.inj q] at q2' ⊢
            exact q2' m m2 _ (fun y hy => hat y y hy) (hT.rel i)
          · unfold keepV at q
            split at q
            · exact renV_rel hf (hT.rel i) _ _ q
            · rw [← Option.some.inj q]
              exact junkOf_rel (junk_rel hf (hT.rel i))
        · rw [(cellsF_get _ _ _ _ hT2 i).2 (by omega), Tree.get_leaf, Array.getD_eq_getD_getElem?, Array.getElem?_eq_none (by rw [hT.size]; exact hi)]
          exact vflat_rel m2 8 undef rfl
      · refine ⟨hr.os, hr.tape, hr.output, hr.prot, ?_, ?_, ?_⟩
        · intro y hy
          obtain ⟨b, hb, hlive⟩ := hin y hy
          obtain ⟨l, h1, h2, h3⟩ := hr.obj b hlive
          have q := hget y b hb
          have e2 : m2 y = some l := by rw [hat y b hb]; exact h1
          refine ⟨l, e2, protOf_same (isRo_renO q).1 h2, ?_⟩
          have q2 : renO (renB S.σ s.2.lim) (S.K y) (S.R y) (S.Z y) (heldAt m2 w (some l)) (s.2.get b) = some (t.get .dead y) := by
            rw [← e2]; exact q
          refine ok_ren hf (fun hy2 c t' hct i v hv => ?_) (fun hy2 => ?_) h3 q2
          · refine hR jt jh y hy2 c t' ?_ i v hv
            rw [← Option.some.inj e]
            exact hct
          · have q5 := hZ jt jh y hy2
            rw [← Option.some.inj e] at q5
            exact q5
        · intro y y' l l' hy hy' hro h1 h2 he
          obtain ⟨b, hb, hlive⟩ := hin y hy
          obtain ⟨b', hb', hlive'⟩ := hin y' hy'
          rw [hat _ _ hb] at h1
          rw [hat _ _ hb'] at h2
          have hro' : isRo (s.2.get b') = false := by rw [← (isRo_renO (hget y' b' hb')).1]; exact hro
          have := hr.sep b b' l l' hlive hlive' hro' h1 h2 he
          subst this
          exact onceOk_inj _ ho _ _ _ hb hb'
        · intro y h1 h2
          have h1' : S.σ.length ≤ y := h1
          have h2' : y < s.2.lim := h2
          refine ⟨hout y h1', ?_⟩
          show mu2 m S.σ s.2.lim y = none
          unfold mu2
          cases e : atOf S.σ y with
          | some b => have := atOf_lt _ _ _ e; omega
          | none => dsimp only; rw [if_neg (by omega)]
    · cases e
  · cases e
theorem canonR {S : Shape} {s : Tree Value × AHeap} {m : Mu} {a : Act} {w : World} {S2 : (Nat → Value) → (Nat → Nat → Value) → Tree Value × AHeap}
    (hR : ∀ jt jh y, S.R y = true → ∀ c t, (S2 jt jh).2.get y = .ro c t → ∀ i v, c.get? i = some v → vflat 8 v = true) (hc : ∀ jt jh, canonS S G s jt jh = some (S2 jt jh)) (hT : TRel m S.n s.1 a.tmps) (hr : Rel P B m s.2 w) (hG : GRel G m) (hZ : ∀ y, S.Z y = false := by intro y; rfl) (hZT : ∀ y, S.ZT y = false := by intro y; rfl) :
    ∃ m2 jt jh, GRel G m2 ∧ TRel m2 S.n (S2 jt jh).1 a.tmps ∧ Rel P B m2 (S2 jt jh).2 w :=
  canonZ hR (fun _ _ y h => by rw [hZ y] at h; cases h) (fun _ _ y h => by rw [hZT y] at h; cases h) hc hT hr hG
theorem canon {S : Shape} {s : Tree Value × AHeap} {m : Mu} {a : Act} {w : World} {S2 : (Nat → Value) → (Nat → Nat → Value) → Tree Value × AHeap}
    (hR : ∀ y, S.R y = false) (hc : ∀ jt jh, canonS S G s jt jh = some (S2 jt jh)) (hT : TRel m S.n s.1 a.tmps) (hr : Rel P B m s.2 w) (hG : GRel G m) (hZ : ∀ y, S.Z y = false := by intro y; rfl) (hZT : ∀ y, S.ZT y = false := by intro y; rfl) :
    ∃ m2 jt jh, GRel G m2 ∧ TRel m2 S.n (S2 jt jh).1 a.tmps ∧ Rel P B m2 (S2 jt jh).2 w :=
  canonR (fun _ _ y h => by rw [hR y] at h; cases h) hc hT hr hG hZ hZT
end Go.Ab
