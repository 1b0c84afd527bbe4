import Derived.Test.YthapjgecggdliaaGreatDoorAbC
namespace Go.Ab
open Go
section
variable {P : Program} {B : Base}

theorem ERel.mono {m m' : Mu} (hm : Mu.le m m') {e e' : MapEntry} (h : ERel m e e') : ERel m' e e' := ⟨h.1.mono hm, h.2.1.mono hm, h.2.2⟩

theorem OKObj.congr {m m' : Mu} (hm : Mu.le m m') {l : Loc} {w w' : World} {o : AObj} (he : w'.heap[l.blk]? = w.heap[l.blk]?) (h : OKObj P m l w o) : OKObj P m' l w' o := by
  cases o with
  | dead => trivial
  | cells c t =>
    obtain ⟨C, fr, h1, h2, h3, h4, h5⟩ := h
    exact ⟨C, fr, he.trans h1, h2, h3, fun i v hv => let ⟨v', a, b⟩ := h4 i v hv; ⟨v', a, b.mono hm⟩, h5⟩
  | map es k =>
    obtain ⟨es', h1, h2, h3, h4⟩ := h
    exact ⟨es', he.trans h1, h2, h3, fun i a b => (h4 i a b).mono hm⟩
  | iter s p => exact ⟨he.trans h.1, h.2⟩
  | miter x a b c => obtain ⟨⟨x', h1, h2⟩, h3⟩ := h; exact ⟨⟨x', he.trans h1, h2.mono hm⟩, h3⟩
  | ro c t => obtain ⟨C, te, fr, h1, h3, h4⟩ := h; exact ⟨C, te, fr, he.trans h1, h3, fun i v hv => let ⟨v', a, b⟩ := h4 i v hv; ⟨v', a, b.mono hm⟩⟩

/-- One block is turned. -/
theorem Rel.update {m : Mu} {h : AHeap} {w w' : World} (hr : Rel P B m h w) {b : Nat} {l : Loc} {o : AObj} (hb : h.get b ≠ .dead) (hl : m b = some l)
    (hos : w'.os = w.os) (htape : w'.tape = w.tape) (hout : w'.output = w.output) (hh : ∀ k, k ≠ l.blk → w'.heap[k]? = w.heap[k]?) (hok : OKObj P m l w' o) (hnr : isRo (h.get b) = false := by simp only [*, isRo]) (hno : isRo o = false := by rfl) : Rel P B m (h.put b o) w' := by
  have hp : B.prot l.blk = none := by
    obtain ⟨l', h1, h2, _⟩ := hr.obj b hb
    rw [hl] at h1; cases h1; exact protOf_none h2 hnr
  refine ⟨hos.trans hr.os, htape.trans hr.tape, hout.trans hr.output, ?_, ?_, ?_, ?_⟩
  · intro k x hx
    rw [hh k (by rintro rfl; rw [hp] at hx; cases hx)]
    exact hr.prot k x hx
  · intro b2 hb2
    rw [AHeap.get_put] at hb2 ⊢
    by_cases e : b2 = b
    · subst e
      rw [if_pos rfl] at hb2 ⊢
      exact ⟨l, hl, protOf_mk (fun q => by rw [hno] at q; cases q) (fun _ => hp), hok⟩
    · rw [if_neg e] at hb2 ⊢
      obtain ⟨l2, h1, h2, h3⟩ := hr.obj b2 hb2
      refine ⟨l2, h1, h2, h3.congr (Mu.le_refl m) (hh _ fun e2 => e (hr.sep b2 b l2 l hb2 hb hnr h1 hl e2))⟩
  · intro b1 b2 l1 l2 h1 h2 h3
    rw [AHeap.get_put] at h1 h2 h3
    have q1 : h.get b1 ≠ .dead := by by_cases e : b1 = b; (subst e; exact hb); (rw [if_neg e] at h1; exact h1)
    have q2 : h.get b2 ≠ .dead := by by_cases e : b2 = b; (subst e; exact hb); (rw [if_neg e] at h2; exact h2)
    have q3 : isRo (h.get b2) = false := by by_cases e : b2 = b; (subst e; exact hnr); (rw [if_neg e] at h3; exact h3)
    exact hr.sep b1 b2 l1 l2 q1 q2 q3
  · intro b2 hb2 hb3
    have hf := hr.fresh b2 hb2 hb3
    refine ⟨?_, hf.2⟩
    rw [AHeap.get_put, if_neg]
    · exact hf.1
    · rintro rfl; exact hb hf.1

/-- A block is struck. -/
theorem Rel.kill {m : Mu} {h : AHeap} {w : World} (hr : Rel P B m h w) (b : Nat) : Rel P B m (h.put b .dead) w := by
  refine ⟨hr.os, hr.tape, hr.output, hr.prot, ?_, ?_, ?_⟩
  · intro b2 hb2
    rw [AHeap.get_put] at hb2 ⊢
    by_cases e : b2 = b
    · rw [if_pos e] at hb2; exact absurd rfl hb2
    · rw [if_neg e] at hb2 ⊢; exact hr.obj b2 hb2
  · intro b1 b2 l1 l2 h1 h2 h3
    rw [AHeap.get_put] at h1 h2 h3
    have q1 : h.get b1 ≠ .dead := by by_cases e : b1 = b; (rw [if_pos e] at h1; exact absurd rfl h1); (rw [if_neg e] at h1; exact h1)
    have q2 : h.get b2 ≠ .dead := by by_cases e : b2 = b; (rw [if_pos e] at h2; exact absurd rfl h2); (rw [if_neg e] at h2; exact h2)
    have q3 : isRo (h.get b2) = false := by by_cases e : b2 = b; (rw [if_pos e] at h2; exact absurd rfl h2); (rw [if_neg e] at h3; exact h3)
    exact hr.sep b1 b2 l1 l2 q1 q2 q3
  · intro b2 hb2 hb3
    have hf := hr.fresh b2 hb2 hb3
    refine ⟨?_, hf.2⟩
    rw [AHeap.get_put]
    split
    · rfl
    · exact hf.1

theorem Rel.lt_size {m : Mu} {h : AHeap} {w : World} (hr : Rel P B m h w) {b : Nat} (hb : h.get b ≠ .dead) {l : Loc} (hl : m b = some l) : l.blk < w.heap.size := by
  obtain ⟨l', h1, _, h2⟩ := hr.obj b hb
  rw [hl] at h1; cases h1
  have key : ∀ x, w.heap[l.blk]? = some x → l.blk < w.heap.size := fun x hx => by
    rcases Nat.lt_or_ge l.blk w.heap.size with h | h
    · exact h
    · rw [Array.getElem?_eq_none h] at hx; cases hx
  cases hg : h.get b with
  | dead => exact absurd hg hb
  | cells c t => rw [hg] at h2; obtain ⟨C, fr, h3, _⟩ := h2; exact key _ h3
  | map es k => rw [hg] at h2; obtain ⟨es', h3, _⟩ := h2; exact key _ h3
  | iter s p => rw [hg] at h2; exact key _ h2.1
  | miter x a b c => rw [hg] at h2; obtain ⟨⟨x', h3, _⟩, _⟩ := h2; exact key _ h3
  | ro c t => rw [hg] at h2; obtain ⟨C, te, fr, h3, _⟩ := h2; exact key _ h3

def Mu.add (m : Mu) (b : Nat) (l : Loc) : Mu := fun x => if x = b then some l else m x
theorem Mu.le_add {m : Mu} {b : Nat} {l : Loc} (h : m b = none) : Mu.le m (m.add b l) := by
  intro x y hx
  unfold Mu.add
  rw [if_neg]
  · exact hx
  · rintro rfl; rw [h] at hx; cases hx
theorem Ext.add {h : AHeap} {m : Mu} {l : Loc} (hm : m h.next = none) (hlim : h.next < h.lim) : Ext h m (m.add h.next l) := by
  refine ⟨?_, fun b hb => ?_⟩
  · intro x y hx
    unfold Mu.add
    rw [if_neg]
    · exact hx
    · rintro rfl; rw [hm] at hx; cases hx
  · unfold Mu.add; rw [if_neg (by omega)]
theorem Mu.add_self (m : Mu) (b : Nat) (l : Loc) : m.add b l b = some l := if_pos rfl

/-- A new block, at a place that no live block has. -/
theorem Rel.push {m : Mu} {h : AHeap} {w w' : World} (hr : Rel P B m h w) (hlim : h.next < h.lim) {l : Loc} {o : AObj}
    (hos : w'.os = w.os) (htape : w'.tape = w.tape) (hout : w'.output = w.output) (hh : ∀ k, k < w.heap.size → k ≠ l.blk → w'.heap[k]? = w.heap[k]?)
    (hp : B.prot l.blk = none) (hsep : ∀ b l', h.get b ≠ .dead → m b = some l' → l'.blk ≠ l.blk) (hok : OKObj P (m.add h.next l) l w' o) (hno : isRo o = false := by rfl) : Rel P B (m.add h.next l) (h.push o) w' := by
  have hle : Mu.le m (m.add h.next l) := Mu.le_add (hr.fresh _ (Nat.le_refl _) hlim).2
  have old : ∀ b l', h.get b ≠ .dead → (m.add h.next l) b = some l' → b ≠ h.next ∧ m b = some l' := by
    intro b l' hb hl'
    have hne : b ≠ h.next := by rintro rfl; exact hb (hr.fresh _ (Nat.le_refl _) hlim).1
    refine ⟨hne, ?_⟩
    unfold Mu.add at hl'
    rwa [if_neg hne] at hl'
  refine ⟨hos.trans hr.os, htape.trans hr.tape, hout.trans hr.output, ?_, ?_, ?_, ?_⟩
  · intro k x hx
    have := hr.prot k x hx
    have hk : k < w.heap.size := by
      rcases Nat.lt_or_ge k w.heap.size with h | h
      · exact h
      · rw [Array.getElem?_eq_none h] at this; cases this
    rw [hh k hk (by rintro rfl; rw [hp] at hx; cases hx)]
    exact this
  · intro b2 hb2
    rw [AHeap.get_push] at hb2 ⊢
    by_cases e : b2 = h.next
    · subst e
      rw [if_pos rfl] at hb2 ⊢
      exact ⟨l, Mu.add_self _ _ _, protOf_mk (fun q => by rw [hno] at q; cases q) (fun _ => hp), hok⟩
    · rw [if_neg e] at hb2 ⊢
      obtain ⟨l2, h1, h2, h3⟩ := hr.obj b2 hb2
      exact ⟨l2, hle _ _ h1, h2, h3.congr hle (hh _ (hr.lt_size hb2 h1) (hsep b2 l2 hb2 h1))⟩
  · intro b1 b2 l1 l2 h1 h2 h3 m1 m2 e12
    rw [AHeap.get_push] at h1 h2 h3
    by_cases e1 : b1 = h.next
    · by_cases e2 : b2 = h.next
      · rw [e1, e2]
      · rw [if_neg e2] at h2
        subst e1
        rw [Mu.add_self] at m1; cases m1
        exact absurd e12.symm (hsep b2 l2 h2 (old b2 l2 h2 m2).2)
    · rw [if_neg e1] at h1
      by_cases e2 : b2 = h.next
      · subst e2
        rw [Mu.add_self] at m2; cases m2
        exact absurd e12 (hsep b1 l1 h1 (old b1 l1 h1 m1).2)
      · rw [if_neg e2] at h2 h3
        exact hr.sep b1 b2 l1 l2 h1 h2 h3 (old b1 l1 h1 m1).2 (old b2 l2 h2 m2).2 e12
  · intro b2 hb2 hb3
    have hb2' : h.next + 1 ≤ b2 := hb2
    have hf := hr.fresh b2 (by omega) hb3
    refine ⟨?_, ?_⟩
    · rw [AHeap.get_push, if_neg (by omega)]; exact hf.1
    · unfold Mu.add; rw [if_neg (by omega)]; exact hf.2

/-- What the base keeps is looked at, too. -/
theorem Rel.pushRo {m : Mu} {h : AHeap} {w : World} (hr : Rel P B m h w) (hlim : h.next < h.lim) {l : Loc} {c : Row} {t : TypeId} (hp : B.prot l.blk ≠ none) (hok : OKObj P (m.add h.next l) l w (.ro c t)) :
    Rel P B (m.add h.next l) (h.push (.ro c t)) w := by
  have hle : Mu.le m (m.add h.next l) := Mu.le_add (hr.fresh _ (Nat.le_refl _) hlim).2
  have old : ∀ b l', h.get b ≠ .dead → (m.add h.next l) b = some l' → b ≠ h.next ∧ m b = some l' := by
    intro b l' hb hl'
    have hne : b ≠ h.next := by rintro rfl; exact hb (hr.fresh _ (Nat.le_refl _) hlim).1
    refine ⟨hne, ?_⟩
    unfold Mu.add at hl'
    rwa [if_neg hne] at hl'
  refine ⟨hr.os, hr.tape, hr.output, hr.prot, ?_, ?_, ?_⟩
  · intro b2 hb2
    rw [AHeap.get_push] at hb2 ⊢
    by_cases e : b2 = h.next
    · subst e
      rw [if_pos rfl] at hb2 ⊢
      exact ⟨l, Mu.add_self _ _ _, hp, hok⟩
    · rw [if_neg e] at hb2 ⊢
      obtain ⟨l2, h1, h2, h3⟩ := hr.obj b2 hb2
      exact ⟨l2, hle _ _ h1, h2, h3.congr hle rfl⟩
  · intro b1 b2 l1 l2 h1 h2 h3 m1 m2 e12
    rw [AHeap.get_push] at h1 h2 h3
    by_cases e2 : b2 = h.next
    · rw [if_pos e2] at h3; cases h3
    · rw [if_neg e2] at h2 h3
      have q2 := (old b2 l2 h2 m2).2
      by_cases e1 : b1 = h.next
      · subst e1
        rw [Mu.add_self] at m1; cases m1
        obtain ⟨l3, g1, g2, _⟩ := hr.obj b2 h2
        rw [q2] at g1; cases g1
        rw [e12] at hp
        exact absurd (protOf_none g2 h3) hp
      · rw [if_neg e1] at h1
        exact hr.sep b1 b2 l1 l2 h1 h2 h3 (old b1 l1 h1 m1).2 q2 e12
  · intro b2 hb2 hb3
    have hb2' : h.next + 1 ≤ b2 := hb2
    have hf := hr.fresh b2 (by omega) hb3
    refine ⟨?_, ?_⟩
    · rw [AHeap.get_push, if_neg (by omega)]; exact hf.1
    · unfold Mu.add; rw [if_neg (by omega)]; exact hf.2

theorem heap_push_other (w : World) (o : Obj) (k : Nat) (h : k < w.heap.size) : ({ w with heap := w.heap.push o } : World).heap[k]? = w.heap[k]? := by
  show (w.heap.push o)[k]? = _
  rw [Array.getElem?_push, if_neg (by omega)]
theorem heap_push_self (w : World) (o : Obj) : ({ w with heap := w.heap.push o } : World).heap[w.heap.size]? = some o := by
  show (w.heap.push o)[w.heap.size]? = _
  simp

/-- A new block at the heap's end. -/
theorem Rel.alloc {m : Mu} {h : AHeap} {w : World} (hr : Rel P B m h w) (hlim : h.next < h.lim) (cap : Nat) (o : AObj) (o' : Obj)
    (hok : OKObj P (m.add h.next ⟨w.heap.size, 0, cap⟩) ⟨w.heap.size, 0, cap⟩ { w with heap := w.heap.push o' } o) (hno : isRo o = false := by rfl) :
    Rel P B (m.add h.next ⟨w.heap.size, 0, cap⟩) (h.push o) { w with heap := w.heap.push o' } := by
  refine Rel.push (w := w) (w' := { w with heap := w.heap.push o' }) hr hlim rfl rfl rfl (fun k hk _ => heap_push_other w o' k hk) ?_ (fun b l' hb hl' => Nat.ne_of_lt (hr.lt_size hb hl')) hok hno
  cases hp : B.prot w.heap.size with
  | none => rfl
  | some x => have := hr.prot _ _ hp; simp at this

/-! ## Store, new, maps -/
theorem heap_setCell (w : World) (a : Addr) (u : Value) (k : Nat) (h : k ≠ a.block) : (w.setCell a u).heap[k]? = w.heap[k]? := by
  simp only [World.setCell, Array.getElem?_modify]
  rw [if_neg (by omega)]
theorem heap_setCell_self (w : World) (k o : Nat) (u : Value) (C : Array Value) (t : TypeId) (fr : Nat × Nat) (h : w.heap[k]? = some (.cells C t fr)) :
    (w.setCell ⟨k, o, none⟩ u).heap[k]? = some (.cells (C.setIfInBounds o u) t fr) := by
  simp only [World.setCell, Array.getElem?_modify, if_pos, h]
  rfl

theorem VRel.cell {m : Mu} {v v' : Value} (h : VRel m v v') (h1 : ∀ c, v ≠ .agg c) (h2 : ∀ c, v ≠ .tuple c) : (∀ c, v' ≠ .agg c) ∧ (∀ c, v' ≠ .tuple c) := by
  cases h <;> first
    | exact absurd rfl (h1 _)
    | exact absurd rfl (h2 _)
    | exact ⟨‹∀ c, _ ≠ Value.agg c›, ‹∀ c, _ ≠ Value.tuple c›⟩
    | exact ⟨(fun c h => (by cases h)), (fun c h => (by cases h))⟩

theorem run_store_ok (w : World) (a : Addr) (v old : Value) (h1 : ∀ c, v ≠ .agg c) (h2 : ∀ c, v ≠ .tuple c) (hc : w.cell? a = some old) (hf : w.frozen? a = false) :
    (Go.store a v).run P w = .ok () (w.setCell a v) := by
  unfold Go.store
  cases v <;> first
    | exact absurd rfl (h1 _)
    | exact absurd rfl (h2 _)
    | simp [Sem.run, hc, hf]

theorem runA_store {a : Addr} {v : Value} {hp h' : AHeap} {r : Unit} (h : (Go.store a v).runA P hp = some (r, h')) :
    (∀ c, v ≠ .agg c) ∧ (∀ c, v ≠ .tuple c) ∧ hp.setCell a v = some h' := by
  unfold Go.store at h
  cases v <;> simp only [Sem.runA] at h <;> first
    | cases h
    | (refine ⟨fun c h => (by cases h), fun c h => (by cases h), ?_⟩
       split at h
       · rename_i x hx
         simp only [Option.some.injEq, Prod.mk.injEq, true_and] at h
         rw [hx, h]
       · cases h)

theorem Sim.store {m : Mu} {a a' : Addr} {v v' : Value} (h : AdRel m a a') (hv : VRel m v v') : Sim P B m (Go.store a v) (Go.store a' v') (fun _ _ _ => True) := by
  intro hp w hr r h' he
  obtain ⟨q1, q2, he⟩ := runA_store he
  obtain ⟨b, o, l, rfl, hm, rfl⟩ := h
  simp only [AHeap.setCell] at he
  cases hb : hp.get b with
  | cells c t =>
    rw [hb] at he
    simp only at he
    by_cases ho : o < c.len
    · rw [show Nat.blt o c.len = true by simpa using ho] at he
      obtain rfl := Option.some.inj he
      obtain ⟨l', hl', hp', hok⟩ := hr.obj b (by rw [hb]; intro h; cases h)
      obtain rfl : l = l' := by rw [hm] at hl'; exact Option.some.inj hl'
      rw [hb] at hok
      obtain ⟨C, fr, h1, h2, h3, h4, h5⟩ := hok
      obtain ⟨p1, p2⟩ := hv.cell q1 q2
      obtain ⟨old0, hold0⟩ := Row.get?_lt ho
      obtain ⟨old, hold, _⟩ := h4 o old0 hold0
      have hcell : w.cell? ⟨l.blk, l.off + o, Option.none⟩ = some old := by simp [World.cell?, h1, hold]
      have hfr : w.frozen? ⟨l.blk, l.off + o, Option.none⟩ = false := by
        have := h2 (l.off + o) (by omega)
        simp only [World.frozen?, h1]
        simp; omega
      refine ⟨(), w.setCell ⟨l.blk, l.off + o, Option.none⟩ v', m, run_store_ok w _ _ old p1 p2 hcell hfr, Ext.refl _ m, ?_, trivial⟩
      refine hr.update (by rw [hb]; intro h; cases h) hm rfl rfl rfl (fun k hk => heap_setCell _ _ _ _ hk) ?_
      refine ⟨C.setIfInBounds (l.off + o) v', fr, heap_setCell_self w l.blk (l.off + o) v' C t fr h1, ?_, ?_, ?_, ?_⟩
      · simpa using h2
      · simpa [Row.set] using h3
      · intro i x hx
        rw [Row.get?_set] at hx
        by_cases e : o = i
        · subst e
          rw [if_pos rfl, if_pos ho] at hx
          obtain rfl := Option.some.inj hx
          exact ⟨v', by rw [Array.getElem?_setIfInBounds]; simp; omega, hv⟩
        · rw [if_neg e] at hx
          obtain ⟨y, hy, hxy⟩ := h4 i x hx
          exact ⟨y, by rw [Array.getElem?_setIfInBounds, if_neg (by omega)]; exact hy, hxy⟩
      · simpa using h5
    · rw [show Nat.blt o c.len = false by cases hq : Nat.blt o c.len with | false => rfl | true => exact absurd (by simpa using hq) ho] at he; cases he
  | dead => rw [hb] at he; cases he
  | map => rw [hb] at he; cases he
  | iter => rw [hb] at he; cases he
  | miter => rw [hb] at he; cases he
  | ro => rw [hb] at he; cases he

theorem Sim.newCells {m : Mu} {c c' : Array Value} {t : TypeId} (h : ARel m c c') :
    Sim P B m (newObj (.cells c t)) (newObj (.cells c' t)) (fun m' r r' => ∃ l, m' r = some l ∧ l.blk = r' ∧ l.off = 0) := by
  intro hp w hr r h' he
  simp only [newObj, Sem.runA] at he
  split at he
  case h_2 => cases he
  rename_i hlim
  simp only [Nat.blt_eq] at hlim
  simp only [Option.some.injEq, Prod.mk.injEq] at he
  obtain ⟨rfl, rfl⟩ := he
  let cap := c.size / ((P.info? t).map (·.size)).getD 1
  have hle : Mu.le m (m.add hp.next ⟨w.heap.size, 0, cap⟩) := Mu.le_add (hr.fresh _ (Nat.le_refl _) hlim).2
  refine ⟨w.heap.size, { w with heap := w.heap.push (.cells c' t) }, m.add hp.next ⟨w.heap.size, 0, cap⟩, by simp [newObj, Sem.run], Ext.add (hr.fresh _ (Nat.le_refl _) hlim).2 hlim, ?_, ⟨_, Mu.add_self _ _ _, rfl, rfl⟩⟩
  refine hr.alloc hlim cap _ _ ⟨c', (0, 0), heap_push_self w _, ?_, ?_, ?_, ?_⟩
  · intro i _ h; omega
  · simp [Row.ofList_len, h.1]
  · intro i v hv
    rw [Row.ofList_get?] at hv
    have hi : i < c.size := by
      rcases Nat.lt_or_ge i c.size with x | x
      · exact x
      · rw [List.getElem?_eq_none (by simpa using x)] at hv; cases hv
    have hi' : i < c'.size := by rw [← h.1]; exact hi
    refine ⟨c'[i], by simp [hi'], ?_⟩
    have hv2 : v = c[i] := by simpa [hi] using hv.symm
    rw [hv2]
    exact (h.2 i hi hi').mono hle
  · intro s hs
    simp only [Nat.zero_add, Nat.zero_mod, and_true]
    show cap * s ≤ c'.size
    have : cap = c.size / s := by simp [cap, hs]
    rw [this, ← h.1]
    exact Nat.div_mul_le_self _ _

theorem Sim.newMap {m : Mu} {k : Nat} : Sim P B m (newObj (.map #[] k)) (newObj (.map #[] k)) (fun m' r r' => VRel m' (.map (some r)) (.map (some r'))) := by
  intro hp w hr r h' he
  simp only [newObj, Sem.runA] at he
  split at he
  case h_2 => cases he
  rename_i hlim
  simp only [Nat.blt_eq] at hlim
  simp only [Option.some.injEq, Prod.mk.injEq] at he
  obtain ⟨rfl, rfl⟩ := he
  have hle : Mu.le m (m.add hp.next ⟨w.heap.size, 0, 0⟩) := Mu.le_add (hr.fresh _ (Nat.le_refl _) hlim).2
  refine ⟨w.heap.size, { w with heap := w.heap.push (.map #[] k) }, m.add hp.next ⟨w.heap.size, 0, 0⟩, by simp [newObj, Sem.run], Ext.add (hr.fresh _ (Nat.le_refl _) hlim).2 hlim, ?_, .map _ ⟨w.heap.size, 0, 0⟩ (Mu.add_self _ _ _)⟩
  exact hr.alloc hlim 0 _ _ ⟨#[], heap_push_self w _, rfl, rfl, fun i h => by simp at h⟩

theorem Sim.newIter {m : Mu} {s : ByteArray} {p : Nat} : Sim P B m (newObj (.stringIter s p)) (newObj (.stringIter s p)) (fun m' r r' => ∃ l, m' r = some l ∧ l.blk = r' ∧ l.off = 0) := by
  intro hp w hr r h' he
  simp only [newObj, Sem.runA] at he
  split at he
  case h_2 => cases he
  rename_i hlim
  simp only [Nat.blt_eq] at hlim
  simp only [Option.some.injEq, Prod.mk.injEq] at he
  obtain ⟨rfl, rfl⟩ := he
  have hle : Mu.le m (m.add hp.next ⟨w.heap.size, 0, 0⟩) := Mu.le_add (hr.fresh _ (Nat.le_refl _) hlim).2
  refine ⟨w.heap.size, { w with heap := w.heap.push (.stringIter s p) }, m.add hp.next ⟨w.heap.size, 0, 0⟩, by simp [newObj, Sem.run], Ext.add (hr.fresh _ (Nat.le_refl _) hlim).2 hlim, ?_, ⟨_, Mu.add_self _ _ _, rfl, rfl⟩⟩
  exact hr.alloc hlim 0 _ _ ⟨heap_push_self w _, rfl⟩

/-- Objects that are no cells. -/
def ORel (m : Mu) : Obj → Obj → Prop
  | .map es k, o' => ∃ es', o' = .map es' k ∧ es.size = es'.size ∧ ∀ i (h : i < es.size) (h' : i < es'.size), ERel m es[i] es'[i]
  | .stringIter s p, o' => o' = .stringIter s p
  | _, _ => False

theorem Sim.getObj {m : Mu} {b : Nat} {l : Loc} (hm : m b = some l) : Sim P B m (Go.getObj b) (Go.getObj l.blk) (fun m' o o' => ORel m' o o') := by
  intro hp w hr r h' he
  simp only [Go.getObj, Sem.runA] at he
  cases hb : hp.get b with
  | cells c t => rw [hb] at he; cases he
  | dead => rw [hb] at he; cases he
  | miter => rw [hb] at he; cases he
  | ro => rw [hb] at he; cases he
  | map es k =>
    rw [hb] at he
    simp only [Option.some.injEq, Prod.mk.injEq] at he
    obtain ⟨rfl, rfl⟩ := he
    obtain ⟨l', hl', hp', hok⟩ := hr.obj b (by rw [hb]; intro h; cases h)
    obtain rfl : l = l' := by rw [hm] at hl'; exact Option.some.inj hl'
    rw [hb] at hok
    obtain ⟨es', h1, h2, h3, h4⟩ := hok
    exact ⟨.map es' k, w, m, by simp [Go.getObj, Sem.run, h1], Ext.refl _ m, hr, ⟨es', rfl, h3, h4⟩⟩
  | iter s p =>
    rw [hb] at he
    simp only [Option.some.injEq, Prod.mk.injEq] at he
    obtain ⟨rfl, rfl⟩ := he
    obtain ⟨l', hl', hp', hok⟩ := hr.obj b (by rw [hb]; intro h; cases h)
    obtain rfl : l = l' := by rw [hm] at hl'; exact Option.some.inj hl'
    rw [hb] at hok
    exact ⟨.stringIter s p, w, m, by simp [Go.getObj, Sem.run, hok.1], Ext.refl _ m, hr, rfl⟩

theorem heap_set_other (w : World) (r k : Nat) (o : Obj) (h : k ≠ r) : ({ w with heap := w.heap.setIfInBounds r o } : World).heap[k]? = w.heap[k]? := by
  show (w.heap.setIfInBounds r o)[k]? = _
  rw [Array.getElem?_setIfInBounds, if_neg (by omega)]
theorem heap_set_self (w : World) (r : Nat) (o o0 : Obj) (h : w.heap[r]? = some o0) : ({ w with heap := w.heap.setIfInBounds r o } : World).heap[r]? = some o := by
  show (w.heap.setIfInBounds r o)[r]? = _
  have : r < w.heap.size := by
    rcases Nat.lt_or_ge r w.heap.size with x | x
    · exact x
    · rw [Array.getElem?_eq_none x] at h; cases h
  rw [Array.getElem?_setIfInBounds]; simp [this]

theorem Sim.setObj {m : Mu} {b : Nat} {l : Loc} (hm : m b = some l) {o o' : Obj} (ho : ORel m o o') : Sim P B m (Go.setObj b o) (Go.setObj l.blk o') (fun _ _ _ => True) := by
  intro hp w hr r h' he
  cases o with
  | map es k =>
    obtain ⟨es', rfl, h3, h4⟩ := ho
    simp only [Go.setObj, Sem.runA] at he
    cases hb : hp.get b with
    | cells c t => rw [hb] at he; cases he
    | dead => rw [hb] at he; cases he
    | iter s p => rw [hb] at he; cases he
    | miter => rw [hb] at he; cases he
    | ro => rw [hb] at he; cases he
    | map es0 k0 =>
      rw [hb] at he
      simp only [Option.some.injEq, Prod.mk.injEq] at he
      obtain ⟨_, rfl⟩ := he
      obtain ⟨l', hl', hp', hok⟩ := hr.obj b (by rw [hb]; intro h; cases h)
      obtain rfl : l = l' := by rw [hm] at hl'; exact Option.some.inj hl'
      rw [hb] at hok
      obtain ⟨es0', h1, h2, _, _⟩ := hok
      refine ⟨(), { w with heap := w.heap.setIfInBounds l.blk (.map es' k) }, m, by simp [Go.setObj, Sem.run, h1], Ext.refl _ m, ?_, trivial⟩
      refine Rel.update (w := w) (w' := { w with heap := w.heap.setIfInBounds l.blk (.map es' k) }) hr (by rw [hb]; intro h; cases h) hm rfl rfl rfl (fun k hk => heap_set_other w _ _ _ hk) ?_
      exact ⟨es', heap_set_self w _ _ _ h1, h2, h3, h4⟩
  | stringIter s p =>
    obtain rfl := ho
    simp only [Go.setObj, Sem.runA] at he
    cases hb : hp.get b with
    | cells c t => rw [hb] at he; cases he
    | dead => rw [hb] at he; cases he
    | map es0 k0 => rw [hb] at he; cases he
    | miter => rw [hb] at he; cases he
    | ro => rw [hb] at he; cases he
    | iter s0 p0 =>
      rw [hb] at he
      simp only [Option.some.injEq, Prod.mk.injEq] at he
      obtain ⟨_, rfl⟩ := he
      obtain ⟨l', hl', hp', hok⟩ := hr.obj b (by rw [hb]; intro h; cases h)
      obtain rfl : l = l' := by rw [hm] at hl'; exact Option.some.inj hl'
      rw [hb] at hok
      refine ⟨(), { w with heap := w.heap.setIfInBounds l.blk (.stringIter s p) }, m, by simp [Go.setObj, Sem.run, hok.1], Ext.refl _ m, ?_, trivial⟩
      refine Rel.update (w := w) (w' := { w with heap := w.heap.setIfInBounds l.blk (.stringIter s p) }) hr (by rw [hb]; intro h; cases h) hm rfl rfl rfl (fun k hk => heap_set_other w _ _ _ hk) ?_
      exact ⟨heap_set_self w _ _ _ hok.1, hok.2⟩
  | _ => exact ho.elim
end
end Go.Ab
