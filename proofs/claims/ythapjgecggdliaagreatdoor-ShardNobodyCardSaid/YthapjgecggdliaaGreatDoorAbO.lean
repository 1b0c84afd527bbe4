import Derived.Test.YthapjgecggdliaaGreatDoorAbN
namespace Go.Ab
open Go
section
variable {P : Program}

/-! ## Hiding blocks, and showing them again -/
theorem Rel.congr {B : Base} {m : Mu} {h h' : AHeap} {w : World} (hr : Rel P B m h w) (hg : ∀ b, h'.get b = h.get b) (hn : h'.next = h.next) (hl : h'.lim = h.lim) : Rel P B m h' w := by
  refine ⟨hr.os, hr.tape, hr.output, hr.prot, fun b hb => ?_, fun b b' l l' h1 h2 h3 => ?_, fun b h1 h2 => ?_⟩
  · rw [hg] at hb ⊢; exact hr.obj b hb
  · rw [hg] at h1 h2 h3; exact hr.sep b b' l l' h1 h2 h3
  · rw [hg]; exact hr.fresh b (by omega) (by omega)

theorem Rel.world_some {B : Base} {m : Mu} {h : AHeap} {w : World} (hr : Rel P B m h w) {b : Nat} (hb : h.get b ≠ .dead) {l : Loc} (hl : m b = some l) : ∃ o, w.heap[l.blk]? = some o := by
  have := hr.lt_size hb hl
  exact ⟨_, Array.getElem?_eq_getElem this⟩

open Classical in
/-- The base that keeps the hidden blocks as they are. -/
noncomputable def Base.hide (B : Base) (m : Mu) (h K : AHeap) (w : World) : Base :=
  { B with prot := fun k => if ∃ b l, h.get b ≠ .dead ∧ isRo (h.get b) = false ∧ K.get b = .dead ∧ m b = some l ∧ l.blk = k then w.heap[k]? else B.prot k }

theorem Rel.hide {B : Base} {m : Mu} {h K : AHeap} {w : World} (hr : Rel P B m h w) (hK : ∀ b, K.get b ≠ .dead → K.get b = h.get b)
    (hfresh : ∀ b, K.next ≤ b → b < K.lim → K.get b = .dead ∧ m b = none) : Rel P (B.hide m h K w) m K w := by
  refine ⟨hr.os, hr.tape, hr.output, ?_, ?_, ?_, hfresh⟩
  · intro k o hk
    simp only [Base.hide] at hk
    split at hk
    · exact hk
    · exact hr.prot k o hk
  · intro b hb
    have e := hK b hb
    have hb' : h.get b ≠ .dead := by rw [← e]; exact hb
    obtain ⟨l, h1, h2, h3⟩ := hr.obj b hb'
    refine ⟨l, h1, ?_, by rw [e]; exact h3⟩
    rw [e]
    refine protOf_mk (fun q => ?_) (fun q => ?_)
    · simp only [Base.hide]
      split
      · obtain ⟨o, ho⟩ := hr.world_some hb' h1
        rw [ho]; intro z; cases z
      · exact protOf_some h2 q
    · simp only [Base.hide]
      rw [if_neg]
      · exact protOf_none h2 q
      · rintro ⟨b2, l2, q1, _, q2, q3, q4⟩
        have := hr.sep b2 b l2 l q1 hb' q q3 h1 q4
        subst this
        exact hb q2
  · intro b b' l l' h1 h2 h3
    exact hr.sep b b' l l' (by rw [← hK b h1]; exact h1) (by rw [← hK b' h2]; exact h2) (by rw [← hK b' h2]; exact h3)

theorem Rel.reveal {B : Base} {m m' : Mu} {h K K' H' : AHeap} {w w' : World} (hr : Rel P B m h w) (hr' : Rel P (B.hide m h K w) m' K' w') (hm : Mu.le m m')
    (hKh : ∀ b, K.get b ≠ .dead → K.get b = h.get b) (hro : ∀ b, isRo (K'.get b) = true → K'.get b = K.get b)
    (hH1 : ∀ b, (h.get b ≠ .dead ∧ K.get b = .dead) → H'.get b = h.get b) (hH2 : ∀ b, ¬ (h.get b ≠ .dead ∧ K.get b = .dead) → H'.get b = K'.get b)
    (hfresh : ∀ b, H'.next ≤ b → b < H'.lim → H'.get b = .dead ∧ m' b = none) : Rel P B m' H' w' := by
  have hidprot : ∀ b l, h.get b ≠ .dead → isRo (h.get b) = false → K.get b = .dead → m b = some l → (B.hide m h K w).prot l.blk = w.heap[l.blk]? := by
    intro b l q1 q0 q2 q3
    simp only [Base.hide]
    rw [if_pos ⟨b, l, q1, q0, q2, q3, rfl⟩]
  have kept : ∀ b, isRo (K'.get b) = true → h.get b ≠ .dead ∧ isRo (h.get b) = true ∧ K.get b ≠ .dead := by
    intro b hb
    have e := hro b hb
    have hk : K.get b ≠ .dead := by intro z; rw [e, z] at hb; cases hb
    have e2 := hKh b hk
    rw [e, e2] at hb
    exact ⟨by rw [← e2]; exact hk, hb, hk⟩
  refine ⟨hr'.os, hr'.tape, hr'.output, ?_, ?_, ?_, hfresh⟩
  · intro k o hk
    refine hr'.prot k o ?_
    simp only [Base.hide]
    rw [if_neg]
    · exact hk
    · rintro ⟨b, l, q1, q0, q2, q3, rfl⟩
      obtain ⟨l2, h1, h2, _⟩ := hr.obj b q1
      rw [q3] at h1; cases h1
      rw [protOf_none h2 q0] at hk; cases hk
  · intro b hb
    by_cases c : h.get b ≠ .dead ∧ K.get b = .dead
    · rw [hH1 b c] at hb ⊢
      obtain ⟨l, h1, h2, h3⟩ := hr.obj b hb
      refine ⟨l, hm _ _ h1, h2, h3.congr hm ?_⟩
      obtain ⟨o, ho⟩ := hr.world_some hb h1
      rw [ho]
      refine hr'.prot _ _ ?_
      cases hq : isRo (h.get b) with
      | false => rw [hidprot b l c.1 hq c.2 h1]; exact ho
      | true =>
        simp only [Base.hide]
        split
        · exact ho
        · cases hp : B.prot l.blk with
          | none => exact absurd hp (protOf_some h2 hq)
          | some x => exact (hr.prot _ _ hp).symm.trans ho
    · rw [hH2 b c] at hb ⊢
      obtain ⟨l, h1, h2, h3⟩ := hr'.obj b hb
      refine ⟨l, h1, ?_, h3⟩
      refine protOf_mk (fun q => ?_) (fun q => ?_)
      · obtain ⟨k1, k2, k3⟩ := kept b q
        obtain ⟨l3, g1, g2, _⟩ := hr.obj b k1
        have := hm _ _ g1
        rw [h1] at this; cases this
        exact protOf_some g2 k2
      · have := protOf_none h2 q
        simp only [Base.hide] at this
        split at this
        · rename_i hex
          obtain ⟨b2, l2, q1, q0, q2, q3, q4⟩ := hex
          obtain ⟨o, ho⟩ := hr.world_some q1 q3
          rw [q4] at ho
          rw [ho] at this; cases this
        · exact this
  · intro b b' l l' h1 h2 hnr m1 m2 e
    have hid : ∀ x lx, h.get x ≠ .dead ∧ K.get x = .dead → m' x = some lx → m x = some lx := by
      intro x lx c hx
      obtain ⟨l2, q1, _⟩ := hr.obj x c.1
      have := hm _ _ q1
      rw [hx] at this; cases this; exact q1
    have notp : ∀ x lx, K'.get x ≠ .dead → isRo (K'.get x) = false → m' x = some lx → (B.hide m h K w).prot lx.blk = none := by
      intro x lx c c0 hx
      obtain ⟨l2, q1, q2, _⟩ := hr'.obj x c
      rw [hx] at q1; cases q1; exact protOf_none q2 c0
    by_cases c : h.get b ≠ .dead ∧ K.get b = .dead
    · rw [hH1 b c] at h1
      by_cases c' : h.get b' ≠ .dead ∧ K.get b' = .dead
      · rw [hH1 b' c'] at hnr
        exact hr.sep b b' l l' c.1 c'.1 hnr (hid b l c m1) (hid b' l' c' m2) e
      · rw [hH2 b' c'] at h2 hnr
        have q := notp b' l' h2 hnr m2
        rw [← e] at q
        have g := hid b l c m1
        obtain ⟨o, ho⟩ := hr.world_some c.1 g
        cases hq : isRo (h.get b) with
        | false => rw [hidprot b l c.1 hq c.2 g, ho] at q; cases q
        | true =>
          simp only [Base.hide] at q
          split at q
          · rw [ho] at q; cases q
          · obtain ⟨l3, g1, g2, _⟩ := hr.obj b c.1
            rw [g] at g1; cases g1
            exact absurd q (protOf_some g2 hq)
    · rw [hH2 b c] at h1
      by_cases c' : h.get b' ≠ .dead ∧ K.get b' = .dead
      · rw [hH1 b' c'] at hnr
        have g' := hid b' l' c' m2
        cases hq : isRo (K'.get b) with
        | false =>
          have q := notp b l h1 hq m1
          rw [e, hidprot b' l' c'.1 hnr c'.2 g'] at q
          obtain ⟨o, ho⟩ := hr.world_some c'.1 g'
          rw [ho] at q; cases q
        | true =>
          obtain ⟨k1, k2, k3⟩ := kept b hq
          obtain ⟨l3, g1, _, _⟩ := hr.obj b k1
          have := hm _ _ g1
          rw [m1] at this; cases this
          have e3 := hr.sep b b' l l' k1 c'.1 hnr g1 g' e
          subst e3
          rw [k2] at hnr
      · rw [hH2 b' c'] at h2 hnr
        exact hr'.sep b b' l l' h1 h2 hnr m1 m2 e

/-! ## Operations that only read; operations that only make -/
def _root_.Go.Sem.runR {α : Type} (P : Program) : Sem α → AHeap → Option α
  | .pure a, _ => some a
  | .load _ a k, h => match h.cell? a with
    | some v => (k v).runR P h
    | none => none
  | .getObj r k, h => match h.get r with
    | .map es c => (k (.map es c)).runR P h
    | .iter s p => (k (.stringIter s p)).runR P h
    | _ => none
  | .program k, h => (k P).runR P h
  | .mark _ k, h => k.runR P h
  | _, _ => none
theorem runR_runA {α : Type} {s : Sem α} : ∀ {h : AHeap} {a : α}, s.runR P h = some a → s.runA P h = some (a, h) := by
  induction s with
  | pure a => intro h b e; simp only [Sem.runR, Option.some.injEq] at e; subst e; rfl
  | load md a k ih =>
    intro h b e
    simp only [Sem.runR] at e
    simp only [Sem.runA]
    split at e
    · rename_i v hv; rw [hv]; exact ih _ e
    · cases e
  | getObj r k ih =>
    intro h b e
    simp only [Sem.runR] at e
    simp only [Sem.runA]
    split at e
    · rename_i es c hv; rw [hv]; exact ih _ e
    · rename_i es c hv; rw [hv]; exact ih _ e
    · cases e
  | program k ih => intro h b e; simp only [Sem.runR] at e; simp only [Sem.runA]; exact ih _ e
  | mark md k ih => intro h b e; simp only [Sem.runR] at e; simp only [Sem.runA]; exact ih e
  | _ => intro h b e; simp [Sem.runR] at e

theorem runP_runA {α : Type} {s : Sem α} : ∀ {a : α}, s.runP P = some a → ∀ h, s.runA P h = some (a, h) := by
  induction s with
  | pure a => intro b e h; simp only [Sem.runP, Option.some.injEq] at e; subst e; rfl
  | program k ih => intro b e h; simp only [Sem.runP] at e; simp only [Sem.runA]; exact ih _ e h
  | mark md k ih => intro b e h; simp only [Sem.runP] at e; simp only [Sem.runA]; exact ih e h
  | _ => intro b e h; simp [Sem.runP] at e

def _root_.Go.Sem.runN {α : Type} (P : Program) (next : Nat) : Sem α → Option (α × AObj)
  | .program k => (k P).runN P next
  | .mark _ k => k.runN P next
  | .new (.cells c e (0, 0)) k => match (k next).runP P with
    | some a => some (a, .cells (Row.ofList c.toList) e)
    | none => none
  | .new (.map es c) k => match (k next).runP P with
    | some a => some (a, .map es c)
    | none => none
  | _ => none
theorem runN_runA {α : Type} {s : Sem α} : ∀ {h : AHeap} {a : α} {o : AObj}, s.runN P h.next = some (a, o) → h.next < h.lim → s.runA P h = some (a, h.push o) := by
  induction s with
  | program k ih => intro h a o e hl; simp only [Sem.runN] at e; simp only [Sem.runA]; exact ih _ e hl
  | mark md k ih => intro h a o e hl; simp only [Sem.runN] at e; simp only [Sem.runA]; exact ih e hl
  | new ob k ih =>
    intro h a o e hl
    have hb : Nat.blt h.next h.lim = true := by simpa using hl
    cases ob with
    | cells c t fr =>
      obtain ⟨x, y⟩ := fr
      cases x <;> cases y <;> simp only [Sem.runN] at e <;> try (cases e; done)
      split at e
      · rename_i b hb2
        simp only [Option.some.injEq, Prod.mk.injEq] at e
        obtain ⟨rfl, rfl⟩ := e
        simp only [Sem.runA, hb]
        exact runP_runA hb2 _
      · cases e
    | map es c =>
      simp only [Sem.runN] at e
      split at e
      · rename_i b hb2
        simp only [Option.some.injEq, Prod.mk.injEq] at e
        obtain ⟨rfl, rfl⟩ := e
        simp only [Sem.runA, hb]
        exact runP_runA hb2 _
      · cases e
    | _ => simp [Sem.runN] at e
  | _ => intro h a o e hl; simp [Sem.runN] at e

def outPv (s : Option Value) : Option Value := match s with
  | some v => if flatV v then some v else none
  | none => none

/-- An operation that only reads. -/
def opR (P : Program) (ρ : Operand → Value) (o : Oper) (h : AHeap) : Option Value :=
  match o.op with
  | .move x | .assign x => some (ρ x)
  | .pick c a b => match ρ c with | .bool t => some (if t then ρ a else ρ b) | _ => none
  | .build t ps => (Instr.build t (ps.map fun (i, x) => (i, ρ x))).runR P h
  | .load t a => (Instr.loadAt t (ρ a)).runR P h
  | .nilCheck x => match ρ x with | .pointer (some a) => some (.pointer (some a)) | _ => none
  | .binOp op t x y _ =>
    if flatV (ρ x) && flatV (ρ y) then outPv (Sem.runP P (do eqGuard op t x y (ρ x) (ρ y); binOp op t (ρ x) (ρ y)))
    else nilEqA P op t (ρ x) (ρ y)
  | .unOp op _ x => if flatV (ρ x) then outPv (Sem.runP P (Op.unary op (ρ x))) else none
  | .convert src dst x =>
    match P.underlying src, P.underlying dst, ρ x with
    | some .string, some (.slice _), .string _ => none
    | some (.slice e), some .string, .slice a n c =>
      match P.underlying e, bytesA h (.slice a n c) with
      | some (.int .u8), some s => some (.string s)
      | _, _ => none
    | _, _, v => if flatV v then outPv (Sem.runP P (convert src dst v)) else none
  | .makeInterface t x => (Instr.makeInterface t (ρ x)).runR P h
  | .makeFunc fn a c => (Instr.makeFunc fn (a.map ρ) (c.map ρ)).runR P h
  | .slice t x lo hi mx =>
    if optFlat (lo.map ρ) && optFlat (hi.map ρ) && optFlat (mx.map ρ) then
    match ρ x with
    | .string s => outPv (Sem.runP P (Instr.sliceAt t (.string s) (lo.map ρ) (hi.map ρ) (mx.map ρ)))
    | v => sliceA P t v (lo.map ρ) (hi.map ρ) (mx.map ρ)
    else none
  | .fieldAddr s x f => (Instr.fieldAt s (ρ x) f).runR P h
  | .field s x f => (Instr.field s (ρ x) f).runR P h
  | .indexAddr t x i => (Instr.indexAt t (ρ x) (ρ i)).runR P h
  | .index t x i => (Instr.index t (ρ x) (ρ i)).runR P h
  | .lookup t x i ok => (lookupS t (ρ x) (ρ i) ok).runR P h
  | .extract x i => (Instr.extract (ρ x) i).runR P h
  | .call c =>
    match c.callee with
    | .builtin .len => (Builtin.len_ c.argTypes o.type (c.args.map ρ)).runR P h
    | .builtin .min => if (c.args.map ρ).toList.all flatV then outPv (Sem.runP P (Builtin.min_ c.argTypes o.type (c.args.map ρ))) else none
    | .builtin .max => if (c.args.map ρ).toList.all flatV then outPv (Sem.runP P (Builtin.max_ c.argTypes o.type (c.args.map ρ))) else none
    | _ => none
  | _ => none

theorem opR_opA {enters : FuncId → FKind} {ρ : Operand → Value} {o : Oper} {h : AHeap} {v : Value} (he : opR P ρ o h = some v) : opA P enters ρ o h = some (.val v, h) := by
  have hR : ∀ (s : Sem Value), s.runR P h = some v → outV (s.runA P h) = some (.val v, h) := by
    intro s e; rw [runR_runA e]; rfl
  have hP : ∀ (s : Option Value), outPv s = some v → outP s h = some (.val v, h) := by
    intro s e
    unfold outPv at e
    unfold outP
    split at e
    · split at e
      · rename_i hf; obtain rfl := Option.some.inj e; dsimp only; rw [if_pos hf]
      · cases e
    · cases e
  unfold opR at he
  unfold opA
  split at he
  · obtain rfl := Option.some.inj he; rename_i e; rw [e]
  · obtain rfl := Option.some.inj he; rename_i e; rw [e]
  · rename_i e; rw [e]; dsimp only; split at he
    · rename_i e2; rw [e2]; obtain rfl := Option.some.inj he; rfl
    · cases he
  · rename_i e; rw [e]; exact hR _ he
  · rename_i e; rw [e]; exact hR _ he
  · rename_i e; rw [e]; dsimp only; split at he
    · rename_i e2; rw [e2]; obtain rfl := Option.some.inj he; rfl
    · cases he
  · rename_i e; rw [e]; dsimp only; split at he
    · rename_i e2; rw [if_pos e2]; exact hP _ he
    · rename_i e2; rw [if_neg e2, he]
  · rename_i e; rw [e]; dsimp only; split at he
    · rename_i e2; rw [if_pos e2]; exact hP _ he
    · cases he
  · rename_i e; rw [e]; dsimp only; split at he
    · cases he
    · rename_i e1 e2 e3; rw [e1, e2, e3]; dsimp only; split at he
      · rename_i e4 e5; rw [e4, e5]; obtain rfl := Option.some.inj he; rfl
      · cases he
    · rename_i q1 q2
      split
      · rename_i e1 e2 e3; exact absurd e3 (by intro e3; exact q1 _ _ e1 e2 e3)
      · rename_i e1 e2 e3; exact absurd e3 (by intro e3; exact q2 _ _ _ _ e1 e2 e3)
      · split at he
        · rename_i e2; rw [if_pos e2]; exact hP _ he
        · cases he
  · rename_i e; rw [e]; exact hR _ he
  · rename_i e; rw [e]; exact hR _ he
  · rename_i e; rw [e]; dsimp only; split at he
    · rename_i e2; rw [if_pos e2]; split at he
      · rename_i e3; rw [e3]; exact hP _ he
      · rename_i hne
        split
        · rename_i e3; exact absurd e3 (hne _)
        · rw [he]
    · cases he
  · rename_i e; rw [e]; exact hR _ he
  · rename_i e; rw [e]; exact hR _ he
  · rename_i e; rw [e]; exact hR _ he
  · rename_i e; rw [e]; exact hR _ he
  · rename_i e; rw [e]; exact hR _ he
  · rename_i e; rw [e]; exact hR _ he
  · rename_i e; rw [e]; dsimp only; split at he
    · rename_i e2; rw [e2]; exact hR _ he
    · rename_i e2; rw [e2]; dsimp only; split at he
      · rename_i e3; rw [if_pos e3]; exact hP _ he
      · cases he
    · rename_i e2; rw [e2]; dsimp only; split at he
      · rename_i e3; rw [if_pos e3]; exact hP _ he
      · cases he
    · cases he
  · cases he

/-- An operation that only makes a block. -/
def opN (P : Program) (ρ : Operand → Value) (o : Oper) (next : Nat) : Option (Value × AObj) :=
  match o.op with
  | .alloc t => (Instr.alloc t true (.tuple #[])).runN P next
  | .box t x => (Instr.box t (ρ x)).runN P next
  | .buildSlice t n ps => match (Instr.buildSlice t n (ps.map fun (i, x) => (i, ρ x))).runN P next with
    | some (v, ob) => if capOk v then some (v, ob) else none
    | none => none
  | .makeSlice t l c => match (Instr.makeSlice t (ρ l) (ρ c)).runN P next with
    | some (v, ob) => if capOk v then some (v, ob) else none
    | none => none
  | .makeMap t none => (Instr.makeMap t none).runN P next
  | _ => none
theorem runN_ro {α : Type} {s : Sem α} {n : Nat} : ∀ {a : α} {o : AObj}, s.runN P n = some (a, o) → isRo o = false := by
  induction s with
  | program k ih => intro a o e; simp only [Sem.runN] at e; exact ih _ e
  | mark md k ih => intro a o e; simp only [Sem.runN] at e; exact ih e
  | new ob k ih =>
    intro a o e
    cases ob with
    | cells c t fr =>
      obtain ⟨x, y⟩ := fr
      cases x <;> cases y <;> simp only [Sem.runN] at e <;> try (cases e; done)
      split at e
      · simp only [Option.some.injEq, Prod.mk.injEq] at e
        obtain ⟨_, rfl⟩ := e
        rfl
      · cases e
    | map es c =>
      simp only [Sem.runN] at e
      split at e
      · simp only [Option.some.injEq, Prod.mk.injEq] at e
        obtain ⟨_, rfl⟩ := e
        rfl
      · cases e
    | _ => simp [Sem.runN] at e
  | _ => intro a o e; simp [Sem.runN] at e
theorem opN_ro {ρ : Operand → Value} {o : Oper} {n : Nat} {v : Value} {ob : AObj} (he : opN P ρ o n = some (v, ob)) : isRo ob = false := by
  unfold opN at he
  split at he
  · exact runN_ro he
  · exact runN_ro he
  · split at he
    · rename_i e; split at he
      · obtain ⟨_, rfl⟩ := by simpa using he
        exact runN_ro e
      · cases he
    · cases he
  · split at he
    · rename_i e; split at he
      · obtain ⟨_, rfl⟩ := by simpa using he
        exact runN_ro e
      · cases he
    · cases he
  · exact runN_ro he
  · cases he
theorem opN_opA {enters : FuncId → FKind} {ρ : Operand → Value} {o : Oper} {h : AHeap} {v : Value} {ob : AObj} (he : opN P ρ o h.next = some (v, ob)) (hl : h.next < h.lim) :
    opA P enters ρ o h = some (.val v, h.push ob) := by
  unfold opN at he
  unfold opA
  split at he
  · rename_i e; rw [e]; dsimp only; rw [runN_runA he hl]; rfl
  · rename_i e; rw [e]; dsimp only; rw [runN_runA he hl]; rfl
  · rename_i e; rw [e]; dsimp only; split at he
    · rename_i e2; split at he
      · rename_i hc; obtain ⟨rfl, rfl⟩ := by simpa using he
        rw [runN_runA e2 hl]; simp only [outC, hc, if_true]
      · cases he
    · cases he
  · rename_i e; rw [e]; dsimp only; split at he
    · rename_i e2; split at he
      · rename_i hc; obtain ⟨rfl, rfl⟩ := by simpa using he
        rw [runN_runA e2 hl]; simp only [outC, hc, if_true]
      · cases he
    · cases he
  · rename_i e; rw [e]; dsimp only; rw [runN_runA he hl]; rfl
  · cases he
end
end Go.Ab
