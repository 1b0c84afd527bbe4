/- The evaluator over an abstract memory, proved sound: part 3. -/
import Derived.Test.YtgokkngepgnedaaGreatDoorEvB
import Derived.ChangeMade
import Derived.ProofKit
import Derived.OpenShut
import Derived.Carry
import Derived.Deep.DeepHandedRow
import Derived.Deep.DeepLaidRun
namespace Go.Ab
open Go
section
variable {P : Program}

/-! ## Hiding blocks, and showing them again -/
theorem Rel.congr {B : Base} {m : Mu} {h h' : AHeap} {w : World} (hr : Rel P B m h w) (hg : ∀ b, h'.get b = h.get b) (hn : h'.next = h.next) (hl : h'.lim = h.lim) : Rel P B m h' w := by
  refine ⟨hr.os, hr.tape, hr.output, hr.prot, fun b hb => ?_, fun b b' l l' h1 h2 h3 => ?_, fun b h1 h2 => ?_⟩
  · rw [hg] at hb ⊢; exact hr.obj b hb
  · rw [hg] at h1 h2 h3; exact hr.sep b b' l l' h1 h2 h3
  · rw [hg]; exact hr.fresh b (by omega) (by omega)

theorem Rel.world_some {B : Base} {m : Mu} {h : AHeap} {w : World} (hr : Rel P B m h w) {b : Nat} (hb : h.get b ≠ .dead) {l : Loc} (hl : m b = some l) : ∃ o, w.heap[l.blk]? = some o := by
  have := hr.lt_size hb hl
  exact ⟨_, Array.getElem?_eq_getElem this⟩

open Classical in
/-- The base that keeps the hidden blocks as they are. -/
noncomputable def Base.hide (B : Base) (m : Mu) (h K : AHeap) (w : World) : Base :=
  { B with prot := fun k => if ∃ b l, h.get b ≠ .dead ∧ isRo (h.get b) = false ∧ K.get b = .dead ∧ m b = some l ∧ l.blk = k then w.heap[k]? else B.prot k }

theorem Rel.hide {B : Base} {m : Mu} {h K : AHeap} {w : World} (hr : Rel P B m h w) (hK : ∀ b, K.get b ≠ .dead → K.get b = h.get b)
    (hfresh : ∀ b, K.next ≤ b → b < K.lim → K.get b = .dead ∧ m b = none) : Rel P (B.hide m h K w) m K w := by
  refine ⟨hr.os, hr.tape, hr.output, ?_, ?_, ?_, hfresh⟩
  · intro k o hk
    simp only [Base.hide] at hk
    split at hk
    · exact hk
    · exact hr.prot k o hk
  · intro b hb
    have e := hK b hb
    have hb' : h.get b ≠ .dead := by rw [← e]; exact hb
    obtain ⟨l, h1, h2, h3⟩ := hr.obj b hb'
    refine ⟨l, h1, ?_, by rw [e]; exact h3⟩
    rw [e]
    refine protOf_mk (fun q => ?_) (fun q => ?_)
    · simp only [Base.hide]
      split
      · obtain ⟨o, ho⟩ := hr.world_some hb' h1
        rw [ho]; intro z; cases z
      · exact protOf_some h2 q
    · simp only [Base.hide]
      rw [if_neg]
      · exact protOf_none h2 q
      · rintro ⟨b2, l2, q1, _, q2, q3, q4⟩
        have := hr.sep b2 b l2 l q1 hb' q q3 h1 q4
        subst this
        exact hb q2
  · intro b b' l l' h1 h2 h3
    exact hr.sep b b' l l' (by rw [← hK b h1]; exact h1) (by rw [← hK b' h2]; exact h2) (by rw [← hK b' h2]; exact h3)

theorem Rel.reveal {B : Base} {m m' : Mu} {h K K' H' : AHeap} {w w' : World} (hr : Rel P B m h w) (hr' : Rel P (B.hide m h K w) m' K' w') (hm : Mu.le m m')
    (hKh : ∀ b, K.get b ≠ .dead → K.get b = h.get b) (hro : ∀ b, isRo (K'.get b) = true → K'.get b = K.get b)
    (hH1 : ∀ b, (h.get b ≠ .dead ∧ K.get b = .dead) → H'.get b = h.get b) (hH2 : ∀ b, ¬ (h.get b ≠ .dead ∧ K.get b = .dead) → H'.get b = K'.get b)
    (hfresh : ∀ b, H'.next ≤ b → b < H'.lim → H'.get b = .dead ∧ m' b = none) : Rel P B m' H' w' := by
  have hidprot : ∀ b l, h.get b ≠ .dead → isRo (h.get b) = false → K.get b = .dead → m b = some l → (B.hide m h K w).prot l.blk = w.heap[l.blk]? := by
    intro b l q1 q0 q2 q3
    simp only [Base.hide]
    rw [if_pos ⟨b, l, q1, q0, q2, q3, rfl⟩]
  have kept : ∀ b, isRo (K'.get b) = true → h.get b ≠ .dead ∧ isRo (h.get b) = true ∧ K.get b ≠ .dead := by
    intro b hb
    have e := hro b hb
    have hk : K.get b ≠ .dead := by intro z; rw [e, z] at hb; cases hb
    have e2 := hKh b hk
    rw [e, e2] at hb
    exact ⟨by rw [← e2]; exact hk, hb, hk⟩
  refine ⟨hr'.os, hr'.tape, hr'.output, ?_, ?_, ?_, hfresh⟩
  · intro k o hk
    refine hr'.prot k o ?_
    simp only [Base.hide]
    rw [if_neg]
    · exact hk
    · rintro ⟨b, l, q1, q0, q2, q3, rfl⟩
      obtain ⟨l2, h1, h2, _⟩ := hr.obj b q1
      rw [q3] at h1; cases h1
      rw [protOf_none h2 q0] at hk; cases hk
  · intro b hb
    by_cases c : h.get b ≠ .dead ∧ K.get b = .dead
    · rw [hH1 b c] at hb ⊢
      obtain ⟨l, h1, h2, h3⟩ := hr.obj b hb
      refine ⟨l, hm _ _ h1, h2, h3.congr hm ?_⟩
      obtain ⟨o, ho⟩ := hr.world_some hb h1
      rw [ho]
      refine hr'.prot _ _ ?_
      cases hq : isRo (h.get b) with
      | false => rw [hidprot b l c.1 hq c.2 h1]; exact ho
      | true =>
        simp only [Base.hide]
        split
        · exact ho
        · cases hp : B.prot l.blk with
          | none => exact absurd hp (protOf_some h2 hq)
          | some x => exact (hr.prot _ _ hp).symm.trans ho
    · rw [hH2 b c] at hb ⊢
      obtain ⟨l, h1, h2, h3⟩ := hr'.obj b hb
      refine ⟨l, h1, ?_, h3⟩
      refine protOf_mk (fun q => ?_) (fun q => ?_)
      · obtain ⟨k1, k2, k3⟩ := kept b q
        obtain ⟨l3, g1, g2, _⟩ := hr.obj b k1
        have := hm _ _ g1
        rw [h1] at this; cases this
        exact protOf_some g2 k2
      · have := protOf_none h2 q
        simp only [Base.hide] at this
        split at this
        · rename_i hex
          obtain ⟨b2, l2, q1, q0, q2, q3, q4⟩ := hex
          obtain ⟨o, ho⟩ := hr.world_some q1 q3
          rw [q4] at ho
          rw [ho] at this; cases this
        · exact this
  · intro b b' l l' h1 h2 hnr m1 m2 e
    have hid : ∀ x lx, h.get x ≠ .dead ∧ K.get x = .dead → m' x = some lx → m x = some lx := by
      intro x lx c hx
      obtain ⟨l2, q1, _⟩ := hr.obj x c.1
      have := hm _ _ q1
      rw [hx] at this; cases this; exact q1
    have notp : ∀ x lx, K'.get x ≠ .dead → isRo (K'.get x) = false → m' x = some lx → (B.hide m h K w).prot lx.blk = none := by
      intro x lx c c0 hx
      obtain ⟨l2, q1, q2, _⟩ := hr'.obj x c
      rw [hx] at q1; cases q1; exact protOf_none q2 c0
    by_cases c : h.get b ≠ .dead ∧ K.get b = .dead
    · rw [hH1 b c] at h1
      by_cases c' : h.get b' ≠ .dead ∧ K.get b' = .dead
      · rw [hH1 b' c'] at hnr
        exact hr.sep b b' l l' c.1 c'.1 hnr (hid b l c m1) (hid b' l' c' m2) e
      · rw [hH2 b' c'] at h2 hnr
        have q := notp b' l' h2 hnr m2
        rw [← e] at q
        have g := hid b l c m1
        obtain ⟨o, ho⟩ := hr.world_some c.1 g
        cases hq : isRo (h.get b) with
        | false => rw [hidprot b l c.1 hq c.2 g, ho] at q; cases q
        | true =>
          simp only [Base.hide] at q
          split at q
          · rw [ho] at q; cases q
          · obtain ⟨l3, g1, g2, _⟩ := hr.obj b c.1
            rw [g] at g1; cases g1
            exact absurd q (protOf_some g2 hq)
    · rw [hH2 b c] at h1
      by_cases c' : h.get b' ≠ .dead ∧ K.get b' = .dead
      · rw [hH1 b' c'] at hnr
        have g' := hid b' l' c' m2
        cases hq : isRo (K'.get b) with
        | false =>
          have q := notp b l h1 hq m1
          rw [e, hidprot b' l' c'.1 hnr c'.2 g'] at q
          obtain ⟨o, ho⟩ := hr.world_some c'.1 g'
          rw [ho] at q; cases q
        | true =>
          obtain ⟨k1, k2, k3⟩ := kept b hq
          obtain ⟨l3, g1, _, _⟩ := hr.obj b k1
          have := hm _ _ g1
          rw [m1] at this; cases this
          have e3 := hr.sep b b' l l' k1 c'.1 hnr g1 g' e
          subst e3
          rw [k2] at hnr
      · rw [hH2 b' c'] at h2 hnr
        exact hr'.sep b b' l l' h1 h2 hnr m1 m2 e

/-! ## Operations that only read; operations that only make -/
def _root_.Go.Sem.runR {α : Type} (P : Program) : Sem α → AHeap → Option α
  | .pure a, _ => some a
  | .load _ a k, h => match h.cell? a with
    | some v => (k v).runR P h
    | none => none
  | .getObj r k, h => match h.get r with
    | .map es c => (k (.map es c)).runR P h
    | .iter s p => (k (.stringIter s p)).runR P h
    | _ => none
  | .program k, h => (k P).runR P h
  | .mark _ k, h => k.runR P h
  | _, _ => none
theorem runR_runA {α : Type} {s : Sem α} : ∀ {h : AHeap} {a : α}, s.runR P h = some a → s.runA P h = some (a, h) := by
  induction s with
  | pure a => intro h b e; simp only [Sem.runR, Option.some.injEq] at e; subst e; rfl
  | load md a k ih =>
    intro h b e
    simp only [Sem.runR] at e
    simp only [Sem.runA]
    split at e
    · rename_i v hv; rw [hv]; exact ih _ e
    · cases e
  | getObj r k ih =>
    intro h b e
    simp only [Sem.runR] at e
    simp only [Sem.runA]
    split at e
    · rename_i es c hv; rw [hv]; exact ih _ e
    · rename_i es c hv; rw [hv]; exact ih _ e
    · cases e
  | program k ih => intro h b e; simp only [Sem.runR] at e; simp only [Sem.runA]; exact ih _ e
  | mark md k ih => intro h b e; simp only [Sem.runR] at e; simp only [Sem.runA]; exact ih e
  | _ => intro h b e; simp [Sem.runR] at e

theorem runP_runA {α : Type} {s : Sem α} : ∀ {a : α}, s.runP P = some a → ∀ h, s.runA P h = some (a, h) := by
  induction s with
  | pure a => intro b e h; simp only [Sem.runP, Option.some.injEq] at e; subst e; rfl
  | program k ih => intro b e h; simp only [Sem.runP] at e; simp only [Sem.runA]; exact ih _ e h
  | mark md k ih => intro b e h; simp only [Sem.runP] at e; simp only [Sem.runA]; exact ih e h
  | _ => intro b e h; simp [Sem.runP] at e

def _root_.Go.Sem.runN {α : Type} (P : Program) (next : Nat) : Sem α → Option (α × AObj)
  | .program k => (k P).runN P next
  | .mark _ k => k.runN P next
  | .new (.cells c e (0, 0)) k => match (k next).runP P with
    | some a => some (a, .cells (Row.ofList c.toList) e)
    | none => none
  | .new (.map es c) k => match (k next).runP P with
    | some a => some (a, .map es c)
    | none => none
  | _ => none
theorem runN_runA {α : Type} {s : Sem α} : ∀ {h : AHeap} {a : α} {o : AObj}, s.runN P h.next = some (a, o) → h.next < h.lim → s.runA P h = some (a, h.push o) := by
  induction s with
  | program k ih => intro h a o e hl; simp only [Sem.runN] at e; simp only [Sem.runA]; exact ih _ e hl
  | mark md k ih => intro h a o e hl; simp only [Sem.runN] at e; simp only [Sem.runA]; exact ih e hl
  | new ob k ih =>
    intro h a o e hl
    have hb : Nat.blt h.next h.lim = true := by simpa using hl
    cases ob with
    | cells c t fr =>
      obtain ⟨x, y⟩ := fr
      cases x <;> cases y <;> simp only [Sem.runN] at e <;> try (cases e; done)
      split at e
      · rename_i b hb2
        simp only [Option.some.injEq, Prod.mk.injEq] at e
        obtain ⟨rfl, rfl⟩ := e
        simp only [Sem.runA, hb]
        exact runP_runA hb2 _
      · cases e
    | map es c =>
      simp only [Sem.runN] at e
      split at e
      · rename_i b hb2
        simp only [Option.some.injEq, Prod.mk.injEq] at e
        obtain ⟨rfl, rfl⟩ := e
        simp only [Sem.runA, hb]
        exact runP_runA hb2 _
      · cases e
    | _ => simp [Sem.runN] at e
  | _ => intro h a o e hl; simp [Sem.runN] at e

def outPv (s : Option Value) : Option Value := match s with
  | some v => if flatV v then some v else none
  | none => none

/-- An operation that only reads. -/
def opR (P : Program) (ρ : Operand → Value) (o : Oper) (h : AHeap) : Option Value :=
  match o.op with
  | .move x | .assign x => some (ρ x)
  | .pick c a b => match ρ c with | .bool t => some (if t then ρ a else ρ b) | _ => none
  | .build t ps => (Instr.build t (ps.map fun (i, x) => (i, ρ x))).runR P h
  | .load t a => (Instr.loadAt t (ρ a)).runR P h
  | .nilCheck x => match ρ x with | .pointer (some a) => some (.pointer (some a)) | _ => none
  | .binOp op t x y _ =>
    if flatV (ρ x) && flatV (ρ y) then outPv (Sem.runP P (do eqGuard op t x y (ρ x) (ρ y); binOp op t (ρ x) (ρ y)))
    else nilEqA P op t (ρ x) (ρ y)
  | .unOp op _ x => if flatV (ρ x) then outPv (Sem.runP P (Op.unary op (ρ x))) else none
  | .convert src dst x =>
    match P.underlying src, P.underlying dst, ρ x with
    | some .string, some (.slice _), .string _ => none
    | some (.slice e), some .string, .slice a n c =>
      match P.underlying e, bytesA h (.slice a n c) with
      | some (.int .u8), some s => some (.string s)
      | _, _ => none
    | _, _, v => if flatV v then outPv (Sem.runP P (convert src dst v)) else none
  | .makeInterface t x => (Instr.makeInterface t (ρ x)).runR P h
  | .makeFunc fn a c => (Instr.makeFunc fn (a.map ρ) (c.map ρ)).runR P h
  | .slice t x lo hi mx =>
    if optFlat (lo.map ρ) && optFlat (hi.map ρ) && optFlat (mx.map ρ) then
    match ρ x with
    | .string s => outPv (Sem.runP P (Instr.sliceAt t (.string s) (lo.map ρ) (hi.map ρ) (mx.map ρ)))
    | v => sliceA P t v (lo.map ρ) (hi.map ρ) (mx.map ρ)
    else none
  | .fieldAddr s x f => (Instr.fieldAt s (ρ x) f).runR P h
  | .field s x f => (Instr.field s (ρ x) f).runR P h
  | .indexAddr t x i => (Instr.indexAt t (ρ x) (ρ i)).runR P h
  | .index t x i => (Instr.index t (ρ x) (ρ i)).runR P h
  | .lookup t x i ok => (lookupS t (ρ x) (ρ i) ok).runR P h
  | .extract x i => (Instr.extract (ρ x) i).runR P h
  | .call c =>
    match c.callee with
    | .builtin .len => (Builtin.len_ c.argTypes o.type (c.args.map ρ)).runR P h
    | .builtin .min => if (c.args.map ρ).toList.all flatV then outPv (Sem.runP P (Builtin.min_ c.argTypes o.type (c.args.map ρ))) else none
    | .builtin .max => if (c.args.map ρ).toList.all flatV then outPv (Sem.runP P (Builtin.max_ c.argTypes o.type (c.args.map ρ))) else none
    | _ => none
  | _ => none

theorem opR_opA {enters : FuncId → FKind} {ρ : Operand → Value} {o : Oper} {h : AHeap} {v : Value} (he : opR P ρ o h = some v) : opA P enters ρ o h = some (.val v, h) := by
  have hR : ∀ (s : Sem Value), s.runR P h = some v → outV (s.runA P h) = some (.val v, h) := by
    intro s e; rw [runR_runA e]; rfl
  have hP : ∀ (s : Option Value), outPv s = some v → outP s h = some (.val v, h) := by
    intro s e
    unfold outPv at e
    unfold outP
    split at e
    · split at e
      · rename_i hf; obtain rfl := Option.some.inj e; dsimp only; rw [if_pos hf]
      · cases e
    · cases e
  unfold opR at he
  unfold opA
  split at he
  · obtain rfl := Option.some.inj he; rename_i e; rw [e]
  · obtain rfl := Option.some.inj he; rename_i e; rw [e]
  · rename_i e; rw [e]; dsimp only; split at he
    · rename_i e2; rw [e2]; obtain rfl := Option.some.inj he; rfl
    · cases he
  · rename_i e; rw [e]; exact hR _ he
  · rename_i e; rw [e]; exact hR _ he
  · rename_i e; rw [e]; dsimp only; split at he
    · rename_i e2; rw [e2]; obtain rfl := Option.some.inj he; rfl
    · cases he
  · rename_i e; rw [e]; dsimp only; split at he
    · rename_i e2; rw [if_pos e2]; exact hP _ he
    · rename_i e2; rw [if_neg e2, he]
  · rename_i e; rw [e]; dsimp only; split at he
    · rename_i e2; rw [if_pos e2]; exact hP _ he
    · cases he
  · rename_i e; rw [e]; dsimp only; split at he
    · cases he
    · rename_i e1 e2 e3; rw [e1, e2, e3]; dsimp only; split at he
      · rename_i e4 e5; rw [e4, e5]; obtain rfl := Option.some.inj he; rfl
      · cases he
    · rename_i q1 q2
      split
      · rename_i e1 e2 e3; exact absurd e3 (by intro e3; exact q1 _ _ e1 e2 e3)
      · rename_i e1 e2 e3; exact absurd e3 (by intro e3; exact q2 _ _ _ _ e1 e2 e3)
      · split at he
        · rename_i e2; rw [if_pos e2]; exact hP _ he
        · cases he
  · rename_i e; rw [e]; exact hR _ he
  · rename_i e; rw [e]; exact hR _ he
  · rename_i e; rw [e]; dsimp only; split at he
    · rename_i e2; rw [if_pos e2]; split at he
      · rename_i e3; rw [e3]; exact hP _ he
      · rename_i hne
        split
        · rename_i e3; exact absurd e3 (hne _)
        · rw [he]
    · cases he
  · rename_i e; rw [e]; exact hR _ he
  · rename_i e; rw [e]; exact hR _ he
  · rename_i e; rw [e]; exact hR _ he
  · rename_i e; rw [e]; exact hR _ he
  · rename_i e; rw [e]; exact hR _ he
  · rename_i e; rw [e]; exact hR _ he
  · rename_i e; rw [e]; dsimp only; split at he
    · rename_i e2; rw [e2]; exact hR _ he
    · rename_i e2; rw [e2]; dsimp only; split at he
      · rename_i e3; rw [if_pos e3]; exact hP _ he
      · cases he
    · rename_i e2; rw [e2]; dsimp only; split at he
      · rename_i e3; rw [if_pos e3]; exact hP _ he
      · cases he
    · cases he
  · cases he

/-- An operation that only makes a block. -/
def opN (P : Program) (ρ : Operand → Value) (o : Oper) (next : Nat) : Option (Value × AObj) :=
  match o.op with
  | .alloc t => (Instr.alloc t true (.tuple #[])).runN P next
  | .box t x => (Instr.box t (ρ x)).runN P next
  | .buildSlice t n ps => match (Instr.buildSlice t n (ps.map fun (i, x) => (i, ρ x))).runN P next with
    | some (v, ob) => if capOk v then some (v, ob) else none
    | none => none
  | .makeSlice t l c => match (Instr.makeSlice t (ρ l) (ρ c)).runN P next with
    | some (v, ob) => if capOk v then some (v, ob) else none
    | none => none
  | .makeMap t none => (Instr.makeMap t none).runN P next
  | _ => none
theorem runN_ro {α : Type} {s : Sem α} {n : Nat} : ∀ {a : α} {o : AObj}, s.runN P n = some (a, o) → isRo o = false := by
  induction s with
  | program k ih => intro a o e; simp only [Sem.runN] at e; exact ih _ e
  | mark md k ih => intro a o e; simp only [Sem.runN] at e; exact ih e
  | new ob k ih =>
    intro a o e
    cases ob with
    | cells c t fr =>
      obtain ⟨x, y⟩ := fr
      cases x <;> cases y <;> simp only [Sem.runN] at e <;> try (cases e; done)
      split at e
      · simp only [Option.some.injEq, Prod.mk.injEq] at e
        obtain ⟨_, rfl⟩ := e
        rfl
      · cases e
    | map es c =>
      simp only [Sem.runN] at e
      split at e
      · simp only [Option.some.injEq, Prod.mk.injEq] at e
        obtain ⟨_, rfl⟩ := e
        rfl
      · cases e
    | _ => simp [Sem.runN] at e
  | _ => intro a o e; simp [Sem.runN] at e
theorem opN_ro {ρ : Operand → Value} {o : Oper} {n : Nat} {v : Value} {ob : AObj} (he : opN P ρ o n = some (v, ob)) : isRo ob = false := by
  unfold opN at he
  split at he
  · exact runN_ro he
  · exact runN_ro he
  · split at he
    · rename_i e; split at he
      · obtain ⟨_, rfl⟩ := by simpa using he
        exact runN_ro e
      · cases he
    · cases he
  · split at he
    · rename_i e; split at he
      · obtain ⟨_, rfl⟩ := by simpa using he
        exact runN_ro e
      · cases he
    · cases he
  · exact runN_ro he
  · cases he
theorem opN_opA {enters : FuncId → FKind} {ρ : Operand → Value} {o : Oper} {h : AHeap} {v : Value} {ob : AObj} (he : opN P ρ o h.next = some (v, ob)) (hl : h.next < h.lim) :
    opA P enters ρ o h = some (.val v, h.push ob) := by
  unfold opN at he
  unfold opA
  split at he
  · rename_i e; rw [e]; dsimp only; rw [runN_runA he hl]; rfl
  · rename_i e; rw [e]; dsimp only; rw [runN_runA he hl]; rfl
  · rename_i e; rw [e]; dsimp only; split at he
    · rename_i e2; split at he
      · rename_i hc; obtain ⟨rfl, rfl⟩ := by simpa using he
        rw [runN_runA e2 hl]; simp only [outC, hc, if_true]
      · cases he
    · cases he
  · rename_i e; rw [e]; dsimp only; split at he
    · rename_i e2; split at he
      · rename_i hc; obtain ⟨rfl, rfl⟩ := by simpa using he
        rw [runN_runA e2 hl]; simp only [outC, hc, if_true]
      · cases he
    · cases he
  · rename_i e; rw [e]; dsimp only; rw [runN_runA he hl]; rfl
  · cases he
end
end Go.Ab
namespace Go.Ab
open Go
section
variable {P : Program}

/-! ## A region that draws its order: the plan -/
inductive Cls where
  | plain | alloc | loud
def clsOf (P : Program) (o : Oper) : Cls :=
  match o.op with
  | .move _ | .assign _ | .pick .. | .build .. | .load .. | .nilCheck _ | .binOp .. | .unOp .. | .makeInterface .. | .makeFunc .. | .slice .. | .fieldAddr .. | .field .. | .indexAddr .. | .index .. | .lookup .. | .extract .. => .plain
  | .convert _ dst _ => match P.underlying dst with
    | some (.slice _) => .loud
    | _ => .plain
  | .alloc _ | .box .. | .buildSlice .. | .makeSlice .. | .makeMap _ none => .alloc
  | .call c => match c.callee with
    | .builtin .len | .builtin .min | .builtin .max => .plain
    | _ => .loud
  | _ => .loud
def isLoud (P : Program) (o : Oper) : Bool := match clsOf P o with | .loud => true | _ => false

def edgesOf (o : Oper) : List Nat := o.after.toList.filterMap fun e => if Region.binds .any e then some e.on else none
def masksGo : List Oper → List Nat → List Nat
  | [], acc => acc
  | o :: rest, acc => masksGo rest (acc ++ [(edgesOf o).foldl (fun m i => m ||| 2 ^ i ||| acc.getD i 0) 0])
def prd (ms : List Nat) (j i : Nat) : Bool := (ms.getD j 0).testBit i

def tmpsOf (o : Oper) : List Tmp := o.op.operands.toList.filterMap fun | .tmp t => some t | _ => none
def opAt (ops : Array Oper) (j : Nat) : Oper := ops.getD j default

def planAt (P : Program) (ops : Array Oper) (ms : List Nat) (n j : Nat) : Bool :=
  let o := opAt ops j
  Nat.blt (ms.getD j 0) (2 ^ j)
  && (List.range n).all (fun i => !prd ms j i || (Nat.blt i j && (edgesOf o).any fun e => Nat.beq e i || prd ms e i))
  && ((tmpsOf o) ++ (match o.guard with | some (g, _) => ((ops[g]?).bind (·.dst)).toList | none => [])).all (fun t => (List.range n).all fun i => Nat.beq i j || !((opAt ops i).dst == some t) || prd ms j i || prd ms i j)
  && (match o.guard with | some (g, _) => Nat.blt g n && prd ms j g | none => true)
  && (match o.dst with | none => true | some d => (List.range j).all fun i => !((opAt ops i).dst == some d))
  && (!isLoud P o || (List.range j).all fun i => !isLoud P (opAt ops i) || prd ms j i)
def boundIn (md : Region.Mode) (o : Oper) (seen : List Nat) : Bool := o.after.toList.all fun e => !Region.binds md e || seen.any (Nat.beq e.on)
def orderGo (md : Region.Mode) (ops : Array Oper) : List Nat → List Nat → Bool
  | [], _ => true
  | i :: rest, seen => boundIn md (opAt ops i) seen && orderGo md ops rest (i :: seen)
/-- Each one is bound by those ahead of it alone. -/
def natGo (md : Region.Mode) : List Oper → Nat → Bool
  | [], _ => true
  | o :: rest, j => (o.after.toList.all fun e => !Region.binds md e || Nat.blt e.on j) && natGo md rest (j + 1)
/-- There is an order. -/
def orderOk (md : Region.Mode) (ops : Array Oper) : Bool := natGo md ops.toList 0 || (
  orderGo md ops (Region.linearise md ops 0) [] && ((List.range ops.size).all fun i => (Region.linearise md ops 0).any (Nat.beq i)) && (Region.linearise md ops 0).all fun i => Nat.blt i ops.size)
def planOk (P : Program) (ops : Array Oper) (ms : List Nat) (n : Nat) : Bool :=
  (List.range n).all (planAt P ops ms n) && orderOk .any ops && orderOk .text ops && orderOk .gc ops

def isDead : AObj → Bool
  | .dead => true
  | _ => false
theorem isDead_iff {o : AObj} : isDead o = true ↔ o = .dead := by cases o <;> simp [isDead]

def objAt : List (Nat × AObj) → Nat → Option AObj
  | [], _ => none
  | (i, o) :: rest, j => if Nat.beq i j then some o else objAt rest j
/-- Blocks that were made, laid into a memory in which they are not yet. -/
def fillA (sel : Nat → Bool) (base : Nat) : List (Nat × AObj) → AHeap → AHeap
  | [], G => G
  | (i, o) :: rest, G => if sel i && isDead (G.get (base + i)) then (fillA sel base rest G).put (base + i) o else fillA sel base rest G
theorem fillA_get {sel : Nat → Bool} {base : Nat} {G : AHeap} : ∀ (objs : List (Nat × AObj)) (b : Nat),
    (∃ i o, b = base + i ∧ objAt objs i = some o ∧ sel i = true ∧ G.get b = .dead ∧ (fillA sel base objs G).get b = o) ∨
    ((∀ i o, b = base + i → objAt objs i = some o → sel i = true → G.get b ≠ .dead) ∧ (fillA sel base objs G).get b = G.get b) := by
  intro objs
  induction objs with
  | nil => intro b; right; exact ⟨fun i o _ h => by simp [objAt] at h, rfl⟩
  | cons x rest ih =>
    intro b
    obtain ⟨i0, o0⟩ := x
    simp only [fillA]
    by_cases e : b = base + i0
    · subst e
      by_cases c : (sel i0 && isDead (G.get (base + i0))) = true
      · left
        rw [if_pos c]
        simp only [Bool.and_eq_true, isDead_iff] at c
        exact ⟨i0, o0, rfl, by simp [objAt], c.1, c.2, by rw [AHeap.get_put, if_pos rfl]⟩
      · rw [if_neg c]
        right
        have hno : sel i0 = true → G.get (base + i0) ≠ .dead := by
          intro h1 h2
          exact c (by simp [h1, isDead_iff.2 h2])
        refine ⟨fun i o hi ho hs => ?_, ?_⟩
        · obtain rfl : i = i0 := by omega
          exact hno hs
        · rcases ih (base + i0) with ⟨i, o, h1, h2, h3, h4, h5⟩ | ⟨_, h2⟩
          · obtain rfl : i = i0 := by omega
            exact absurd h4 (hno h3)
          · exact h2
    · have hput : ∀ g : AHeap, (g.put (base + i0) o0).get b = g.get b := fun g => by rw [AHeap.get_put, if_neg e]
      have hobj : ∀ i, b = base + i → objAt ((i0, o0) :: rest) i = objAt rest i := by
        intro i hi
        have : Nat.beq i0 i = false := by
          cases hb : Nat.beq i0 i with
          | false => rfl
          | true => rw [Nat.beq_eq] at hb; exact absurd (by omega) e
        simp [objAt, this]
      have hget : (if (sel i0 && isDead (G.get (base + i0))) = true then (fillA sel base rest G).put (base + i0) o0 else fillA sel base rest G).get b = (fillA sel base rest G).get b := by
        split
        · exact hput _
        · rfl
      rw [hget]
      rcases ih b with ⟨i, o, h1, h2, h3, h4, h5⟩ | ⟨h1, h2⟩
      · exact .inl ⟨i, o, h1, by rw [hobj i h1]; exact h2, h3, h4, h5⟩
      · exact .inr ⟨fun i o hi ho => h1 i o hi (by rw [← hobj i hi]; exact ho), h2⟩
theorem fillA_next {sel : Nat → Bool} {base : Nat} {G : AHeap} : ∀ (objs : List (Nat × AObj)), (fillA sel base objs G).next = G.next ∧ (fillA sel base objs G).lim = G.lim := by
  intro objs
  induction objs with
  | nil => exact ⟨rfl, rfl⟩
  | cons x rest ih =>
    obtain ⟨i0, o0⟩ := x
    simp only [fillA]
    split
    · exact ih
    · exact ih

/-! ### Equality of values -/
def veq : Nat → Value → Value → Bool
  | _, .bool a, .bool b => a == b
  | _, .int j a, .int k b => j == k && a == b
  | _, .string a, .string b => a.data.toList == b.data.toList
  | _, .pointer a, .pointer b => a == b
  | _, .slice a n c, .slice b m d => a == b && Nat.beq n m && Nat.beq c d
  | _, .map a, .map b => a == b
  | _, .chan a, .chan b => a == b
  | _, .nilIface, .nilIface => true
  | _, .nilFunc, .nilFunc => true
  | f + 1, .iface t v, .iface u w => Nat.beq t u && veq f v w
  | f + 1, .agg a, .agg b => veqs f a.toList b.toList
  | f + 1, .tuple a, .tuple b => veqs f a.toList b.toList
  | _, _, _ => false
  where veqs (f : Nat) : List Value → List Value → Bool
  | [], [] => true
  | x :: xs, y :: ys => veq f x y && veqs f xs ys
  | _, _ => false
theorem veq_eq : ∀ (f : Nat) (a b : Value), veq f a b = true → a = b := by
  have rows : ∀ f, (∀ a b, veq f a b = true → a = b) → ∀ l l', veq.veqs f l l' = true → l = l' := by
    intro f ih l
    induction l with
    | nil => intro l' h; cases l' with | nil => rfl | cons => simp [veq.veqs] at h
    | cons x xs ihl =>
      intro l' h
      cases l' with
      | nil => simp [veq.veqs] at h
      | cons y ys =>
        simp only [veq.veqs, Bool.and_eq_true] at h
        rw [ih x y h.1, ihl ys h.2]
  intro f
  induction f with
  | zero =>
    intro a b h
    cases a <;> cases b <;> simp only [veq, Bool.and_eq_true, beq_iff_eq, Nat.beq_eq, Bool.false_eq_true] at h <;> try (cases h; done)
    all_goals first
      | rfl
      | (rw [h])
      | (obtain ⟨h1, h2⟩ := h; rw [h1, h2])
      | (obtain ⟨⟨h1, h2⟩, h3⟩ := h; rw [h1, h2, h3])
      | (congr 1; exact ByteArray.ext (Array.ext' h))
  | succ f ih =>
    intro a b h
    cases a <;> cases b <;> simp only [veq, Bool.and_eq_true, beq_iff_eq, Nat.beq_eq, Bool.false_eq_true] at h <;> try (cases h; done)
    all_goals first
      | rfl
      | (rw [h])
      | (obtain ⟨h1, h2⟩ := h; rw [h1, h2])
      | (obtain ⟨⟨h1, h2⟩, h3⟩ := h; rw [h1, h2, h3])
      | (obtain ⟨h1, h2⟩ := h; rw [h1, ih _ _ h2])
      | (congr 1; exact ByteArray.ext (Array.ext' h))
      | (congr 1; exact Array.ext' (rows f ih _ _ h))

/-! ### The run -/
/-- A loud operation. -/
def drawGo (P : Program) (enters : FuncId → FKind) (callF : CallF) (ops : Array Oper) (ms : List Nat) (base : Nat) : List Oper → Nat → Tree Value → AHeap → List (Nat × AObj) →
    Option (List Value × List AHeap × List (Nat × AObj))
  | [], _, _, _, objs => some ([], [], objs)
  | o :: rest, j, T, G, objs =>
    match wantedA ops o T with
    | false => match drawGo P enters callF ops ms base rest (j + 1) (Tput T o.dst undef) G objs with
      | some (vs, Gs, os) => some (undef :: vs, G :: Gs, os)
      | none => none
    | true => match clsOf P o with
      | .plain => match opR P (rhoA T) o (fillA (prd ms j) base objs G) with
        | some v => match drawGo P enters callF ops ms base rest (j + 1) (Tput T o.dst v) G objs with
          | some (vs, Gs, os) => some (v :: vs, G :: Gs, os)
          | none => none
        | none => none
      | .alloc => match opN P (rhoA T) o (base + j) with
        | some (v, ob) => match drawGo P enters callF ops ms base rest (j + 1) (Tput T o.dst v) G ((j, ob) :: objs) with
          | some (vs, Gs, os) => some (v :: vs, G :: Gs, os)
          | none => none
        | none => none
      | .loud => match stepA P enters callF ops o T (fillA (prd ms j) base objs G) with
        | some (v, G') => if objs.all (fun x => isDead ((fillA (prd ms j) base objs G).get (base + x.1)) || !isDead (G'.get (base + x.1))) then match drawGo P enters callF ops ms base rest (j + 1) (Tput T o.dst v) G' objs with
          | some (vs, Gs, os) => some (v :: vs, G' :: Gs, os)
          | none => none
          else none
        | none => none

def loudsOf (P : Program) (ops : Array Oper) : List Nat := (List.range ops.size).filter fun j => isLoud P (opAt ops j)
def compat (P : Program) (ops : Array Oper) (ms : List Nat) (i q : Nat) : Bool := (loudsOf P ops).all fun l => (!prd ms i l || Nat.blt l q) && (!Nat.blt l q || !prd ms l i)
def sameQ (P : Program) (ops : Array Oper) (i q : Nat) : Bool := Nat.ble q i && (loudsOf P ops).all fun l => !(Nat.ble q l && Nat.blt l i)
def todoAt (P : Program) (ops : Array Oper) (ms : List Nat) (i : Nat) : List Nat := (0 :: (loudsOf P ops).map (· + 1)).filter fun q => compat P ops ms i q && !sameQ P ops i q
def noHeap : AHeap := ⟨.leaf, 0, 0⟩
def heapAt (h0 : AHeap) (Gs : List AHeap) : Nat → AHeap
  | 0 => h0
  | q + 1 => Gs.getD q noHeap
def checkGo (P : Program) (ops : Array Oper) (ms : List Nat) (base : Nat) (h0 : AHeap) (Gs : List AHeap) (objs : List (Nat × AObj)) : List Oper → List Value → Nat → Tree Value → Bool
  | o :: rest, v :: vs, j, T =>
    (match clsOf P o, wantedA ops o T with
    | .plain, true => (todoAt P ops ms j).all fun q => match opR P (rhoA T) o (fillA (prd ms j) base objs (heapAt h0 Gs q)) with
      | some v' => veq 8 v' v
      | none => false
    | _, _ => true) && checkGo P ops ms base h0 Gs objs rest vs (j + 1) (Tput T o.dst v)
  | _, _, _, _ => true
def slots : List Oper → List Value → Tree Value → Tree Value
  | o :: rest, v :: vs, T => slots rest vs (Tput T o.dst v)
  | _, _, T => T

def drawA (P : Program) (enters : FuncId → FKind) (callF : CallF) : DrawF := fun ops T h =>
  let ms := masksGo ops.toList []
  if (planOk P ops ms ops.size && Nat.ble (h.next + ops.size) h.lim) && (List.range ops.size).all (fun i => isDead (h.get (h.next + i))) then
    let h0 : AHeap := { h with next := h.next + ops.size }
    match drawGo P enters callF ops ms h.next ops.toList 0 T h0 [] with
    | some (vs, Gs, objs) =>
      if checkGo P ops ms h.next h0 Gs objs ops.toList vs 0 T then some (slots ops.toList vs T, fillA (fun _ => true) h.next objs (heapAt h0 Gs ops.size)) else none
    | none => none
  else none
end
end Go.Ab
namespace Go.Ab
open Go
section
variable {P : Program}

theorem fillA_skip {sel : Nat → Bool} {base : Nat} {G : AHeap} (objs : List (Nat × AObj)) : ∀ new : List (Nat × AObj), (∀ x ∈ new, sel x.1 = false) → fillA sel base (new ++ objs) G = fillA sel base objs G := by
  intro new
  induction new with
  | nil => intro _; rfl
  | cons x rest ih =>
    intro h
    obtain ⟨i, o⟩ := x
    have h0 := h (i, o) (by simp)
    simp only [List.cons_append, fillA]
    dsimp only at h0
    rw [h0]
    simp only [Bool.false_and, Bool.false_eq_true, if_false]
    exact ih fun y hy => h y (by simp [hy])
theorem objAt_skip (objs : List (Nat × AObj)) (i : Nat) : ∀ new : List (Nat × AObj), (∀ x ∈ new, x.1 ≠ i) → objAt (new ++ objs) i = objAt objs i := by
  intro new
  induction new with
  | nil => intro _; rfl
  | cons x rest ih =>
    intro h
    obtain ⟨k, o⟩ := x
    have h0 : k ≠ i := h (k, o) (by simp)
    have : Nat.beq k i = false := by
      cases hb : Nat.beq k i with
      | false => rfl
      | true => rw [Nat.beq_eq] at hb; exact absurd hb h0
    simp only [List.cons_append, objAt, this, Bool.false_eq_true, if_false]
    exact ih fun y hy => h y (by simp [hy])
theorem objAt_none {objs : List (Nat × AObj)} {i : Nat} (h : ∀ x ∈ objs, x.1 ≠ i) : objAt objs i = none := by
  have := objAt_skip [] i objs h
  simpa [objAt] using this
theorem objAt_mem {objs : List (Nat × AObj)} {i : Nat} {o : AObj} (h : objAt objs i = some o) : (i, o) ∈ objs := by
  induction objs with
  | nil => simp [objAt] at h
  | cons x rest ih =>
    obtain ⟨k, p⟩ := x
    simp only [objAt] at h
    split at h
    · rename_i e
      rw [Nat.beq_eq] at e
      obtain rfl := Option.some.inj h
      subst e
      simp
    · exact List.mem_cons_of_mem _ (ih h)

/-- What is known of one operation of the run. -/
structure FactAt (P : Program) (enters : FuncId → FKind) (callF : CallF) (ops : Array Oper) (ms : List Nat) (base : Nat) (o : Oper) (j : Nat) (T : Tree Value) (G : AHeap) (v : Value) (G' : AHeap) (os : List (Nat × AObj)) : Prop where
  off : wantedA ops o T = false → v = undef ∧ G' = G ∧ objAt os j = none
  plain : wantedA ops o T = true → clsOf P o = .plain → G' = G ∧ opR P (rhoA T) o (fillA (prd ms j) base os G) = some v ∧ objAt os j = none
  alloc : wantedA ops o T = true → clsOf P o = .alloc → G' = G ∧ ∃ ob, opN P (rhoA T) o (base + j) = some (v, ob) ∧ objAt os j = some ob
  loud : wantedA ops o T = true → clsOf P o = .loud → stepA P enters callF ops o T (fillA (prd ms j) base os G) = some (v, G') ∧ objAt os j = none ∧
    ∀ i ob, i < j → objAt os i = some ob → (fillA (prd ms j) base os G).get (base + i) ≠ .dead → G'.get (base + i) ≠ .dead

theorem go_spec {enters : FuncId → FKind} {callF : CallF} {ops : Array Oper} {ms : List Nat} {base : Nat} (hms : ∀ a b, prd ms a b = true → b < a) :
    ∀ (l : List Oper) (j : Nat) (T : Tree Value) (G : AHeap) (objs : List (Nat × AObj)) (vs : List Value) (Gs : List AHeap) (os : List (Nat × AObj)),
    drawGo P enters callF ops ms base l j T G objs = some (vs, Gs, os) → (∀ x ∈ objs, x.1 < j) →
    vs.length = l.length ∧ Gs.length = l.length ∧ (∃ new, os = new ++ objs ∧ ∀ x ∈ new, j ≤ x.1 ∧ x.1 < j + l.length) ∧
    ∀ i, i < l.length → FactAt P enters callF ops ms base (l.getD i default) (j + i) (slots (l.take i) (vs.take i) T) (heapAt G Gs i) (vs.getD i undef) (heapAt G Gs (i + 1)) os := by
  intro l
  induction l with
  | nil =>
    intro j T G objs vs Gs os h _
    simp only [drawGo, Option.some.injEq, Prod.mk.injEq] at h
    obtain ⟨rfl, rfl, rfl⟩ := h
    exact ⟨rfl, rfl, ⟨[], rfl, fun x hx => by simp at hx⟩, fun i hi => by simp at hi⟩
  | cons o l ih =>
    intro j T G objs vs Gs os h hobjs
    -- the step, whatever it is
    have step : ∀ (v : Value) (G' : AHeap) (objs' : List (Nat × AObj)) (vs' : List Value) (Gs' : List AHeap), vs = v :: vs' → Gs = G' :: Gs' → (∃ n1, objs' = n1 ++ objs ∧ ∀ x ∈ n1, x.1 = j) →
        drawGo P enters callF ops ms base l (j + 1) (Tput T o.dst v) G' objs' = some (vs', Gs', os) →
        (∀ new, os = new ++ objs' → (∀ x ∈ new, j + 1 ≤ x.1) → FactAt P enters callF ops ms base o j T G v G' os) →
        vs.length = (o :: l).length ∧ Gs.length = (o :: l).length ∧ (∃ new, os = new ++ objs ∧ ∀ x ∈ new, j ≤ x.1 ∧ x.1 < j + (o :: l).length) ∧
        ∀ i, i < (o :: l).length → FactAt P enters callF ops ms base ((o :: l).getD i default) (j + i) (slots ((o :: l).take i) (vs.take i) T) (heapAt G Gs i) (vs.getD i undef) (heapAt G Gs (i + 1)) os := by
      rintro v G' objs' vs' Gs' rfl rfl ⟨n1, rfl, hn1⟩ hgo hfact
      obtain ⟨e1, e2, ⟨new, e3, e4⟩, e5⟩ := ih (j + 1) _ _ _ _ _ _ hgo (fun x hx => by
        rcases List.mem_append.1 hx with hx | hx
        · rw [hn1 x hx]; omega
        · have := hobjs x hx; omega)
      refine ⟨by simp [e1], by simp [e2], ⟨new ++ n1, by rw [e3]; simp, fun x hx => ?_⟩, fun i hi => ?_⟩
      · simp only [List.length_cons]
        rcases List.mem_append.1 hx with hx | hx
        · have := e4 x hx; omega
        · have := hn1 x hx; omega
      · cases i with
        | zero => exact hfact new e3 fun x hx => (e4 x hx).1
        | succ i =>
          have := e5 i (by simpa using hi)
          rw [show j + 1 + i = j + (i + 1) by omega] at this
          have hh : ∀ k, heapAt G' Gs' k = heapAt G (G' :: Gs') (k + 1) := by
            intro k
            cases k with
            | zero => rfl
            | succ k => rfl
          rw [hh, hh] at this
          exact this
    simp only [drawGo] at h
    split at h
    · rename_i hw
      split at h <;> try (cases h; done)
      rename_i vs' Gs' os' hgo
      simp only [Option.some.injEq, Prod.mk.injEq] at h
      obtain ⟨rfl, rfl, rfl⟩ := h
      refine step undef G objs vs' Gs' rfl rfl ⟨[], rfl, fun x hx => by simp at hx⟩ hgo fun new e1 e2 => ?_
      have hno : objAt os' j = none := by
        rw [e1]
        refine objAt_none fun x hx => ?_
        rcases List.mem_append.1 hx with hx | hx
        · have := e2 x hx; omega
        · have := hobjs x hx; omega
      exact ⟨fun _ => ⟨rfl, rfl, hno⟩, (fun h => (by rw [hw] at h; cases h)), (fun h => (by rw [hw] at h; cases h)), (fun h => (by rw [hw] at h; cases h))⟩
    · rename_i hw
      split at h
      · rename_i hcls
        split at h <;> try (cases h; done)
        rename_i v hv
        split at h <;> try (cases h; done)
        rename_i vs' Gs' os' hgo
        simp only [Option.some.injEq, Prod.mk.injEq] at h
        obtain ⟨rfl, rfl, rfl⟩ := h
        refine step v G objs vs' Gs' rfl rfl ⟨[], rfl, fun x hx => by simp at hx⟩ hgo fun new e1 e2 => ?_
        have hno : objAt os' j = none := by
          rw [e1]
          refine objAt_none fun x hx => ?_
          rcases List.mem_append.1 hx with hx | hx
          · have := e2 x hx; omega
          · have := hobjs x hx; omega
        have hf : fillA (prd ms j) base os' G = fillA (prd ms j) base objs G := by
          rw [e1]
          refine fillA_skip objs new fun x hx => ?_
          cases hb : prd ms j x.1 with
          | false => rfl
          | true => have := hms _ _ hb; have := e2 x hx; omega
        exact ⟨(fun h => (by rw [hw] at h; cases h)), fun _ _ => ⟨rfl, by rw [hf]; exact hv, hno⟩, (fun _ h => (by rw [hcls] at h; cases h)), (fun _ h => (by rw [hcls] at h; cases h))⟩
      · rename_i hcls
        split at h <;> try (cases h; done)
        rename_i v ob hv
        split at h <;> try (cases h; done)
        rename_i vs' Gs' os' hgo
        simp only [Option.some.injEq, Prod.mk.injEq] at h
        obtain ⟨rfl, rfl, rfl⟩ := h
        refine step v G ((j, ob) :: objs) vs' Gs' rfl rfl ⟨[(j, ob)], rfl, fun x hx => by simp at hx; rw [hx]⟩ hgo fun new e1 e2 => ?_
        have hno : objAt os' j = some ob := by
          rw [e1, objAt_skip _ _ new (fun x hx => by have := e2 x hx; omega)]
          simp [objAt]
        exact ⟨(fun h => (by rw [hw] at h; cases h)), (fun _ h => (by rw [hcls] at h; cases h)), fun _ _ => ⟨rfl, ob, hv, hno⟩, (fun _ h => (by rw [hcls] at h; cases h))⟩
      · rename_i hcls
        split at h <;> try (cases h; done)
        rename_i v G' hv
        split at h <;> try (cases h; done)
        rename_i hlive
        split at h <;> try (cases h; done)
        rename_i vs' Gs' os' hgo
        simp only [Option.some.injEq, Prod.mk.injEq] at h
        obtain ⟨rfl, rfl, rfl⟩ := h
        refine step v G' objs vs' Gs' rfl rfl ⟨[], rfl, fun x hx => by simp at hx⟩ hgo fun new e1 e2 => ?_
        have hno : objAt os' j = none := by
          rw [e1]
          refine objAt_none fun x hx => ?_
          rcases List.mem_append.1 hx with hx | hx
          · have := e2 x hx; omega
          · have := hobjs x hx; omega
        have hf : fillA (prd ms j) base os' G = fillA (prd ms j) base objs G := by
          rw [e1]
          refine fillA_skip objs new fun x hx => ?_
          cases hb : prd ms j x.1 with
          | false => rfl
          | true => have := hms _ _ hb; have := e2 x hx; omega
        refine ⟨(fun h => (by rw [hw] at h; cases h)), (fun _ h => (by rw [hcls] at h; cases h)), (fun _ h => (by rw [hcls] at h; cases h)), fun _ _ => ⟨by rw [hf]; exact hv, hno, fun i ob hi ho hl => ?_⟩⟩
        rw [hf] at hl
        have hm : (i, ob) ∈ objs := by
          rw [e1, objAt_skip _ _ new (fun x hx => by have := e2 x hx; omega)] at ho
          exact objAt_mem ho
        have := List.all_eq_true.1 hlive (i, ob) hm
        simp only [Bool.or_eq_true, isDead_iff, Bool.not_eq_true'] at this
        rcases this with this | this
        · exact absurd this hl
        · intro h2; rw [isDead_iff.2 h2] at this; cases this
end
end Go.Ab
namespace Go.Ab
open Go
section
variable {P : Program}

/-! ## Small facts on the plan -/
theorem prd_lt {P : Program} {ops : Array Oper} {ms : List Nat} (hp : (List.range ops.size).all (planAt P ops ms ops.size) = true) (hlen : ms.length = ops.size) : ∀ a b, prd ms a b = true → b < a := by
  intro a b h
  unfold prd at h
  rcases Nat.lt_or_ge a ops.size with ha | ha
  · have := List.all_eq_true.1 hp a (by simpa using ha)
    unfold planAt at this
    simp only [Bool.and_eq_true, Nat.blt_eq] at this
    rcases Nat.lt_or_ge b a with hb | hb
    · exact hb
    · have h2 : ms.getD a 0 < 2 ^ b := Nat.lt_of_lt_of_le this.1.1.1.1.1 (Nat.pow_le_pow_right (by omega) hb)
      rw [Nat.testBit_lt_two_pow h2] at h; cases h
  · rw [List.getD_eq_getElem?_getD, List.getElem?_eq_none (by omega)] at h
    simp at h

theorem masksGo_length : ∀ (l : List Oper) (acc : List Nat), (masksGo l acc).length = acc.length + l.length := by
  intro l
  induction l with
  | nil => intro acc; rfl
  | cons o l ih => intro acc; simp only [masksGo]; rw [ih]; simp; omega

theorem slots_succ : ∀ (l : List Oper) (vs : List Value) (T : Tree Value) (i : Nat), i < l.length → i < vs.length →
    slots (l.take (i + 1)) (vs.take (i + 1)) T = Tput (slots (l.take i) (vs.take i) T) (l.getD i default).dst (vs.getD i undef) := by
  intro l
  induction l with
  | nil => intro vs T i h; simp at h
  | cons o l ih =>
    intro vs T i h1 h2
    cases vs with
    | nil => simp at h2
    | cons v vs =>
      cases i with
      | zero => simp [slots]
      | succ i =>
        have := ih vs (Tput T o.dst v) i (by simpa using h1) (by simpa using h2)
        simpa [slots] using this

theorem Tget_put (T : Tree Value) (d : Option Tmp) (v : Value) (t : Tmp) : Tget (Tput T d v) t = if d = some t then v else Tget T t := by
  cases d with
  | none => simp [Tput]
  | some d =>
    simp only [Tput, Tget, Tree.get_set]
    by_cases e : t = d
    · subst e; simp
    · rw [if_neg e, if_neg (by simpa using fun h => e h.symm)]

/-- The slots behind the first 'q' operations. -/
theorem slots_get {l : List Oper} {vs : List Value} {T : Tree Value} (hlen : vs.length = l.length) (hdist : ∀ i j d, i < j → j < l.length → (l.getD i default).dst = some d → (l.getD j default).dst = some d → False) :
    ∀ q, q ≤ l.length → ∀ t, (∀ i, i < q → (l.getD i default).dst = some t → Tget (slots (l.take q) (vs.take q) T) t = vs.getD i undef) ∧
      ((∀ i, i < q → (l.getD i default).dst ≠ some t) → Tget (slots (l.take q) (vs.take q) T) t = Tget T t) := by
  intro q
  induction q with
  | zero => intro _ t; exact ⟨fun i hi => by omega, fun _ => by simp [slots]⟩
  | succ q ih =>
    intro hq t
    obtain ⟨i1, i2⟩ := ih (by omega) t
    rw [slots_succ l vs T q (by omega) (by omega), Tget_put]
    refine ⟨fun i hi hd => ?_, fun h => ?_⟩
    · by_cases e : i = q
      · subst e; rw [if_pos hd]
      · rw [if_neg]
        · exact i1 i (by omega) hd
        · intro h2; exact hdist i q t (by omega) (by omega) hd h2
    · rw [if_neg (h q (by omega))]
      exact i2 fun i hi => h i (by omega)

theorem Rel.rewin {B : Base} {m : Mu} {h h' : AHeap} {w : World} (hr : Rel P B m h w) (hg : ∀ b, h'.get b = h.get b) (hf : ∀ b, h'.next ≤ b → b < h'.lim → h'.get b = .dead ∧ m b = none) : Rel P B m h' w := by
  refine ⟨hr.os, hr.tape, hr.output, hr.prot, fun b hb => ?_, fun b b' l l' h1 h2 h3 => ?_, hf⟩
  · rw [hg] at hb ⊢; exact hr.obj b hb
  · rw [hg] at h1 h2 h3; exact hr.sep b b' l l' h1 h2 h3

/-! ## All that is known of a region's run -/
structure Ctx (P : Program) (enters : FuncId → FKind) (callF : CallF) (ops : Array Oper) (ms : List Nat) (base lim : Nat) (T0 : Tree Value) (h0 : AHeap) (vs : List Value) (Gs : List AHeap) (os : List (Nat × AObj)) : Prop where
  mlen : ms.length = ops.size
  vlen : vs.length = ops.size
  glen : Gs.length = ops.size
  plan : ∀ j, j < ops.size → planAt P ops ms ops.size j = true
  lt : ∀ a b, prd ms a b = true → b < a
  osIdx : ∀ x ∈ os, x.1 < ops.size
  fact : ∀ i, i < ops.size → FactAt P enters callF ops ms base (opAt ops i) i (slots (ops.toList.take i) (vs.take i) T0) (heapAt h0 Gs i) (vs.getD i undef) (heapAt h0 Gs (i + 1)) os
  todo : ∀ i, i < ops.size → clsOf P (opAt ops i) = .plain → wantedA ops (opAt ops i) (slots (ops.toList.take i) (vs.take i) T0) = true → ∀ q ∈ todoAt P ops ms i,
    opR P (rhoA (slots (ops.toList.take i) (vs.take i) T0)) (opAt ops i) (fillA (prd ms i) base os (heapAt h0 Gs q)) = some (vs.getD i undef)
  h0next : h0.next = base + ops.size
  h0lim : h0.lim = lim
  hlim : base + ops.size ≤ lim

section ctx
variable {enters : FuncId → FKind} {callF : CallF} {ops : Array Oper} {ms : List Nat} {base lim : Nat} {T0 : Tree Value} {h0 : AHeap} {vs : List Value} {Gs : List AHeap} {os : List (Nat × AObj)}

theorem opAt_toList (ops : Array Oper) (i : Nat) : ops.toList.getD i default = opAt ops i := by
  unfold opAt
  rw [List.getD_eq_getElem?_getD, Array.getD_eq_getD_getElem?]; simp

theorem Ctx.closed (C : Ctx P enters callF ops ms base lim T0 h0 vs Gs os) {j i : Nat} (hj : j < ops.size) (hi : i < ops.size) (h : prd ms j i = true) :
    ∃ e ∈ edgesOf (opAt ops j), e = i ∨ prd ms e i = true := by
  have := C.plan j hj
  unfold planAt at this
  simp only [Bool.and_eq_true] at this
  have := List.all_eq_true.1 this.1.1.1.1.2 i (by simpa using hi)
  rw [h] at this
  simp only [Bool.not_true, Bool.false_or, Bool.and_eq_true] at this
  obtain ⟨e, he, h2⟩ := List.any_eq_true.1 this.2
  refine ⟨e, he, ?_⟩
  simp only [Bool.or_eq_true, Nat.beq_eq] at h2
  exact h2
theorem Ctx.reads (C : Ctx P enters callF ops ms base lim T0 h0 vs Gs os) {j i : Nat} (hj : j < ops.size) (hi : i < ops.size) {t : Tmp} (ht : t ∈ tmpsOf (opAt ops j) ∨ ∃ g w, (opAt ops j).guard = some (g, w) ∧ (ops[g]?).bind (·.dst) = some t)
    (hd : (opAt ops i).dst = some t) : i = j ∨ prd ms j i = true ∨ prd ms i j = true := by
  have := C.plan j hj
  unfold planAt at this
  simp only [Bool.and_eq_true] at this
  have := List.all_eq_true.1 this.1.1.1.2 t (by
    rcases ht with ht | ⟨g, w, hg, hd⟩
    · exact List.mem_append.2 (.inl ht)
    · refine List.mem_append.2 (.inr ?_)
      rw [hg]; dsimp only; rw [hd]; simp)
  have := List.all_eq_true.1 this i (by simpa using hi)
  rw [hd] at this
  simpa [or_assoc] using this
theorem Ctx.guard (C : Ctx P enters callF ops ms base lim T0 h0 vs Gs os) {j g : Nat} {w : Bool} (hj : j < ops.size) (hg : (opAt ops j).guard = some (g, w)) : g < ops.size ∧ prd ms j g = true := by
  have := C.plan j hj
  unfold planAt at this
  simp only [Bool.and_eq_true] at this
  have := this.1.1.2
  rw [hg] at this
  simpa using this
theorem Ctx.dist (C : Ctx P enters callF ops ms base lim T0 h0 vs Gs os) {i j : Nat} {d : Tmp} (hij : i < j) (hj : j < ops.size) (h1 : (opAt ops i).dst = some d) (h2 : (opAt ops j).dst = some d) : False := by
  have := C.plan j hj
  unfold planAt at this
  simp only [Bool.and_eq_true] at this
  have := this.1.2
  rw [h2] at this
  dsimp only at this
  have := List.all_eq_true.1 this i (by simpa using hij)
  rw [h1] at this
  simp at this
theorem Ctx.chain (C : Ctx P enters callF ops ms base lim T0 h0 vs Gs os) {i j : Nat} (hij : i < j) (hj : j < ops.size) (h1 : isLoud P (opAt ops i) = true) (h2 : isLoud P (opAt ops j) = true) : prd ms j i = true := by
  have := C.plan j hj
  unfold planAt at this
  simp only [Bool.and_eq_true] at this
  have := this.2
  rw [h2] at this
  simp only [Bool.not_true, Bool.false_or] at this
  have := List.all_eq_true.1 this i (by simpa using hij)
  rw [h1] at this
  simpa using this

theorem isLoud_iff {o : Oper} : isLoud P o = true ↔ clsOf P o = .loud := by
  unfold isLoud
  cases clsOf P o <;> simp

/-- Only loud ones turn memory. -/
theorem Ctx.quiet (C : Ctx P enters callF ops ms base lim T0 h0 vs Gs os) {i : Nat} (hi : i < ops.size) (h : isLoud P (opAt ops i) = false) : heapAt h0 Gs (i + 1) = heapAt h0 Gs i := by
  have F := C.fact i hi
  cases hw : wantedA ops (opAt ops i) (slots (ops.toList.take i) (vs.take i) T0) with
  | false => exact (F.off hw).2.1
  | true =>
    cases hc : clsOf P (opAt ops i) with
    | plain => exact (F.plain hw hc).1
    | alloc => exact (F.alloc hw hc).1
    | loud => rw [isLoud_iff.2 hc] at h; cases h
theorem Ctx.same (C : Ctx P enters callF ops ms base lim T0 h0 vs Gs os) : ∀ (d q : Nat), q + d ≤ ops.size → (∀ l, q ≤ l → l < q + d → isLoud P (opAt ops l) = false) → heapAt h0 Gs (q + d) = heapAt h0 Gs q := by
  intro d
  induction d with
  | zero => intro q _ _; rfl
  | succ d ih =>
    intro q h1 h2
    rw [show q + (d + 1) = (q + d) + 1 by omega, C.quiet (by omega) (h2 (q + d) (by omega) (by omega))]
    exact ih q (by omega) fun l a b => h2 l a (by omega)
theorem Ctx.nx (C : Ctx P enters callF ops ms base lim T0 h0 vs Gs os) {G : Nat} (hC : CallSound P G callF) {i : Nat} (hi : i < ops.size) : Nx (fillA (prd ms i) base os (heapAt h0 Gs i)) (heapAt h0 Gs (i + 1)) ∨ heapAt h0 Gs (i + 1) = heapAt h0 Gs i := by
  have F := C.fact i hi
  cases hw : wantedA ops (opAt ops i) (slots (ops.toList.take i) (vs.take i) T0) with
  | false => exact .inr (F.off hw).2.1
  | true =>
    cases hc : clsOf P (opAt ops i) with
    | plain => exact .inr (F.plain hw hc).1
    | alloc => exact .inr (F.alloc hw hc).1
    | loud => exact .inl (stepA_next hC (F.loud hw hc).1)
theorem Ctx.osNo (C : Ctx P enters callF ops ms base lim T0 h0 vs Gs os) {x : Nat} {o : AObj} (h : objAt os x = some o) : isRo o = false := by
  have hx : x < ops.size := C.osIdx _ (objAt_mem h)
  have F := C.fact x hx
  cases hw : wantedA ops (opAt ops x) (slots (ops.toList.take x) (vs.take x) T0) with
  | false => rw [(F.off hw).2.2] at h; cases h
  | true =>
    cases hc : clsOf P (opAt ops x) with
    | plain => rw [(F.plain hw hc).2.2] at h; cases h
    | alloc =>
      obtain ⟨_, ob, e1, e2⟩ := F.alloc hw hc
      rw [e2] at h
      obtain rfl := Option.some.inj h
      exact opN_ro e1
    | loud => rw [(F.loud hw hc).2.1] at h; cases h
/-- What all these memories share. -/
theorem Ctx.heaps (C : Ctx P enters callF ops ms base lim T0 h0 vs Gs os) {G : Nat} (hC : CallSound P G callF) : ∀ q, q ≤ ops.size →
    base + ops.size ≤ (heapAt h0 Gs q).next ∧ (heapAt h0 Gs q).lim = lim ∧ ((∀ i, i < ops.size → h0.get (base + i) = .dead) → ∀ x, q ≤ x → x < ops.size → (heapAt h0 Gs q).get (base + x) = .dead) ∧ (∀ b, b < base ∨ lim ≤ b → h0.get b = .dead → (heapAt h0 Gs q).get b = .dead) ∧ (∀ b, isRo ((heapAt h0 Gs q).get b) = true → (heapAt h0 Gs q).get b = h0.get b) := by
  intro q
  induction q with
  | zero => intro _; exact ⟨by simp [heapAt, C.h0next], C.h0lim, fun hf x _ hx => hf x hx, fun _ _ h => h, fun _ _ => rfl⟩
  | succ q ih =>
    intro hq
    obtain ⟨i1, i2, i3, i4, i5⟩ := ih (by omega)
    rcases C.nx hC (i := q) (by omega) with hn | hn
    · have fn := fillA_next (sel := prd ms q) (base := base) (G := heapAt h0 Gs q) os
      have hdead : (∀ i, i < ops.size → h0.get (base + i) = .dead) → ∀ x, q + 1 ≤ x → x < ops.size → (fillA (prd ms q) base os (heapAt h0 Gs q)).get (base + x) = .dead := by
        intro hf x h1 h2
        rcases fillA_get (sel := prd ms q) (base := base) (G := heapAt h0 Gs q) os (base + x) with ⟨i, o, e1, e2, e3, _⟩ | ⟨_, e⟩
        · have := C.lt _ _ e3; omega
        · rw [e]; exact i3 hf x (by omega) h2
      refine ⟨by have := hn.1; rw [fn.1] at this; omega, by rw [hn.2.1, fn.2, i2], fun hf x h1 h2 => hn.2.2.1 _ (.inl (by rw [fn.1]; omega)) (hdead hf x h1 h2), fun b hb h => ?_, fun b hb => ?_⟩
      rotate_left
      · have e0 := hn.2.2.2 b hb
        rw [e0] at hb ⊢
        rcases fillA_get (sel := prd ms q) (base := base) (G := heapAt h0 Gs q) os b with ⟨i, o, e1, e2, e3, e4, e5⟩ | ⟨_, e⟩
        · rw [e5, C.osNo e2] at hb; cases hb
        · rw [e] at hb ⊢; exact i5 b hb
      refine hn.2.2.1 b (by rw [fn.1, fn.2, i2]; omega) ?_
      rcases fillA_get (sel := prd ms q) (base := base) (G := heapAt h0 Gs q) os b with ⟨i, o, e1, e2, e3, _⟩ | ⟨_, e⟩
      · have := C.osIdx _ (objAt_mem e2); have := C.hlim; simp only at *; omega
      · rw [e]; exact i4 b hb h
    · rw [hn]
      exact ⟨i1, i2, fun hf x h1 h2 => i3 hf x (by omega) h2, i4, i5⟩
end ctx
end
end Go.Ab
namespace Go.Ab
open Go
section
variable {P : Program} {enters : FuncId → FKind} {callF : CallF} {ops : Array Oper} {ms : List Nat} {base lim : Nat} {T0 : Tree Value} {h0 : AHeap} {vs : List Value} {Gs : List AHeap} {os : List (Nat × AObj)}

/-- What holds while a region runs in whatever order: 'S' are done; the loud ones among them are those below 'q'. -/
structure Inv (P : Program) (B : Base) (G N : Nat) (ops : Array Oper) (ms : List Nat) (base lim : Nat) (T0 : Tree Value) (h0 : AHeap) (vs : List Value) (Gs : List AHeap) (os : List (Nat × AObj)) (m0 : Mu) (ds : List Deferred)
    (S : Nat → Bool) (q : Nat) (m : Mu) (H : AHeap) (a : Act) (w : World) : Prop where
  closed : ∀ j, j < ops.size → S j = true → ∀ i, i < ops.size → prd ms j i = true → S i = true
  qle : q ≤ ops.size
  qform : q = 0 ∨ ∃ l, isLoud P (opAt ops l) = true ∧ q = l + 1
  louds : ∀ l, l < ops.size → isLoud P (opAt ops l) = true → (S l = true ↔ l < q)
  tsz : a.tmps.size = N
  done : ∀ t i, i < ops.size → S i = true → (opAt ops i).dst = some t → VRel m (vs.getD i undef) (a.tmps.getD t undef)
  kept : ∀ t, (∀ i, i < ops.size → (opAt ops i).dst = some t → S i = false) → VRel m (Tget T0 t) (a.tmps.getD t undef)
  rel : Rel P B m H w
  hnext : H.next = (heapAt h0 Gs q).next
  hlim : H.lim = lim
  hget1 : ∀ i o, S i = true → objAt os i = some o → (heapAt h0 Gs q).get (base + i) = .dead → H.get (base + i) = o
  hget2 : ∀ b, (∀ i o, S i = true → objAt os i = some o → b = base + i → (heapAt h0 Gs q).get b ≠ .dead) → H.get b = (heapAt h0 Gs q).get b
  free : ∀ i, i < ops.size → S i = false → (heapAt h0 Gs q).get (base + i) = .dead ∧ m (base + i) = none
  grel : GRel G m
  le : Mu.le m0 m
  ext : ∀ b, b < base ∨ lim ≤ b → m b = m0 b
  defers : a.defers = ds

theorem Inv.notS {B : Base} {G N : Nat} {m0 : Mu} {ds : List Deferred} {S : Nat → Bool} {q : Nat} {m : Mu} {H : AHeap} {a : Act} {w : World}
    (_I : Inv P B G N ops ms base lim T0 h0 vs Gs os m0 ds S q m H a w) {i : Nat} : S i = true ∨ S i = false := by cases S i <;> simp

/-- One step. -/
theorem Inv.step {B : Base} {G N : Nat} {m0 : Mu} {ds : List Deferred} (C : Ctx P enters callF ops ms base lim T0 h0 vs Gs os) (hE : Enters P enters) (hz : ZF P) (hC : CallSound P G callF)
    (hfree : ∀ i, i < ops.size → h0.get (base + i) = .dead) (hok : ops.toList.all (opOk G N) = true) {S : Nat → Bool} {q : Nat} {m : Mu} {H : AHeap} {a : Act} {w : World}
    (I : Inv P B G N ops ms base lim T0 h0 vs Gs os m0 ds S q m H a w) {i : Nat} (hi : i < ops.size) (hS : S i = false) (hready : ∀ e ∈ edgesOf (opAt ops i), e < ops.size → S e = true)
    {K : Act → World → Prop} {Q : Exit → Act → World → Prop}
    (hK : ∀ q' m' H' a' w', Inv P B G N ops ms base lim T0 h0 vs Gs os m0 ds (fun x => if x = i then true else S x) q' m' H' a' w' → K a' w') : wpOp P ops Q i K a w := by
  have hdstN := dst_of_ok hok
  have hops : ops[i]? = some (opAt ops i) := by unfold opAt; rw [Array.getD_eq_getD_getElem?, Array.getElem?_eq_getElem hi]; rfl
  -- all that must be done is done
  have hpre : ∀ x, x < ops.size → prd ms i x = true → S x = true := by
    intro x hx h
    obtain ⟨e, he, h2⟩ := C.closed hi hx h
    rcases h2 with rfl | h2
    · exact hready e he hx
    · have hlt := C.lt _ _ h2
      have hel : e < ops.size := by
        rcases Nat.lt_or_ge e ops.size with c | c
        · exact c
        · exfalso
          have hm : prd ms e x = false := by
            have := C.lt
            cases hb : prd ms e x with
            | false => rfl
            | true =>
              unfold prd at hb
              rw [List.getD_eq_getElem?_getD, List.getElem?_eq_none (by rw [C.mlen]; exact c)] at hb
              simp at hb
          rw [hm] at h2; cases h2
      exact I.closed e hel (hready e he hel) x hx h2
  have hTi := slots_get (T := T0) (l := ops.toList) (vs := vs) (by simp [C.vlen]) (fun x y d h1 h2 h3 h4 => C.dist h1 (by simpa using h2) (by rw [opAt_toList] at h3; exact h3) (by rw [opAt_toList] at h4; exact h4)) i (by simpa using Nat.le_of_lt hi)
  let Ti := slots (ops.toList.take i) (vs.take i) T0
  -- the operands' slots
  have hslot : ∀ t, (t ∈ tmpsOf (opAt ops i) ∨ ∃ g w, (opAt ops i).guard = some (g, w) ∧ (ops[g]?).bind (·.dst) = some t) → VRel m (Tget Ti t) (a.tmps.getD t undef) := by
    intro t ht
    by_cases c : ∃ x, x < i ∧ (opAt ops x).dst = some t
    · obtain ⟨x, hx, hd⟩ := c
      have e := (hTi t).1 x hx (by rw [opAt_toList]; exact hd)
      show VRel m (Tget Ti t) _
      rw [show Tget Ti t = vs.getD x undef from e]
      refine I.done t x (by omega) ?_ hd
      rcases C.reads hi (by omega) ht hd with h | h | h
      · omega
      · exact hpre x (by omega) h
      · have := C.lt _ _ h; omega
    · have e := (hTi t).2 (fun x hx hd => c ⟨x, hx, by rw [opAt_toList] at hd; exact hd⟩)
      rw [show Tget Ti t = Tget T0 t from e]
      refine I.kept t fun x hx hd => ?_
      rcases C.reads hi hx ht hd with h | h | h
      · rw [h]; exact hS
      · have := C.lt _ _ h; exact absurd ⟨x, this, hd⟩ c
      · rcases I.notS (i := x) with h2 | h2
        · rw [I.closed x hx h2 i hi h] at hS; cases hS
        · exact h2
  have hopk : opOk G N (opAt ops i) = true := List.all_eq_true.1 hok _ (Array.mem_toList_iff.2 (Array.mem_of_getElem? hops))
  have hopnd : ∀ x ∈ (opAt ops i).op.operands.toList, VRel m (rhoA Ti x) (a.eval x) := by
    intro x hx
    have hxo : opndOk G x = true := by
      unfold opOk at hopk
      simp only [Bool.and_eq_true] at hopk
      exact List.all_eq_true.1 hopk.1 x hx
    cases x with
    | tmp t => exact hslot t (.inl (List.mem_filterMap.2 ⟨.tmp t, hx, rfl⟩))
    | const v => exact vflat_rel m 8 v hxo
    | global g =>
      obtain ⟨l, h1, h2, h3⟩ := I.grel g (by simpa [opndOk] using hxo)
      have := VRel.ptr (m := m) g 0 l h1
      rw [h2, h3] at this
      exact this
    | func f => exact .func _ _ _ _ _ rfl (fun i h => by simp at h) rfl (fun i h => by simp at h)
  have hw : Region.wanted (opAt ops i) (yielded ops a.tmps) = wantedA ops (opAt ops i) Ti :=
    wanted_eq' I.tsz ops (opAt ops i) fun g wnt d hg hd => ⟨hdstN g d hd, hslot d (.inr ⟨g, wnt, hg, hd⟩)⟩
  have F := C.fact i hi
  -- from the step's outcome to the goal
  have fin : ∀ (K0 K' : AHeap) (v : Value), v = vs.getD i undef → stepA P enters callF ops (opAt ops i) Ti K0 = some (v, K') →
      Rel P (B.hide m H K0 w) m K0 w →
      (∀ m' v' w', Ext K0 m m' → Rel P (B.hide m H K0 w) m' K' w' → VRel m' v v' → K (a.put (opAt ops i).dst v') w') → wpOp P ops Q i K a w := by
    intro K0 K' v _ hst hrel hk
    have := stepA_sound' (B := B.hide m H K0 w) (Q := Q) hE hz hC hst hrel I.grel hopnd hw hk
    unfold wpOp
    rw [hops]
    dsimp only
    split
    · rename_i h1; rw [if_pos h1] at this; exact .inl this
    · rename_i h1; rw [if_neg h1] at this; exact this
  -- the slots behind the step
  have tm1 : ∀ m' v', Mu.le m m' → VRel m' (vs.getD i undef) v' → ∀ t x, x < ops.size → (if x = i then true else S x) = true → (opAt ops x).dst = some t → VRel m' (vs.getD x undef) ((a.put (opAt ops i).dst v').tmps.getD t undef) := by
    intro m' v' hle hv t x hx hSx hd
    by_cases e : x = i
    · subst e
      rw [hd]
      have hdn := hdstN x t (by rw [hops]; exact hd)
      simp only [Act.put, Array.getD_eq_getD_getElem?, Array.getElem?_setIfInBounds]
      rw [if_pos trivial, if_pos (by rw [I.tsz]; exact hdn)]
      exact hv
    · rw [if_neg e] at hSx
      have h1 := (I.done t x hx hSx hd).mono hle
      have hne : (opAt ops i).dst ≠ some t := by
        intro h2
        rcases Nat.lt_or_gt_of_ne e with h3 | h3
        · exact C.dist h3 hi hd h2
        · exact C.dist h3 hx h2 hd
      cases hdd : (opAt ops i).dst with
      | none => exact h1
      | some d =>
        simp only [Act.put, Array.getD_eq_getD_getElem?, Array.getElem?_setIfInBounds] at h1 ⊢
        rw [if_neg (fun h => hne (by rw [hdd, h]))]
        exact h1
  have tm2 : ∀ m' v', Mu.le m m' → ∀ t, (∀ x, x < ops.size → (opAt ops x).dst = some t → (if x = i then true else S x) = false) → VRel m' (Tget T0 t) ((a.put (opAt ops i).dst v').tmps.getD t undef) := by
    intro m' v' hle t h
    have hne : (opAt ops i).dst ≠ some t := by
      intro h2
      have := h i hi h2
      simp at this
    have h1 := (I.kept t fun x hx hd => by
      have := h x hx hd
      split at this
      · cases this
      · exact this).mono hle
    cases hdd : (opAt ops i).dst with
    | none => exact h1
    | some d =>
      simp only [Act.put, Array.getD_eq_getD_getElem?, Array.getElem?_setIfInBounds] at h1 ⊢
      rw [if_neg (fun h => hne (by rw [hdd, h]))]
      exact h1
  have tsz' : ∀ v', (a.put (opAt ops i).dst v').tmps.size = N := by
    intro v'
    cases (opAt ops i).dst with
    | none => exact I.tsz
    | some d => simp [Act.put, I.tsz]
  have def' : ∀ v', (a.put (opAt ops i).dst v').defers = ds := by
    intro v'
    cases (opAt ops i).dst with
    | none => exact I.defers
    | some d => exact I.defers
  have closed' : ∀ j, j < ops.size → (if j = i then true else S j) = true → ∀ x, x < ops.size → prd ms j x = true → (if x = i then true else S x) = true := by
    intro j hj hSj x hx h
    by_cases e : x = i
    · rw [if_pos e]
    · rw [if_neg e]
      by_cases e2 : j = i
      · subst e2; exact hpre x hx h
      · rw [if_neg e2] at hSj; exact I.closed j hj hSj x hx h
  obtain ⟨hh1, hh2, hh3', hh4, _⟩ := C.heaps hC q I.qle
  have hh3 := hh3' hfree
  -- the memory at which it is reckoned
  let Kp := fillA (prd ms i) base os (heapAt h0 Gs q)
  have hKp : ∀ b, Kp.get b ≠ .dead → Kp.get b = H.get b := by
    intro b hb
    rcases fillA_get (sel := prd ms i) (base := base) (G := heapAt h0 Gs q) os b with ⟨x, o, e1, e2, e3, e4, e5⟩ | ⟨e1, e2⟩
    · show Kp.get b = _
      rw [show Kp.get b = o from e5]
      subst e1
      exact (I.hget1 x o (hpre x (C.osIdx _ (objAt_mem e2)) e3) e2 e4).symm
    · have hb2 : (heapAt h0 Gs q).get b ≠ .dead := by rw [← e2]; exact hb
      rw [show Kp.get b = (heapAt h0 Gs q).get b from e2, I.hget2 b fun _ _ _ _ _ => hb2]
  have hKpn : Kp.next = H.next ∧ Kp.lim = lim := by
    have := fillA_next (sel := prd ms i) (base := base) (G := heapAt h0 Gs q) os
    exact ⟨this.1.trans I.hnext.symm, this.2.trans hh2⟩
  have hKdead : ∀ b, H.get b = .dead → Kp.get b = .dead := by
    intro b hb
    cases hd : isDead (Kp.get b) with
    | true => exact isDead_iff.1 hd
    | false =>
      have : Kp.get b ≠ .dead := fun h => by rw [isDead_iff.2 h] at hd; cases hd
      rw [hKp b this] at this
      exact absurd hb this
  have hKp0 : ∀ b, Kp.get b = .dead → (heapAt h0 Gs q).get b = .dead := by
    intro b hb
    rcases fillA_get (sel := prd ms i) (base := base) (G := heapAt h0 Gs q) os b with ⟨x, o, e1, e2, e3, e4, e5⟩ | ⟨e1, e2⟩
    · exact e4
    · rw [← e2]; exact hb
  have hRelK : Rel P (B.hide m H Kp w) m Kp w := I.rel.hide hKp fun b h1 h2 => by
    have := I.rel.fresh b (by rw [← hKpn.1]; exact h1) (by rw [I.hlim, ← hKpn.2]; exact h2)
    exact ⟨hKdead b this.1, this.2⟩
  have hnotS : ∀ x, x < ops.size → (if x = i then true else S x) = false → S x = false := by
    intro x _ h
    split at h
    · cases h
    · exact h
  -- where nothing is turned
  have still : ∀ (hheap : heapAt h0 Gs (i + 1) = heapAt h0 Gs i) (hno : objAt os i = none), stepA P enters callF ops (opAt ops i) Ti Kp = some (vs.getD i undef, Kp) → wpOp P ops Q i K a w := by
    intro hheap hno hst
    refine fin Kp Kp _ rfl hst hRelK fun m' v' w' c1 c2 c3 => ?_
    have hnew : ∃ q', (q' = q ∨ (q' = i + 1 ∧ isLoud P (opAt ops i) = true)) ∧ heapAt h0 Gs q' = heapAt h0 Gs q ∧ ∀ l, l < ops.size → isLoud P (opAt ops l) = true → ((if l = i then true else S l) = true ↔ l < q') := by
      cases hl : isLoud P (opAt ops i) with
      | false =>
        refine ⟨q, .inl rfl, rfl, fun l hl1 hl2 => ?_⟩
        rw [if_neg (by rintro rfl; rw [hl] at hl2; cases hl2)]
        exact I.louds l hl1 hl2
      | true =>
        have hqi : q ≤ i := by
          rcases Nat.lt_or_ge i q with c | c
          · rw [(I.louds i hi hl).2 c] at hS; cases hS
          · exact c
        have hbet : ∀ l, q ≤ l → l < i → isLoud P (opAt ops l) = false := by
          intro l h1 h2
          cases hll : isLoud P (opAt ops l) with
          | false => rfl
          | true =>
            have := hpre l (by omega) (C.chain h2 hi hll hl)
            have := (I.louds l (by omega) hll).1 this
            omega
        have hs := C.same (i - q) q (by omega) (fun l h1 h2 => hbet l h1 (by omega))
        rw [show q + (i - q) = i by omega] at hs
        refine ⟨i + 1, .inr ⟨rfl, rfl⟩, hheap.trans hs, fun l hl1 hl2 => ?_⟩
        by_cases e : l = i
        · subst e; simp
        · rw [if_neg e, I.louds l hl1 hl2]
          constructor
          · intro h; omega
          · intro h
            rcases Nat.lt_or_ge l q with c | c
            · exact c
            · rw [hbet l c (by omega)] at hl2; cases hl2
    obtain ⟨q', hq1, hq2, hq3⟩ := hnew
    refine hK q' m' H _ w' ⟨closed', ?_, ?_, hq3, tsz' v', tm1 m' v' c1.1 c3, tm2 m' v' c1.1, ?_, ?_, I.hlim, ?_, ?_, ?_, I.grel.mono c1.1, Mu.le_trans I.le c1.1, ?_, def' v'⟩
    · rcases hq1 with rfl | ⟨rfl, _⟩
      · exact I.qle
      · omega
    · rcases hq1 with rfl | ⟨rfl, h⟩
      · exact I.qform
      · exact .inr ⟨i, h, rfl⟩
    · refine I.rel.reveal c2 c1.1 hKp (fun b _ => rfl) (fun b _ => rfl) (fun b hb => ?_) fun b h1 h2 => ?_
      · by_cases e : Kp.get b = .dead
        · rw [e]
          cases hd : isDead (H.get b) with
          | true => exact isDead_iff.1 hd
          | false => exact absurd ⟨(fun h => (by rw [isDead_iff.2 h] at hd; cases hd)), e⟩ hb
        · exact (hKp b e).symm
      · have f := I.rel.fresh b h1 h2
        have f2 := c2.fresh b (by rw [hKpn.1]; exact h1) (by rw [hKpn.2, ← I.hlim]; exact h2)
        exact ⟨f.1, f2.2⟩
    · rw [hq2]; exact I.hnext
    · intro x o hx ho hd
      rw [hq2] at hd
      split at hx
      · rename_i e; subst e; rw [hno] at ho; cases ho
      · exact I.hget1 x o hx ho hd
    · intro b hb
      rw [hq2]
      refine I.hget2 b fun x o hx ho e => ?_
      have := hb x o (by split <;> simp_all) ho e
      rw [hq2] at this; exact this
    · intro x hx hxS
      have hsx := hnotS x hx hxS
      obtain ⟨f1, f2⟩ := I.free x hx hsx
      rw [hq2]
      refine ⟨f1, ?_⟩
      rw [c1.2 (base + x) (.inl (by rw [hKpn.1, I.hnext]; omega))]
      exact f2
    · intro b hb
      rw [c1.2 b (by rcases hb with hb | hb; (left; rw [hKpn.1, I.hnext]; omega); (right; rw [hKpn.2]; exact hb))]
      exact I.ext b hb
  cases hwa : wantedA ops (opAt ops i) Ti with
  | false =>
    obtain ⟨e1, e2, e3⟩ := F.off hwa
    refine still e2 e3 ?_
    unfold stepA
    rw [hwa]
    dsimp only
    rw [e1]
  | true =>
    cases hcls : clsOf P (opAt ops i) with
    | plain =>
      obtain ⟨e1, e2, e3⟩ := F.plain hwa hcls
      refine still e1 e3 ?_
      have hopr : opR P (rhoA Ti) (opAt ops i) Kp = some (vs.getD i undef) := by
        by_cases hsq : sameQ P ops i q = true
        · unfold sameQ at hsq
          simp only [Bool.and_eq_true, Nat.ble_eq] at hsq
          have hs := C.same (i - q) q (by omega) (fun l h1 h2 => by
            cases hll : isLoud P (opAt ops l) with
            | false => rfl
            | true =>
              have := List.all_eq_true.1 hsq.2 l (List.mem_filter.2 ⟨by simp; omega, hll⟩)
              simp at this
              rcases this with h3 | h3
              · have h3' : ¬ q ≤ l := by
                  intro h4; rw [show Nat.ble q l = true from by simpa using h4] at h3; cases h3
                omega
              · have h3' : ¬ l < i := by
                  intro h4; rw [show Nat.blt l i = true from by simpa using h4] at h3; cases h3
                omega)
          rw [show q + (i - q) = i by omega] at hs
          show opR P (rhoA Ti) (opAt ops i) (fillA (prd ms i) base os (heapAt h0 Gs q)) = _
          rw [← hs]; exact e2
        · refine C.todo i hi hcls hwa q (List.mem_filter.2 ⟨?_, ?_⟩)
          · rcases I.qform with h | ⟨l, h1, h2⟩
            · rw [h]; simp
            · refine List.mem_cons_of_mem _ (List.mem_map.2 ⟨l, List.mem_filter.2 ⟨by have := I.qle; simp; omega, h1⟩, h2.symm⟩)
          · simp only [Bool.and_eq_true, Bool.not_eq_true']
            refine ⟨?_, by simpa using hsq⟩
            unfold compat
            refine List.all_eq_true.2 fun l hl => ?_
            have hl := List.mem_filter.1 hl
            have hln : l < ops.size := by simpa using hl.1
            simp only [Bool.and_eq_true, Bool.or_eq_true, Bool.not_eq_true', Nat.blt_eq]
            refine ⟨?_, ?_⟩
            · cases hp : prd ms i l with
              | false => exact .inl rfl
              | true => exact .inr ((I.louds l hln hl.2).1 (hpre l hln hp))
            · cases hp : Nat.blt l q with
              | false => exact .inl rfl
              | true =>
                right
                have hSl := (I.louds l hln hl.2).2 (by simpa using hp)
                cases hp2 : prd ms l i with
                | false => rfl
                | true => rw [I.closed l hln hSl i hi hp2] at hS; cases hS
      unfold stepA
      rw [hwa]
      dsimp only
      rw [opR_opA hopr]
    | alloc =>
      obtain ⟨e1, ob, e2, e3⟩ := F.alloc hwa hcls
      obtain ⟨f1, f2⟩ := I.free i hi hS
      have hnl : isLoud P (opAt ops i) = false := by unfold isLoud; rw [hcls]
      have hKi : Kp.get (base + i) = .dead := by
        rcases fillA_get (sel := prd ms i) (base := base) (G := heapAt h0 Gs q) os (base + i) with ⟨x, o, g1, g2, g3, _⟩ | ⟨_, g2⟩
        · have := C.lt _ _ g3; omega
        · rw [show Kp.get (base + i) = _ from g2]; exact f1
      have hHi : H.get (base + i) = .dead := by
        rw [I.hget2 (base + i) fun x o hx _ e => by
          have : x = i := by omega
          rw [this, hS] at hx; cases hx]
        exact f1
      let Kw : AHeap := { Kp with next := base + i, lim := base + i + 1 }
      have hKw : ∀ b, Kw.get b = Kp.get b := fun _ => rfl
      have hRelW : Rel P (B.hide m H Kw w) m Kw w := I.rel.hide (fun b hb => by rw [hKw] at hb ⊢; exact hKp b hb) fun b h1 h2 => by
        have h1' : base + i ≤ b := h1
        have h2' : b < base + i + 1 := h2
        obtain rfl : b = base + i := by omega
        exact ⟨hKi, f2⟩
      have hst : stepA P enters callF ops (opAt ops i) Ti Kw = some (vs.getD i undef, Kw.push ob) := by
        unfold stepA
        rw [hwa]
        dsimp only
        rw [opN_opA (h := Kw) e2 (Nat.lt_succ_self _)]
      have hpg : ∀ b, (Kw.push ob).get b = if b = base + i then ob else Kp.get b := fun b => AHeap.get_push Kw b ob
      refine fin Kw (Kw.push ob) _ rfl hst hRelW fun m' v' w' c1 c2 c3 => ?_
      have hout : ∀ b, b ≠ base + i → m' b = m b := fun b hb => c1.2 b (by
        show b < base + i ∨ base + i + 1 ≤ b
        omega)
      have hHput : ∀ b, (H.put (base + i) ob).get b = if b = base + i then ob else H.get b := fun b => AHeap.get_put H _ b ob
      refine hK q m' (H.put (base + i) ob) _ w' ⟨closed', I.qle, I.qform, ?_, tsz' v', tm1 m' v' c1.1 c3, tm2 m' v' c1.1, ?_, I.hnext, I.hlim, ?_, ?_, ?_, I.grel.mono c1.1, Mu.le_trans I.le c1.1, ?_, def' v'⟩
      · intro l hl1 hl2
        rw [if_neg (by rintro rfl; rw [hnl] at hl2; cases hl2)]
        exact I.louds l hl1 hl2
      · refine I.rel.reveal c2 c1.1 hKp (fun b hb => (stepA_next hC hst).2.2.2 b hb) (fun b hb => ?_) (fun b hb => ?_) fun b h1 h2 => ?_
        · rw [hHput, if_neg (by rintro rfl; exact hb.1 hHi)]
        · rw [hHput, hpg]
          by_cases e : b = base + i
          · rw [if_pos e, if_pos e]
          · rw [if_neg e, if_neg e]
            by_cases e4 : Kp.get b = .dead
            · rw [e4]
              cases hd : isDead (H.get b) with
              | true => exact isDead_iff.1 hd
              | false => exact absurd ⟨(fun h => (by rw [isDead_iff.2 h] at hd; cases hd)), e4⟩ hb
            · exact (hKp b e4).symm
        · have h1' : H.next ≤ b := h1
          have h2' : b < H.lim := h2
          have hne : b ≠ base + i := by rw [I.hnext] at h1'; omega
          have f := I.rel.fresh b h1' h2'
          rw [hHput, if_neg hne, hout b hne]
          exact f
      · intro x o hx ho hd
        rw [hHput]
        split at hx
        · rename_i e; subst e; rw [e3] at ho; cases ho; rw [if_pos rfl]
        · rename_i e
          rw [if_neg (by omega)]
          exact I.hget1 x o hx ho hd
      · intro b hb
        rw [hHput, if_neg]
        · refine I.hget2 b fun x o hx ho e => hb x o (by split <;> simp_all) ho e
        · rintro rfl
          exact hb i ob (by simp) e3 rfl f1
      · intro x hx hxS
        have hsx := hnotS x hx hxS
        obtain ⟨g1, g2⟩ := I.free x hx hsx
        refine ⟨g1, ?_⟩
        rw [hout (base + x) (by
          intro h
          have : x = i := by omega
          subst this
          simp at hxS)]
        exact g2
      · intro b hb
        have := C.hlim
        rw [hout b (by omega)]
        exact I.ext b hb
    | loud =>
      obtain ⟨e1, e2, e3⟩ := F.loud hwa hcls
      have hl : isLoud P (opAt ops i) = true := isLoud_iff.2 hcls
      have hqi : q ≤ i := by
        rcases Nat.lt_or_ge i q with c | c
        · rw [(I.louds i hi hl).2 c] at hS; cases hS
        · exact c
      have hbet : ∀ l, q ≤ l → l < i → isLoud P (opAt ops l) = false := by
        intro l h1 h2
        cases hll : isLoud P (opAt ops l) with
        | false => rfl
        | true =>
          have := hpre l (by omega) (C.chain h2 hi hll hl)
          have := (I.louds l (by omega) hll).1 this
          omega
      have hs := C.same (i - q) q (by omega) (fun l h1 h2 => hbet l h1 (by omega))
      rw [show q + (i - q) = i by omega] at hs
      rw [hs] at e1 e3
      have hnx : Nx Kp (heapAt h0 Gs (i + 1)) := stepA_next hC e1
      refine fin Kp (heapAt h0 Gs (i + 1)) _ rfl e1 hRelK fun m' v' w' c1 c2 c3 => ?_
      let G1 := heapAt h0 Gs (i + 1)
      let H' := fillA S base os G1
      have hH'n := fillA_next (sel := S) (base := base) (G := G1) os
      have hKx : ∀ x, i ≤ x → x < ops.size → Kp.get (base + x) = .dead := by
        intro x h1 h2
        rcases fillA_get (sel := prd ms i) (base := base) (G := heapAt h0 Gs q) os (base + x) with ⟨y, o, g1, g2, g3, _⟩ | ⟨_, g2⟩
        · have := C.lt _ _ g3; omega
        · rw [show Kp.get (base + x) = _ from g2]; exact hh3 x (by omega) h2
      refine hK (i + 1) m' H' _ w' ⟨closed', by omega, .inr ⟨i, hl, rfl⟩, ?_, tsz' v', tm1 m' v' c1.1 c3, tm2 m' v' c1.1, ?_, hH'n.1, ?_, ?_, ?_, ?_, I.grel.mono c1.1, Mu.le_trans I.le c1.1, ?_, def' v'⟩
      · intro l hl1 hl2
        by_cases e : l = i
        · subst e; simp
        · rw [if_neg e, I.louds l hl1 hl2]
          constructor
          · intro h; omega
          · intro h
            rcases Nat.lt_or_ge l q with c | c
            · exact c
            · rw [hbet l c (by omega)] at hl2; cases hl2
      · refine I.rel.reveal c2 c1.1 hKp (fun b hb => hnx.2.2.2 b hb) (fun b hb => ?_) (fun b hb => ?_) fun b h1 h2 => ?_
        · -- hidden: it was made, and is not known to the loud one
          have hq0 := hKp0 b hb.2
          have hex : ∃ x o, S x = true ∧ objAt os x = some o ∧ b = base + x := by
            refine Classical.byContradiction fun hno => hb.1 ?_
            rw [I.hget2 b fun x o h1 h2 h3 => absurd ⟨x, o, h1, h2, h3⟩ hno]
            exact hq0
          obtain ⟨x, o, g1, g2, rfl⟩ := hex
          have hxn : x < ops.size := C.osIdx _ (objAt_mem g2)
          have hG1 : G1.get (base + x) = .dead := hnx.2.2.1 _ (.inl (by rw [hKpn.1, I.hnext]; omega)) hb.2
          rw [I.hget1 x o g1 g2 hq0]
          rcases fillA_get (sel := S) (base := base) (G := G1) os (base + x) with ⟨y, o2, k1, k2, k3, k4, k5⟩ | ⟨k1, _⟩
          · obtain rfl : x = y := by omega
            rw [g2] at k2; cases k2
            exact k5
          · exact absurd hG1 (k1 x o rfl g2 g1)
        · rcases fillA_get (sel := S) (base := base) (G := G1) os b with ⟨x, o, k1, k2, k3, k4, k5⟩ | ⟨_, k2⟩
          · subst k1
            have hxn : x < ops.size := C.osIdx _ (objAt_mem k2)
            show H'.get _ = G1.get _
            rw [show H'.get (base + x) = o from k5, k4]
            by_cases e : Kp.get (base + x) = .dead
            · have hd : H.get (base + x) = .dead := by
                cases hd : isDead (H.get (base + x)) with
                | true => exact isDead_iff.1 hd
                | false => exact absurd ⟨(fun h => (by rw [isDead_iff.2 h] at hd; cases hd)), e⟩ hb
              rw [← I.hget1 x o k3 k2 (hKp0 _ e)]; exact hd
            · exfalso
              rcases Nat.lt_or_ge x i with c | c
              · exact e3 x o c k2 e k4
              · exact e (hKx x c hxn)
          · exact k2
        · have f := c2.fresh b (by rw [← hH'n.1]; exact h1) (by rw [← hH'n.2]; exact h2)
          refine ⟨?_, f.2⟩
          rcases fillA_get (sel := S) (base := base) (G := G1) os b with ⟨x, o, k1, k2, k3, k4, k5⟩ | ⟨_, k2⟩
          · exfalso
            have hxn : x < ops.size := C.osIdx _ (objAt_mem k2)
            have hn1 := hnx.1
            have h1' : G1.next ≤ b := by rw [← hH'n.1]; exact h1
            have : Kp.next ≤ b := Nat.le_trans hn1 h1'
            rw [hKpn.1, I.hnext] at this
            omega
          · rw [show H'.get b = _ from k2]; exact f.1
      · rw [hH'n.2, hnx.2.1, hKpn.2]
      · intro x o hx ho hd
        split at hx
        · rename_i e; subst e; rw [e2] at ho; cases ho
        · rcases fillA_get (sel := S) (base := base) (G := G1) os (base + x) with ⟨y, o2, k1, k2, k3, k4, k5⟩ | ⟨k1, _⟩
          · obtain rfl : x = y := by omega
            rw [ho] at k2; cases k2
            exact k5
          · exact absurd hd (k1 x o rfl ho hx)
      · intro b hb
        rcases fillA_get (sel := S) (base := base) (G := G1) os b with ⟨x, o, k1, k2, k3, k4, k5⟩ | ⟨_, k2⟩
        · exact absurd k4 (hb x o (by split <;> simp_all) k2 k1)
        · exact k2
      · intro x hx hxS
        have hsx := hnotS x hx hxS
        obtain ⟨f1, f2⟩ := I.free x hx hsx
        have hKd : Kp.get (base + x) = .dead := by
          rcases fillA_get (sel := prd ms i) (base := base) (G := heapAt h0 Gs q) os (base + x) with ⟨y, o, g1, g2, g3, _⟩ | ⟨_, g2⟩
          · obtain rfl : x = y := by omega
            rw [hpre x hx g3] at hsx; cases hsx
          · rw [show Kp.get (base + x) = _ from g2]; exact f1
        refine ⟨hnx.2.2.1 _ (.inl (by rw [hKpn.1, I.hnext]; omega)) hKd, ?_⟩
        rw [c1.2 (base + x) (.inl (by rw [hKpn.1, I.hnext]; omega))]
        exact f2
      · intro b hb
        rw [c1.2 b (by rcases hb with hb | hb; (left; rw [hKpn.1, I.hnext]; omega); (right; rw [hKpn.2]; exact hb))]
        exact I.ext b hb
end
end Go.Ab
namespace Go.Ab
open Go
section
variable {P : Program}

theorem checkGo_spec {ops : Array Oper} {ms : List Nat} {base : Nat} {h0 : AHeap} {Gs : List AHeap} {os : List (Nat × AObj)} :
    ∀ (l : List Oper) (vs : List Value) (j : Nat) (T : Tree Value), checkGo P ops ms base h0 Gs os l vs j T = true → vs.length = l.length →
    ∀ i, i < l.length → clsOf P (l.getD i default) = .plain → wantedA ops (l.getD i default) (slots (l.take i) (vs.take i) T) = true → ∀ q ∈ todoAt P ops ms (j + i),
      opR P (rhoA (slots (l.take i) (vs.take i) T)) (l.getD i default) (fillA (prd ms (j + i)) base os (heapAt h0 Gs q)) = some (vs.getD i undef) := by
  intro l
  induction l with
  | nil => intro vs j T _ _ i hi; simp at hi
  | cons o l ih =>
    intro vs j T h hl i hi hc hw q hq
    cases vs with
    | nil => simp at hl
    | cons v vs =>
      simp only [checkGo, Bool.and_eq_true] at h
      cases i with
      | zero =>
        have h1 := h.1
        simp only [List.getD_cons_zero] at hc
        simp only [List.take_zero, slots, List.getD_cons_zero] at hw ⊢
        rw [hc, hw] at h1
        dsimp only at h1
        have h2 := List.all_eq_true.1 h1 q hq
        simp only [Nat.add_zero] at h2 ⊢
        split at h2
        · rename_i v' hv'
          rw [hv', veq_eq 8 v' v h2]
        · cases h2
      | succ i =>
        have := ih vs (j + 1) (Tput T o.dst v) h.2 (by simpa using hl) i (by simpa using hi) (by simpa using hc) (by simpa [slots] using hw) q (by rw [show j + 1 + i = j + (i + 1) by omega]; exact hq)
        rw [show j + 1 + i = j + (i + 1) by omega] at this
        simpa [slots] using this

theorem order_progress {md : Region.Mode} {ops : Array Oper} {listed : Array Bool} (hsz : listed.size = ops.size) : ∀ (l seen : List Nat), orderGo md ops l seen = true → (∀ x ∈ seen, listed.getD x false = true) →
    (∀ x ∈ l, x < ops.size) → (∃ x ∈ l, listed.getD x false = false) → ∃ i, i ∈ Region.ready md ops listed := by
  intro l
  induction l with
  | nil => intro seen _ _ _ h; obtain ⟨x, hx, _⟩ := h; simp at hx
  | cons i l ih =>
    intro seen h hs hl hex
    simp only [orderGo, Bool.and_eq_true] at h
    have hi := hl i (by simp)
    cases hb : listed.getD i false with
    | true =>
      refine ih (i :: seen) h.2 (fun x hx => ?_) (fun x hx => hl x (by simp [hx])) ?_
      · rcases List.mem_cons.1 hx with rfl | hx
        · exact hb
        · exact hs x hx
      · obtain ⟨x, hx, hf⟩ := hex
        rcases List.mem_cons.1 hx with rfl | hx
        · rw [hb] at hf; cases hf
        · exact ⟨x, hx, hf⟩
    | false =>
      refine ⟨i, mem_ready.2 ⟨?_, ops[i]'hi, Array.getElem?_eq_getElem hi, fun e he hbi => ?_⟩⟩
      · rw [← hb]
        simp [Array.getD_eq_getD_getElem?, Array.getElem?_eq_getElem (show i < listed.size by omega)]
      · have h1 := h.1
        unfold boundIn at h1
        have hop : opAt ops i = ops[i]'hi := by unfold opAt; rw [Array.getD_eq_getD_getElem?, Array.getElem?_eq_getElem hi]; rfl
        rw [hop] at h1
        have h2 := List.all_eq_true.1 h1 e (Array.mem_toList_iff.2 he)
        rw [hbi] at h2
        simp only [Bool.not_true, Bool.false_or] at h2
        obtain ⟨x, hx, hxe⟩ := List.any_eq_true.1 h2
        rw [Nat.beq_eq] at hxe
        rw [hxe]; exact hs x hx

theorem natGo_at {md : Region.Mode} : ∀ (l : List Oper) (j : Nat), natGo md l j = true → ∀ i, i < l.length → ((l.getD i default).after.toList.all fun e => !Region.binds md e || Nat.blt e.on (j + i)) = true := by
  intro l
  induction l with
  | nil => intro j _ i hi; simp at hi
  | cons o l ih =>
    intro j h i hi
    simp only [natGo, Bool.and_eq_true] at h
    cases i with
    | zero => exact h.1
    | succ i =>
      have := ih (j + 1) h.2 i (by simpa using hi)
      rw [show j + (i + 1) = j + 1 + i by omega]
      exact this
theorem natGo_order {md : Region.Mode} {ops : Array Oper} (h : natGo md ops.toList 0 = true) : ∀ (k j : Nat) (seen : List Nat), (∀ x, x < j → x ∈ seen) → j + k ≤ ops.size → orderGo md ops (List.range' j k) seen = true := by
  intro k
  induction k with
  | zero => intro j seen _ _; rfl
  | succ k ih =>
    intro j seen hs hj
    simp only [List.range'_succ, orderGo, Bool.and_eq_true]
    refine ⟨?_, ih (j + 1) (j :: seen) (fun x hx => ?_) (by omega)⟩
    · have := natGo_at _ 0 h j (by simp; omega)
      rw [opAt_toList] at this
      unfold boundIn
      refine List.all_eq_true.2 fun e he => ?_
      have h1 := List.all_eq_true.1 this e he
      simp only [Bool.or_eq_true, Nat.blt_eq] at h1 ⊢
      rcases h1 with h1 | h1
      · exact .inl h1
      · exact .inr (List.any_eq_true.2 ⟨e.on, hs _ (by omega), by simp⟩)
    · by_cases c : x = j
      · rw [c]; simp
      · exact List.mem_cons_of_mem _ (hs x (by omega))
theorem orderOk_list {md : Region.Mode} {ops : Array Oper} (h : orderOk md ops = true) : ∃ l, orderGo md ops l [] = true ∧ (∀ x, x < ops.size → x ∈ l) ∧ ∀ z ∈ l, z < ops.size := by
  unfold orderOk at h
  rw [Bool.or_eq_true] at h
  rcases h with h | h
  · refine ⟨List.range' 0 ops.size, natGo_order h ops.size 0 [] (fun x hx => by omega) (by omega), fun x hx => ?_, fun z hz => ?_⟩
    · simp [List.mem_range']; omega
    · simp [List.mem_range'] at hz; omega
  · simp only [Bool.and_eq_true] at h
    refine ⟨_, h.1.1, fun x hx => ?_, fun z hz => by simpa using List.all_eq_true.1 h.2 z hz⟩
    obtain ⟨y, hy, hxy⟩ := List.any_eq_true.1 (List.all_eq_true.1 h.1.2 x (by simpa using hx))
    rw [Nat.beq_eq] at hxy
    rw [hxy]; exact hy
theorem binds_any {md : Region.Mode} {e : Edge} (h : Region.binds .any e = true) : Region.binds md e = true := by
  unfold Region.binds at *
  split at h <;> first | (cases h; done) | rfl

def unl (listed : Array Bool) (n : Nat) : Nat := ((List.range n).filter fun x => !listed.getD x false).length

theorem unl_lt {listed : Array Bool} {n i : Nat} (hi : i < n) (hs : listed.size = n) (h : listed.getD i false = false) : unl (listed.setIfInBounds i true) n < unl listed n := by
  have e : (List.range n).filter (fun x => !(listed.setIfInBounds i true).getD x false) = ((List.range n).filter fun x => !listed.getD x false).filter (fun x => !Nat.beq x i) := by
    rw [List.filter_filter]
    refine List.filter_congr fun x hx => ?_
    by_cases c : x = i
    · subst c
      simp [hs, hi]
    · rw [getD_set_ne false (Ne.symm c)]
      have : Nat.beq x i = false := by
        cases hb : Nat.beq x i with
        | false => rfl
        | true => rw [Nat.beq_eq] at hb; exact absurd hb c
      rw [this]; simp
  unfold unl
  rw [e, List.length_filter_lt_length_iff_exists]
  refine ⟨i, List.mem_filter.2 ⟨by simpa using hi, by rw [h]; rfl⟩, ?_⟩
  have : Nat.beq i i = true := by simp
  rw [this]; simp

section
variable {enters : FuncId → FKind} {callF : CallF} {ops : Array Oper} {ms : List Nat} {base lim : Nat} {T0 : Tree Value} {h0 : AHeap} {vs : List Value} {Gs : List AHeap} {os : List (Nat × AObj)}

theorem any_sound {B : Base} {G N : Nat} {m0 : Mu} {ds : List Deferred} (C : Ctx P enters callF ops ms base lim T0 h0 vs Gs os) (hE : Enters P enters) (hz : ZF P) (hC : CallSound P G callF)
    (hfree : ∀ i, i < ops.size → h0.get (base + i) = .dead) (hok : ops.toList.all (opOk G N) = true) {md : Region.Mode} (hord : orderOk md ops = true) {Q : Exit → Act → World → Prop}
    (hQ : ∀ S q m H a w, (∀ x, x < ops.size → S x = true) → Inv P B G N ops ms base lim T0 h0 vs Gs os m0 ds S q m H a w → Q .normal a w) :
    ∀ (f : Nat) (listed : Array Bool) (q : Nat) (m : Mu) (H : AHeap) (a : Act) (w : World), listed.size = ops.size → unl listed ops.size ≤ f →
      Inv P B G N ops ms base lim T0 h0 vs Gs os m0 ds (fun x => listed.getD x false) q m H a w → wpAny P md ops Q f listed a w := by
  have hall : ∀ (listed : Array Bool), listed.size = ops.size → Region.ready md ops listed = [] → ∀ x, x < ops.size → listed.getD x false = true := by
    intro listed hsz hr x hx
    obtain ⟨l0, o1, o2, o3⟩ := orderOk_list hord
    cases hb : listed.getD x false with
    | true => rfl
    | false =>
      obtain ⟨i, hi⟩ := order_progress (listed := listed) hsz l0 [] o1 (by simp) o3 ⟨x, o2 x hx, hb⟩
      rw [hr] at hi; simp at hi
  intro f
  induction f with
  | zero =>
    intro listed q m H a w hsz hu I
    have hdone : ∀ x, x < ops.size → listed.getD x false = true := by
      intro x hx
      cases hb : listed.getD x false with
      | true => rfl
      | false =>
        have : x ∈ (List.range ops.size).filter fun x => !listed.getD x false := List.mem_filter.2 ⟨by simpa using hx, by rw [hb]; rfl⟩
        unfold unl at hu
        have h0 : ((List.range ops.size).filter fun x => !listed.getD x false) = [] := List.length_eq_zero_iff.1 (by omega)
        rw [h0] at this; simp at this
    refine ⟨?_, hQ _ q m H a w hdone I⟩
    refine List.eq_nil_iff_forall_not_mem.2 fun i hi => ?_
    obtain ⟨h1, o, ho, _⟩ := mem_ready.1 hi
    have hlt : i < ops.size := (Array.getElem?_eq_some_iff.1 ho).1
    have h2 := hdone i hlt
    simp [Array.getD_eq_getD_getElem?, Array.getElem?_eq_getElem (show i < listed.size by omega)] at h1 h2
    rw [h1] at h2; cases h2
  | succ f ih =>
    intro listed q m H a w hsz hu I
    refine ⟨fun hr => hQ _ q m H a w (hall listed hsz hr) I, fun i hi => ?_⟩
    obtain ⟨h1, o, ho, hbound⟩ := mem_ready.1 hi
    have hlt : i < ops.size := (Array.getElem?_eq_some_iff.1 ho).1
    have hS : listed.getD i false = false := by
      simp [Array.getD_eq_getD_getElem?, Array.getElem?_eq_getElem (show i < listed.size by omega)] at h1 ⊢
      exact h1
    have hop : opAt ops i = o := by unfold opAt; rw [Array.getD_eq_getD_getElem?, ho]; rfl
    refine I.step C hE hz hC hfree hok hlt hS (fun e he hel => ?_) fun q' m' H' a' w' I' => ?_
    · unfold edgesOf at he
      rw [hop] at he
      obtain ⟨ed, hed, h3⟩ := List.mem_filterMap.1 he
      split at h3
      · rename_i hb
        obtain rfl := Option.some.inj h3
        exact hbound ed (Array.mem_toList_iff.1 hed) (binds_any hb)
      · cases h3
    · refine ih _ q' m' H' a' w' (by simpa using hsz) (by have := unl_lt hlt hsz hS; omega) ?_
      have e : (fun x => (listed.setIfInBounds i true).getD x false) = fun x => if x = i then true else listed.getD x false := by
        funext x
        by_cases c : x = i
        · subst c; simp [hsz, hlt]
        · rw [getD_set_ne false (Ne.symm c), if_neg c]
      rw [e]; exact I'
end

theorem drawn_sound {G : Nat} {enters : FuncId → FKind} (hE : Enters P enters) (hz : ZF P) {callF : CallF} (hC : CallSound P G callF) {ops : Array Oper} {T : Tree Value} {h : AHeap} {vs : List Value} {Gs : List AHeap} {os : List (Nat × AObj)}
    (hplan : planOk P ops (masksGo ops.toList []) ops.size = true) (hbound : Nat.ble (h.next + ops.size) h.lim = true)
    (hgo : drawGo P enters callF ops (masksGo ops.toList []) h.next ops.toList 0 T { h with next := h.next + ops.size } [] = some (vs, Gs, os))
    (htodo : ∀ i, i < ops.size → clsOf P (opAt ops i) = .plain → wantedA ops (opAt ops i) (slots (ops.toList.take i) (vs.take i) T) = true → ∀ q ∈ todoAt P ops (masksGo ops.toList []) i,
      opR P (rhoA (slots (ops.toList.take i) (vs.take i) T)) (opAt ops i) (fillA (prd (masksGo ops.toList []) i) h.next os (heapAt { h with next := h.next + ops.size } Gs q)) = some (vs.getD i undef)) :
    Nx h (fillA (fun _ => true) h.next os (heapAt { h with next := h.next + ops.size } Gs ops.size)) ∧
    ∀ (B : Base) m n id a w (Q : Exit → Act → World → Prop), ops.toList.all (opOk G n) = true → TRel m n T a.tmps → Rel P B m h w → GRel G m →
      (∀ m' a' w', Ext h m m' → TRel m' n (slots ops.toList vs T) a'.tmps → a'.defers = a.defers → Rel P B m' (fillA (fun _ => true) h.next os (heapAt { h with next := h.next + ops.size } Gs ops.size)) w' → Q .normal a' w') → (Code.region id ops true).wp P Q a w := by
  have hplan' := hplan
  unfold planOk at hplan'
  simp only [Bool.and_eq_true] at hplan'
  obtain ⟨⟨⟨hp, hany⟩, htext⟩, hgc⟩ := hplan'
  have hmlen : (masksGo ops.toList []).length = ops.size := by rw [masksGo_length]; simp
  have hlt := prd_lt hp hmlen
  obtain ⟨s1, s2, ⟨new, s3, s4⟩, s5⟩ := go_spec (enters := enters) (callF := callF) (ops := ops) (base := h.next) hlt ops.toList 0 T _ [] vs Gs os hgo (by simp)
  have C : Ctx P enters callF ops (masksGo ops.toList []) h.next h.lim T { h with next := h.next + ops.size } vs Gs os := by
    refine ⟨hmlen, by simpa using s1, by simpa using s2, fun j hj => List.all_eq_true.1 hp j (by simpa using hj), hlt, fun x hx => ?_, fun i hi => ?_, fun i hi hc hw q hq => ?_, rfl, rfl, by simpa using hbound⟩
    · rw [s3] at hx
      have := s4 x (by simpa using hx)
      simp only [Array.length_toList] at this
      omega
    · have := s5 i (by simpa using hi)
      rw [opAt_toList] at this
      simpa using this
    · exact htodo i hi hc hw q hq
  have hheaps := C.heaps hC ops.size (Nat.le_refl _)
  have hfn := fillA_next (sel := fun _ => true) (base := h.next) (G := heapAt { h with next := h.next + ops.size } Gs ops.size) os
  have hfull : slots ops.toList vs T = slots (ops.toList.take ops.size) (vs.take ops.size) T := by
    rw [List.take_of_length_le (by simp), List.take_of_length_le (by rw [s1]; simp)]
  refine ⟨⟨by rw [hfn.1]; have := hheaps.1; omega, by rw [hfn.2]; exact hheaps.2.1, fun b hb hbd => ?_, fun b hb => ?_⟩, fun B m N id a w Q hok hT hr hG hQ => ?_⟩
  rotate_left 2
  · have hfree : ∀ i, i < ops.size → (⟨h.t, h.next + ops.size, h.lim⟩ : AHeap).get (h.next + i) = .dead := by
      intro i hi
      have hb : h.next + ops.size ≤ h.lim := by simpa using hbound
      have := (hr.fresh (h.next + i) (by omega) (by omega)).1
      unfold AHeap.get at this ⊢
      exact this
    have hfinal : ∀ S q m' H a' w', (∀ x, x < ops.size → S x = true) → Inv P B G N ops (masksGo ops.toList []) h.next h.lim T { h with next := h.next + ops.size } vs Gs os m a.defers S q m' H a' w' → Q .normal a' w' := by
      intro S q m' H a' w' hS I
      have hsame : heapAt { h with next := h.next + ops.size } Gs ops.size = heapAt { h with next := h.next + ops.size } Gs q := by
        have := C.same (ops.size - q) q (by have := I.qle; omega) (fun l h1 h2 => by
          cases hl : isLoud P (opAt ops l) with
          | false => rfl
          | true =>
            have := I.qle
            have := (I.louds l (by omega) hl).1 (hS l (by omega))
            omega)
        rw [show q + (ops.size - q) = ops.size by have := I.qle; omega] at this
        exact this
      refine hQ m' a' w' ⟨I.le, I.ext⟩ ⟨I.tsz, fun t => ?_⟩ I.defers (I.rel.congr (fun b => ?_) ?_ ?_)
      · have hs := slots_get (T := T) (l := ops.toList) (vs := vs) s1 (fun x y d h1 h2 h3 h4 => C.dist h1 (by simpa using h2) (by rw [opAt_toList] at h3; exact h3) (by rw [opAt_toList] at h4; exact h4)) ops.size (by simp) t
        rw [hfull]
        by_cases c : ∃ x, x < ops.size ∧ (opAt ops x).dst = some t
        · obtain ⟨x, hx, hxd⟩ := c
          rw [hs.1 x hx (by rw [opAt_toList]; exact hxd)]
          exact I.done t x hx (hS x hx) hxd
        · rw [hs.2 fun x hx hxd => c ⟨x, hx, by rw [opAt_toList] at hxd; exact hxd⟩]
          exact I.kept t fun x hx hxd => absurd ⟨x, hx, hxd⟩ c
      · rw [hsame]
        rcases fillA_get (sel := fun _ => true) (base := h.next) (G := heapAt { h with next := h.next + ops.size } Gs q) os b with ⟨i, o, e1, e2, _, e4, e5⟩ | ⟨e1, e2⟩
        · rw [e5, e1]
          exact (I.hget1 i o (hS i (C.osIdx _ (objAt_mem e2))) e2 (by rw [← e1]; exact e4)).symm
        · rw [e2]
          exact (I.hget2 b fun i o hi ho hb => e1 i o hb ho rfl).symm
      · rw [hfn.1, hsame]; exact I.hnext.symm
      · rw [hfn.2, hheaps.2.1]; exact I.hlim.symm
    have hinit : Inv P B G N ops (masksGo ops.toList []) h.next h.lim T { h with next := h.next + ops.size } vs Gs os m a.defers (fun x => (Array.replicate ops.size false).getD x false) 0 m { h with next := h.next + ops.size } a { w with drawn := w.drawn + 1 } := by
      have hS0 : ∀ x, (Array.replicate ops.size false).getD x false = false := by
        intro x
        simp [Array.getD_eq_getD_getElem?, Array.getElem?_replicate]
        split <;> rfl
      refine ⟨fun j _ hj => ?_, Nat.zero_le _, .inl rfl, fun l _ _ => ?_, hT.size, fun t i _ hi => ?_, fun t _ => hT.rel t, ?_, rfl, rfl, fun i o hi => ?_, fun _ _ => rfl, fun i hi _ => ?_, hG, Mu.le_refl m, fun _ _ => rfl, rfl⟩
      · rw [hS0] at hj; cases hj
      · rw [hS0]; simp
      · rw [hS0] at hi; cases hi
      · refine hr.drew.rewin (fun _ => rfl) fun b hb hb2 => ?_
        exact hr.fresh b (by simp only at hb; omega) hb2
      · rw [hS0] at hi; cases hi
      · have hlm : h.next + ops.size ≤ h.lim := by simpa using hbound
        exact hr.fresh (h.next + i) (by omega) (by omega)
    refine wp_region_draw fun t => ?_
    have hone : ∀ md, orderOk md ops = true → ∀ t, wpOps P ops Q (Region.linearise md ops t) a { w with drawn := w.drawn + 1 } := by
      intro md hmd t
      exact wpAny_sound ops.size t _ a _ (any_sound C hE hz hC hfree hok hmd hfinal ops.size _ 0 m _ a _ (by simp) (by unfold unl; exact Nat.le_trans (List.length_filter_le _ _) (by simp)) hinit)
    unfold Region.schedule
    split
    · exact hone .any hany t
    · split
      · exact hone .text htext _
      · exact hone .gc hgc _
  · rcases fillA_get (sel := fun _ => true) (base := h.next) (G := heapAt { h with next := h.next + ops.size } Gs ops.size) os b with ⟨i, o, e1, e2, _⟩ | ⟨_, e⟩
    · have := C.osIdx _ (objAt_mem e2)
      have hlm : h.next + ops.size ≤ h.lim := by simpa using hbound
      simp only at this
      omega
    · rw [e]; exact hheaps.2.2.2.1 b hb hbd
  · rcases fillA_get (sel := fun _ => true) (base := h.next) (G := heapAt { h with next := h.next + ops.size } Gs ops.size) os b with ⟨i, o, e1, e2, e3, e4, e5⟩ | ⟨_, e⟩
    · rw [e5, C.osNo e2] at hb; cases hb
    · rw [e] at hb ⊢; exact hheaps.2.2.2.2 b hb
theorem drawA_sound {G : Nat} {enters : FuncId → FKind} (hE : Enters P enters) (hz : ZF P) {callF : CallF} (hC : CallSound P G callF) : DrawSound P G (drawA P enters callF) := by
  intro ops T h T' h' hd
  unfold drawA at hd
  dsimp only at hd
  split at hd <;> try (cases hd; done)
  rename_i hguard
  split at hd <;> try (cases hd; done)
  rename_i vs Gs os hgo
  split at hd <;> try (cases hd; done)
  rename_i hchk
  simp only [Option.some.injEq, Prod.mk.injEq] at hd
  obtain ⟨rfl, rfl⟩ := hd
  simp only [Bool.and_eq_true] at hguard
  obtain ⟨⟨hplan, hbound⟩, hdead⟩ := hguard
  have hplan' := hplan
  unfold planOk at hplan'
  simp only [Bool.and_eq_true] at hplan'
  have hlt := prd_lt hplan'.1.1.1 (by rw [masksGo_length]; simp)
  obtain ⟨s1, _⟩ := go_spec (enters := enters) (callF := callF) (ops := ops) (base := h.next) hlt ops.toList 0 T _ [] vs Gs os hgo (by simp)
  refine drawn_sound hE hz hC hplan hbound hgo fun i hi hc hw q hq => ?_
  have := checkGo_spec ops.toList vs 0 T hchk (by simpa using s1) i (by simpa using hi) (by rw [opAt_toList]; exact hc) (by rw [opAt_toList]; exact hw) q (by simpa using hq)
  rw [opAt_toList] at this
  simpa using this
end
end Go.Ab
namespace Go.Ab
open Go

/-! ## Zero values hold no address -/
def zflat (z : Value) : Bool := z.cells.toList.all (vflat 7)

theorem vflat_mono : ∀ (n : Nat) (v : Value), vflat n v = true → vflat (n + 1) v = true := by
  intro n
  induction n with
  | zero => intro v h; cases v with
    | pointer a => cases a <;> simp_all [vflat]
    | slice a => cases a <;> simp_all [vflat]
    | map a => cases a <;> simp_all [vflat]
    | chan a => cases a <;> simp_all [vflat]
    | _ => simp_all [vflat]
  | succ n ih =>
    intro v h
    cases v with
    | pointer a => cases a <;> simp_all [vflat]
    | slice a => cases a <;> simp_all [vflat]
    | map a => cases a <;> simp_all [vflat]
    | chan a => cases a <;> simp_all [vflat]
    | iface t v => simp only [vflat] at h ⊢; exact ih v h
    | agg c => simp only [vflat] at h ⊢; exact List.all_eq_true.2 fun x hx => ih x (List.all_eq_true.1 h x hx)
    | tuple c => simp only [vflat] at h ⊢; exact List.all_eq_true.2 fun x hx => ih x (List.all_eq_true.1 h x hx)
    | func f a c => simp only [vflat, Bool.and_eq_true] at h ⊢; exact ⟨List.all_eq_true.2 fun x hx => ih x (List.all_eq_true.1 h.1 x hx), List.all_eq_true.2 fun x hx => ih x (List.all_eq_true.1 h.2 x hx)⟩
    | _ => simp_all [vflat]
theorem zflat_vflat {z : Value} (h : zflat z = true) : vflat 8 z = true := by
  unfold zflat at h
  cases z with
  | agg c => simpa [vflat, Value.cells] using h
  | _ => simp only [Value.cells, List.all_cons, List.all_nil, Bool.and_true] at h; exact vflat_mono 7 _ h

theorem forIn_inv {α σ : Type} (I : σ → Prop) (f : α → σ → Option (ForInStep σ)) : ∀ (l : List α) (s0 s : σ), I s0 →
    (∀ a x r, I x → f a x = some r → match r with | .yield y => I y | .done y => I y) → forIn l s0 f = some s → I s := by
  intro l
  induction l with
  | nil => intro s0 s h _ e; simp only [List.forIn_nil, pure, Option.some.injEq] at e; rw [← e]; exact h
  | cons a l ih =>
    intro s0 s h hf e
    simp only [List.forIn_cons, bind, Option.bind_eq_some_iff] at e
    obtain ⟨r, hr, e⟩ := e
    have := hf a s0 r h hr
    cases r with
    | done y => simp only [pure, Option.some.injEq] at e; rw [← e]; exact this
    | yield y => exact ih y s this hf e

def ZI (i : TypeInfo) : Prop := ∀ z, i.zero = some z → zflat z = true

theorem reckonStruct_flat {info : TypeId → Option TypeInfo} (hinfo : ∀ t i, info t = some i → ZI i) {fs : Array Field} {i : TypeInfo} (h : Made.reckonStruct info fs = some i) : ZI i := by
  unfold Made.reckonStruct at h
  simp only [bind, Option.bind_eq_some_iff, pure] at h
  obtain ⟨a, ha, h⟩ := h
  rw [← Array.forIn_toList] at ha
  have hinv := forIn_inv (fun s : Array Field × Nat × Nat × Nat × Nat × Bool × Bool × Option (Array Value) × String => ∀ c, s.2.2.2.2.2.2.2.1 = some c → c.toList.all (vflat 7) = true) _ fs.toList _ _ (by intro c hc; cases hc; rfl) ?_ ha
  · have hz : i.zero = a.2.2.2.2.2.2.2.1.map .agg := by split at h <;> (cases h; rfl)
    intro z hzz
    rw [hz] at hzz
    cases hc : a.2.2.2.2.2.2.2.1 with
    | none => rw [hc] at hzz; cases hzz
    | some c =>
      rw [hc] at hzz
      cases hzz
      exact hinv c hc
  · intro f s r hs hr
    simp only [Option.bind_eq_some_iff] at hr
    obtain ⟨j, hj, hr⟩ := hr
    have hlast : ∀ c, (if s.2.1 + j.size > Made.mostCells then none else s.2.2.2.2.2.2.2.1.bind fun x => j.zero.bind fun y => some (x ++ y.cells)) = some c → c.toList.all (vflat 7) = true := by
      intro c hc
      split at hc
      · cases hc
      · simp only [Option.bind_eq_some_iff] at hc
        obtain ⟨x, hx, y, hy, hc⟩ := hc
        cases hc
        rw [Array.toList_append, List.all_append, hs x hx]
        exact hinfo _ _ hj y hy
    split at hr
    · cases hr
    split at hr
    · cases hr
    have fin : ∀ {y s2 : Array Field × Nat × Nat × Nat × Nat × Bool × Bool × Option (Array Value) × String}, some (ForInStep.yield s2) = some (ForInStep.yield y) →
        (∀ c, s2.2.2.2.2.2.2.2.1 = some c → c.toList.all (vflat 7) = true) → ∀ c, y.2.2.2.2.2.2.2.1 = some c → c.toList.all (vflat 7) = true := by
      intro y s2 e h; cases e; exact h
    cases r with
    | yield y => split at hr <;> (obtain ⟨_, _, hr⟩ := Option.bind_eq_some_iff.1 hr; by_cases hb : j.bytes = 0 <;> (first | rw [if_pos hb] at hr | rw [if_neg hb] at hr) <;> exact fin hr hlast)
    | done y => split at hr <;> (obtain ⟨_, _, hr⟩ := Option.bind_eq_some_iff.1 hr; by_cases hb : j.bytes = 0 <;> (first | rw [if_pos hb] at hr | rw [if_neg hb] at hr) <;> cases hr)

theorem reckon_flat {info : TypeId → Option TypeInfo} (hinfo : ∀ t i, info t = some i → ZI i) {d : TypeDesc} {i : TypeInfo} (h : Made.reckon info d = some i) : ZI i := by
  unfold Made.reckon at h
  split at h
  · simp only [bind, Option.bind_eq_some_iff, pure] at h
    obtain ⟨j, hj, h⟩ := h
    split at h
    · cases h
    · split at h
      · cases h
      · simp only [Option.bind_eq_some_iff] at h
        obtain ⟨_, _, h⟩ := h
        cases h; intro z hz; cases hz; rfl
    · simp only [Option.bind_eq_some_iff] at h
      obtain ⟨_, _, h⟩ := h
      cases h; intro z hz; cases hz; rfl
  · simp only [bind, Option.bind_eq_some_iff, pure] at h
    obtain ⟨_, _, _, _, h⟩ := h
    cases h; intro z hz; cases hz; rfl
  · simp only [bind, Option.bind_eq_some_iff, pure] at h
    obtain ⟨_, _, _, _, _, _, _, _, h⟩ := h
    cases h; intro z hz; cases hz; rfl
  · simp only [bind, Option.bind_eq_some_iff, pure] at h
    obtain ⟨_, _, _, _, h⟩ := h
    cases h; intro z hz; cases hz; rfl
  · simp only [bind, Option.bind_eq_some_iff, pure] at h
    obtain ⟨_, _, h⟩ := h
    cases h; intro z hz; cases hz; rfl
  · simp only [bind, Option.bind_eq_some_iff, pure] at h
    obtain ⟨j, hj, _, _, h⟩ := h
    cases h
    intro z hz
    dsimp only at hz
    split at hz
    · cases hz
    · split at hz
      · cases hz; rfl
      · rw [Option.map_eq_some_iff] at hz
        obtain ⟨y, hy, rfl⟩ := hz
        have := hinfo _ _ hj y hy
        unfold zflat at this ⊢
        simp only [Value.cells, List.all_eq_true]
        intro x hx
        have hx := Array.mem_toList_iff.1 hx
        rw [Array.mem_flatten] at hx
        obtain ⟨c, hc, hxc⟩ := hx
        obtain ⟨_, rfl⟩ := Array.mem_replicate.1 hc
        exact List.all_eq_true.1 this x (Array.mem_toList_iff.2 hxc)
  · exact reckonStruct_flat hinfo h
  · cases h

theorem zf_of {P : Program} (h : P.types.toList.all (fun i => match i.zero with | some z => zflat z | none => true) = true) : ZF P := by
  have htab : ∀ (t : Nat) (i : TypeInfo), P.types[t]? = some i → ZI i := by
    intro t i hi z hz
    have := List.all_eq_true.1 h i (Array.mem_toList_iff.2 (Array.mem_of_getElem? hi))
    rw [hz] at this
    exact this
  have hat : ∀ f t i, Made.infoAt P.toTables f t = some i → ZI i := by
    intro f
    induction f with
    | zero => intro t i hi; simp [Made.infoAt] at hi
    | succ f ih =>
      intro t i hi
      unfold Made.infoAt at hi
      split at hi
      · exact htab t i hi
      · simp only [Option.bind_eq_some_iff] at hi
        obtain ⟨d, _, hi⟩ := hi
        exact reckon_flat ih hi
  intro t i z hi hz
  suffices hzi : ZI i from zflat_vflat (hzi z hz)
  unfold Tables.info? at hi
  split at hi
  · exact htab t i hi
  · exact hat _ _ _ hi
end Go.Ab
namespace Go.Ab
open Go Go.ChangeShapes Go.WideShapes Go.ChangeAt Go.RowKit

/-! ## From a run over an abstract memory to the row's contract -/
def baseOf (W : World) : Base := ⟨fun k => W.heap[k]?, W.os, W.tape, W.output⟩
def muG (G : Nat) : Mu := fun g => if g < G then some ⟨g, 0, 0⟩ else none
def bareOf (G : Nat) : AHeap := ⟨.leaf, G + 8, 1099511627776⟩
theorem muG_rel (G : Nat) : GRel G (muG G) := fun g hg => ⟨⟨g, 0, 0⟩, by simp [muG, hg], rfl, rfl⟩
theorem initRel {P : Program} (G : Nat) (W : World) : Rel P (baseOf W) (muG G) (bareOf G) W := by
  have hd : ∀ b, (bareOf G).get b = .dead := fun b => by simp [bareOf, AHeap.get, Tree.get_leaf]
  refine ⟨rfl, rfl, rfl, fun _ _ h => h, fun b hb => absurd (hd b) hb, fun b _ _ _ hb => absurd (hd b) hb, fun b h1 _ => ⟨hd b, ?_⟩⟩
  simp only [bareOf] at h1
  simp [muG]; omega
theorem below_of_rel {P : Program} {W w' : World} {m : Mu} {h : AHeap} (hr : Rel P (baseOf W) m h w') : Below W.heap.size W w' := by
  have hk : ∀ k, k < W.heap.size → w'.heap[k]? = W.heap[k]? := by
    intro k hk
    have : (baseOf W).prot k = some (W.heap[k]) := Array.getElem?_eq_getElem hk
    rw [hr.prot k _ this, Array.getElem?_eq_getElem hk]
  refine ⟨hr.os, hr.tape, hr.output, ?_, hk⟩
  rcases Nat.lt_or_ge w'.heap.size W.heap.size with c | c
  · have := hk w'.heap.size c
    rw [Array.getElem?_eq_none (Nat.le_refl _), Array.getElem?_eq_getElem c] at this
    cases this
  · exact c
theorem calls_of_run {P : Program} {G : Nat} {callF : CallF} (hs : CallSound P G callF) {f : FuncId} {aa args : Array Value} {v : Value} {W : World} (hv : vflat 8 v = true)
    (h : (callF f aa (bareOf G)).map (·.1) = some v) (ha : ARel (muG G) aa args) : Calls P f args W fun e w' => e = .returned v ∧ Below W.heap.size W w' := by
  obtain ⟨⟨v', h'⟩, h1, h2⟩ := Option.map_eq_some_iff.1 h
  subst h2
  refine ((hs f aa (bareOf G) v' h' h1).2 (baseOf W) (muG G) args W ha (initRel G W) (muG_rel G)).mono ?_
  rintro e w' ⟨u, m', rfl, _, hr, hu⟩
  exact ⟨by rw [hu.of_flat 8 hv], below_of_rel hr⟩

/-! ### Arguments that are not read -/
def un : Value := .chan (some 0)
theorem cell_any {P : Program} {W : World} {r : Reach} {base : Nat} {u : TypeId} {v : Value} {m : Mu} (hu : P.underlying u ≠ some .bool) (h : Cell.okWide P W r base u v) : VRel m un v := by
  unfold Cell.okWide Cell.ok at h
  refine .any 0 v (fun b e => ?_) (fun c e => ?_) (fun c e => ?_) <;> subst e
  · cases hd : P.underlying u with
    | none => rw [hd] at h; simp at h
    | some d => rw [hd] at h; cases d <;> first | exact hu hd | (simp at h; done)
  · cases hd : P.underlying u with
    | none => rw [hd] at h; simp at h
    | some d => rw [hd] at h; cases d <;> simp at h
  · cases hd : P.underlying u with
    | none => rw [hd] at h; simp at h
    | some d => rw [hd] at h; cases d <;> simp at h
def noBool (P : Program) (t : TypeId) : Bool := match P.cellTypes P.depth t with
  | some ts => ts.all fun u => match P.underlying u with | some .bool => false | _ => true
  | none => true
theorem any_struct {P : Program} {W : World} {r : Reach} {base : Nat} {t : TypeId} {v : Value} {m : Mu} {fs : Array Field} {n : Nat} (ht : P.underlying t = some (.struct fs)) (hn : P.cellsOf t = n) (hb : noBool P t = true)
    (h : Value.okWide P W r base t v) : VRel m (.agg (Array.replicate n un)) v := by
  unfold Value.okWide at h
  rw [ht] at h
  obtain ⟨cs, rfl, hsz, ts, hts, _, hall⟩ := h
  refine .agg _ _ (by simp [hsz, hn]) fun i h1 h2 => ?_
  obtain ⟨u, hu, hc⟩ := hall i _ (Array.getElem?_eq_getElem h2)
  rw [Array.getElem_replicate]
  refine cell_any (fun e => ?_) hc
  unfold noBool at hb
  rw [hts] at hb
  have := List.all_eq_true.1 hb u (List.mem_of_getElem? hu)
  rw [e] at this
  cases this
def isCellD : TypeDesc → Bool
  | .bool | .struct _ | .array _ _ => false
  | _ => true
theorem any_cell {P : Program} {W : World} {r : Reach} {base : Nat} {t : TypeId} {v : Value} {m : Mu} {d : TypeDesc} (ht : P.underlying t = some d) (hd : isCellD d = true)
    (h : Value.okWide P W r base t v) : VRel m un v := by
  unfold Value.okWide at h
  rw [ht] at h
  have hc : Cell.okWide P W r base t v := by
    cases d <;> first | exact h | cases hd
  refine cell_any (fun e => ?_) hc
  rw [ht] at e
  cases e; cases hd

/-! ### The row's post -/
theorem trodAll_stays {H : Type} {enc : TypeId × Value → H} {P : Program} (hl : laidOutB P = true) {W W' : World} {sp : Nat → Bool} :
    ∀ (ts : List TypeId) (vs : List Value) (ds : List (DataW H)) (ps : List MemPlace), (∀ t ∈ ts, P.readableRec t = true ∧ t < P.types.size) → DataW.TrodAll enc P W 0 (fun _ => true) true ts vs ds ps →
      (∀ p ∈ ps, W.sameAt W' p) → (∀ p ∈ ps, sp p.block = true) → DataW.TrodAll enc P W' 0 sp true ts vs ds ps
  | [], vs, ds, ps, _, h, _, _ => by
    obtain ⟨rfl, rfl, rfl⟩ := trodAll_nil h
    exact trodAll_mk0
  | t :: ts, vs, ds, ps, hr, h, h1, h2 => by
    obtain ⟨v, vs', d, ds', p, q, rfl, rfl, rfl, h3, h4⟩ := trodAll_cons h
    exact trodAll_cons_mk (WideElems.Trod_stays hl (hr t (by simp)).1 (hr t (by simp)).2 h3 (fun x hx => h1 x (by simp [hx])) (fun x hx => h2 x (by simp [hx])))
      (trodAll_stays hl ts vs' ds' q (fun x hx => hr x (by simp [hx])) h4 (fun x hx => h1 x (by simp [hx])) (fun x hx => h2 x (by simp [hx])))
theorem post_true {H : Type} {enc : TypeId × Value → H} {P : Program} {fn : Func} {s : ChangeSpec} {W W' : World} {args : Array Value} {ds gs : List (DataW H)} {before : List MemPlace} {tb : TypeId}
    (hl : laidOutB P = true) (hr : fn.params.toList.all (fun t => P.readableRec t && Nat.blt t P.types.size) = true) (hW : DataW.Whole enc P fn.params.toList s.vars false W args.toList ds gs before) (hvars : s.vars = [])
    (hres : (s.fn H (ds ++ gs)).results = [.lit (.bool true)]) (hargs : (s.fn H (ds ++ gs)).args = ds) (hv : (s.fn H (ds ++ gs)).vars = []) (ht : fn.resultTypes = #[tb]) (hb : P.underlying tb = some .bool) (hbelow : Below W.heap.size W W') :
    s.post enc P fn false true false false W args (.bool true) W' := by
  have hW' := hW
  obtain ⟨p, q, hA, hV, rfl, hfz, hnd⟩ := hW
  have hlt : ∀ x ∈ p, x.block < W.heap.size := fun x hx => by simpa using hW'.lt x (by simp [hx])
  refine ⟨ds, gs, p ++ q, [], p, [], hW', ?_, ?_, ?_, hbelow.frame _, fun h => by cases h⟩
  · rw [ht, hres]
    exact trodAll_cons_mk (p := []) (shut_bool hb _) trodAll_mk0
  · rw [hargs]
    exact trodAll_stays hl _ _ _ _ (fun t htm => by have := List.all_eq_true.1 hr t htm; simpa using this) hA (fun x hx => hbelow.same (hlt x hx)) (fun x hx => by simpa using hlt x hx)
  · rw [hvars, hv]; rfl
end Go.Ab
