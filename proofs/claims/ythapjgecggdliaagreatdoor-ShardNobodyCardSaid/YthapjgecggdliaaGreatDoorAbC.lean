import Derived.Test.YthapjgecggdliaaGreatDoorAbB
import Derived.Laws.Sem
namespace Go.Ab
open Go

/-! ## Simulation of one computation by another -/
section
variable {P : Program} {B : Base}

def Sim (P : Program) (B : Base) (m : Mu) {α β : Type} (s : Sem α) (s' : Sem β) (RR : Mu → α → β → Prop) : Prop :=
  ∀ h w, Rel P B m h w → ∀ a h', s.runA P h = some (a, h') → ∃ b w' m', s'.run P w = .ok b w' ∧ Ext h m m' ∧ Rel P B m' h' w' ∧ RR m' a b

theorem runA_bind' {α β : Type} (s : Sem α) (f : α → Sem β) (hp : AHeap) : (s >>= f).runA P hp = match s.runA P hp with
    | some (a, h') => (f a).runA P h'
    | none => none := runA_bind P s f hp
theorem runA_bind_none {α β : Type} {s : Sem α} {f : α → Sem β} {hp : AHeap} (h : s.runA P hp = Option.none) : (s >>= f).runA P hp = Option.none := by
  rw [runA_bind', h]
theorem runA_bind_some {α β : Type} {s : Sem α} {f : α → Sem β} {hp h1 : AHeap} {a : α} (h : s.runA P hp = some (a, h1)) : (s >>= f).runA P hp = (f a).runA P h1 := by
  rw [runA_bind', h]
theorem runA_pure {α : Type} (a : α) (hp : AHeap) : (Pure.pure a : Sem α).runA P hp = some (a, hp) := rfl

theorem Sim.pure {m : Mu} {α β : Type} {a : α} {b : β} {RR : Mu → α → β → Prop} (h : RR m a b) : Sim P B m (Pure.pure a : Sem α) (Pure.pure b : Sem β) RR := by
  intro hp w hr a' h' he
  rw [runA_pure] at he
  simp only [Option.some.injEq, Prod.mk.injEq] at he
  obtain ⟨rfl, rfl⟩ := he
  exact ⟨b, w, m, rfl, Ext.refl _ m, hr, h⟩

theorem Sim.bind {m : Mu} {α α' β β' : Type} {s : Sem α} {s' : Sem α'} {f : α → Sem β} {f' : α' → Sem β'} {RR : Mu → α → α' → Prop} {SS : Mu → β → β' → Prop}
    (h : Sim P B m s s' RR) (k : ∀ m', Mu.le m m' → ∀ a b, RR m' a b → Sim P B m' (f a) (f' b) SS) : Sim P B m (s >>= f) (s' >>= f') SS := by
  intro hp w hr a h' he
  cases h1 : s.runA P hp with
  | none => rw [runA_bind_none h1] at he; cases he
  | some r =>
    obtain ⟨x, h2⟩ := r
    rw [runA_bind_some h1] at he
    obtain ⟨b, w', m', hrun, hle, hr', hRR⟩ := h hp w hr x h2 h1
    obtain ⟨b2, w2, m2, hrun2, hle2, hr2, hSS⟩ := k m' hle.1 x b hRR h2 w' hr' a h' he
    have hnx := runA_next P s _ _ _ h1
    refine ⟨b2, w2, m2, ?_, Ext.trans hle hle2 hnx.1 hnx.2, hr2, hSS⟩
    rw [Sem.run_bind, hrun]
    exact hrun2

theorem Sim.mono {m : Mu} {α β : Type} {s : Sem α} {s' : Sem β} {RR SS : Mu → α → β → Prop} (h : Sim P B m s s' RR) (k : ∀ m', Mu.le m m' → ∀ a b, RR m' a b → SS m' a b) : Sim P B m s s' SS := by
  intro hp w hr a h' he
  obtain ⟨b, w', m', h1, h2, h3, h4⟩ := h hp w hr a h' he
  exact ⟨b, w', m', h1, h2, h3, k _ h2.1 _ _ h4⟩

/-- What halts here stands for anything. -/
theorem Sim.of_none {m : Mu} {α β : Type} {s : Sem α} {s' : Sem β} {RR : Mu → α → β → Prop} (h : ∀ hp, s.runA P hp = Option.none) : Sim P B m s s' RR := by
  intro hp w hr a h' he
  rw [h] at he; cases he
theorem Sim.halt {m : Mu} {α β : Type} {x : Halt} {s' : Sem β} {RR : Mu → α → β → Prop} : Sim P B m (.halt x : Sem α) s' RR := Sim.of_none fun _ => rfl
theorem Sim.stuck {m : Mu} {α β : Type} {x : String} {s' : Sem β} {RR : Mu → α → β → Prop} : Sim P B m (Go.stuck x : Sem α) s' RR := Sim.halt
theorem Sim.unsupported {m : Mu} {α β : Type} {x : Unsupported} {s' : Sem β} {RR : Mu → α → β → Prop} : Sim P B m (Go.unsupported x : Sem α) s' RR := Sim.halt
theorem choose_runA (q : Question) : ∀ h, (choose q).runA P h = Option.none := fun _ => rfl
theorem goPanic_runA {α : Type} (v : Value) : ∀ h, (goPanic v : Sem α).runA P h = Option.none := fun _ => rfl
theorem bind_none_right {α β : Type} {s : Sem α} {f : α → Sem β} (h : ∀ a hp, (f a).runA P hp = Option.none) : ∀ hp, (s >>= f).runA P hp = Option.none := by
  intro hp
  cases h1 : s.runA P hp with
  | none => exact runA_bind_none h1
  | some r => obtain ⟨x, h2⟩ := r; rw [runA_bind_some h1, h]
theorem runtimePanic_runA {α : Type} (e : RuntimeError) : ∀ h, (runtimePanic e : Sem α).runA P h = Option.none := by
  intro h
  unfold runtimePanic
  refine bind_none_right (fun p hp => ?_) h
  cases e <;> first
    | rfl
    | exact bind_none_right (fun a hp => goPanic_runA _ hp) hp
    | exact bind_none_right (fun a hp => bind_none_right (fun a hp => goPanic_runA _ hp) hp) hp
theorem boundsPanic_runA {α : Type} (k : IntKind) (x y : Int) (c : BoundsCode) : ∀ h, (boundsPanic k x y c : Sem α).runA P h = Option.none := by
  intro h
  unfold boundsPanic
  dsimp only
  split
  · exact bind_none_right (fun a hp => runtimePanic_runA _ hp) h
  · exact bind_none_right (fun a hp => runtimePanic_runA _ hp) h
theorem Sim.panic {m : Mu} {α β : Type} {e : RuntimeError} {s' : Sem β} {RR : Mu → α → β → Prop} : Sim P B m (runtimePanic e : Sem α) s' RR := Sim.of_none (runtimePanic_runA e)
theorem Sim.bounds {m : Mu} {α β : Type} {k : IntKind} {x y : Int} {c : BoundsCode} {s' : Sem β} {RR : Mu → α → β → Prop} : Sim P B m (boundsPanic k x y c : Sem α) s' RR := Sim.of_none (boundsPanic_runA k x y c)
theorem Sim.bind_stuck {m : Mu} {α β γ : Type} {s : Sem α} {f : α → Sem γ} {s' : Sem β} {RR : Mu → γ → β → Prop} (h : ∀ hp, s.runA P hp = Option.none) : Sim P B m (s >>= f) s' RR :=
  Sim.of_none fun _ => runA_bind_none (h _)

/-- What does not touch memory. -/
def Free (P : Program) {α : Type} (s : Sem α) : Prop := ∀ h a h', s.runA P h = some (a, h') → h' = h ∧ ∀ w, s.run P w = .ok a w
theorem Free.pure {α : Type} (a : α) : Free P (Pure.pure a : Sem α) := by
  intro h b h' he
  rw [runA_pure] at he
  simp only [Option.some.injEq, Prod.mk.injEq] at he
  obtain ⟨rfl, rfl⟩ := he
  exact ⟨rfl, fun _ => rfl⟩
theorem Free.bind {α β : Type} {s : Sem α} {f : α → Sem β} (h : Free P s) (k : ∀ a, Free P (f a)) : Free P (s >>= f) := by
  intro hp a h' he
  cases h1 : s.runA P hp with
  | none => rw [runA_bind_none h1] at he; cases he
  | some r =>
    obtain ⟨x, h2⟩ := r
    rw [runA_bind_some h1] at he
    obtain ⟨rfl, hw⟩ := h hp x h2 h1
    obtain ⟨rfl, hw2⟩ := k x h2 a h' he
    refine ⟨rfl, fun w => ?_⟩
    rw [Sem.run_bind, hw]
    exact hw2 w
theorem Free.of_none {α : Type} {s : Sem α} (h : ∀ hp, s.runA P hp = Option.none) : Free P s := by
  intro hp b h' he
  rw [h] at he; cases he
theorem Free.halt {α : Type} (x : Halt) : Free P (.halt x : Sem α) := Free.of_none fun _ => rfl
theorem Free.program : Free P Go.program := by
  intro h b h' he
  simp only [Go.program, Sem.runA, Option.some.injEq, Prod.mk.injEq] at he
  obtain ⟨rfl, rfl⟩ := he
  exact ⟨rfl, fun _ => rfl⟩
theorem Free.underlying (t : TypeId) : Free P (Go.underlying t) := by
  unfold Go.underlying
  refine Free.bind Free.program fun p => ?_
  split
  · exact Free.pure _
  · exact Free.halt _
theorem Free.typeInfo (t : TypeId) : Free P (Go.typeInfo t) := by
  unfold Go.typeInfo
  refine Free.bind Free.program fun p => ?_
  split
  · exact Free.pure _
  · exact Free.halt _
theorem Free.sizeOf (t : TypeId) : Free P (Go.sizeOf t) := by
  unfold Go.sizeOf
  exact Free.bind (Free.typeInfo t) fun i => Free.pure _
theorem Free.zeroValue (t : TypeId) : Free P (Go.zeroValue t) := by
  unfold Go.zeroValue
  refine Free.bind (Free.typeInfo t) fun i => ?_
  split
  · exact Free.pure _
  · exact Free.halt _
theorem Free.isAgg (t : TypeId) : Free P (Go.isAgg t) := by
  unfold Go.isAgg
  refine Free.bind (Free.underlying t) fun i => ?_
  split <;> exact Free.pure _

/-- A computation that touches no memory, done on both sides alike. -/
theorem Sim.free {m : Mu} {α β γ : Type} {s : Sem α} {f : α → Sem β} {f' : α → Sem γ} {RR : Mu → β → γ → Prop} (h : Free P s)
    (k : ∀ a, (∃ hp, s.runA P hp = some (a, hp)) → Sim P B m (f a) (f' a) RR) : Sim P B m (s >>= f) (s >>= f') RR := by
  intro hp w hr a h' he
  cases h1 : s.runA P hp with
  | none => rw [runA_bind_none h1] at he; cases he
  | some r =>
    obtain ⟨x, h2⟩ := r
    rw [runA_bind_some h1] at he
    obtain ⟨rfl, hw⟩ := h hp x h2 h1
    obtain ⟨b2, w2, m2, hrun2, hle2, hr2, hSS⟩ := k x ⟨_, h1⟩ _ w hr a h' he
    refine ⟨b2, w2, m2, ?_, hle2, hr2, hSS⟩
    rw [Sem.run_bind, hw]
    exact hrun2

/-- What a type's facts are. -/
theorem zero_of_run {t : TypeId} {z : Value} {hp : AHeap} (h : (zeroValue t).runA P hp = some (z, hp)) : ∃ i, P.info? t = some i ∧ i.zero = some z := by
  unfold zeroValue typeInfo at h
  simp only [runA_bind', Go.program, Sem.runA] at h
  cases e : P.info? t with
  | none => simp [e, Go.stuck, Sem.runA] at h
  | some i =>
    simp only [e, runA_pure] at h
    cases e2 : i.zero with
    | none => simp [e2, Go.unsupported, Sem.runA] at h
    | some v =>
      simp only [e2, runA_pure, Option.some.injEq, Prod.mk.injEq, and_true] at h
      subst h
      exact ⟨i, rfl, e2⟩

/-! ## The steps on memory -/
def AdRel (m : Mu) (a a' : Addr) : Prop := ∃ b o l, a = ⟨b, o, none⟩ ∧ m b = some l ∧ a' = ⟨l.blk, l.off + o, none⟩
theorem AdRel.mono {m m' : Mu} (hm : Mu.le m m') {a a' : Addr} (h : AdRel m a a') : AdRel m' a a' := by
  obtain ⟨b, o, l, h1, h2, h3⟩ := h
  exact ⟨b, o, l, h1, hm _ _ h2, h3⟩
theorem AdRel.add {m : Mu} {a a' : Addr} (h : AdRel m a a') (n : Nat) : AdRel m (a.add n) (a'.add n) := by
  obtain ⟨b, o, l, rfl, h2, rfl⟩ := h
  unfold Addr.add
  by_cases e : n = 0
  · rw [if_pos e, if_pos e]; exact ⟨b, o, l, rfl, h2, rfl⟩
  · rw [if_neg e, if_neg e]; exact ⟨b, o + n, l, rfl, h2, by simp [Nat.add_assoc]⟩
theorem AdRel.ptr {m : Mu} {a a' : Addr} (h : AdRel m a a') : VRel m (.pointer (some a)) (.pointer (some a')) := by
  obtain ⟨b, o, l, rfl, h2, rfl⟩ := h
  exact .ptr b o l h2

theorem Sim.load {m : Mu} {a a' : Addr} (h : AdRel m a a') : Sim P B m (Go.load a) (Go.load a') (fun m' v v' => VRel m' v v') := by
  intro hp w hr v h' he
  obtain ⟨b, o, l, rfl, hm, rfl⟩ := h
  simp only [Go.load, Sem.runA, AHeap.cell?] at he
  cases hb : hp.get b with
  | cells c t =>
    rw [hb] at he
    simp only at he
    cases hc : c.get? o with
    | none => rw [hc] at he; cases he
    | some x =>
      rw [hc] at he
      simp only [Option.some.injEq, Prod.mk.injEq] at he
      obtain ⟨rfl, rfl⟩ := he
      obtain ⟨l', hl', hp', hok⟩ := hr.obj b (by rw [hb]; intro h; cases h)
      obtain rfl : l = l' := by rw [hm] at hl'; exact Option.some.inj hl'
      rw [hb] at hok
      obtain ⟨C, fr, h1, h2, h3, h4, h5⟩ := hok
      obtain ⟨v', hv', hv⟩ := h4 o x hc
      refine ⟨v', w, m, ?_, Ext.refl _ m, hr, hv⟩
      have : w.cell? ⟨l.blk, l.off + o, Option.none⟩ = some v' := by simp [World.cell?, h1, hv']
      simp [this]
  | ro c t =>
    rw [hb] at he
    simp only at he
    cases hc : c.get? o with
    | none => rw [hc] at he; cases he
    | some x =>
      rw [hc] at he
      simp only [Option.some.injEq, Prod.mk.injEq] at he
      obtain ⟨rfl, rfl⟩ := he
      obtain ⟨l', hl', hp', hok⟩ := hr.obj b (by rw [hb]; intro h; cases h)
      obtain rfl : l = l' := by rw [hm] at hl'; exact Option.some.inj hl'
      rw [hb] at hok
      obtain ⟨C, te, fr, h1, h3, h4⟩ := hok
      obtain ⟨v', hv', hv⟩ := h4 o x hc
      refine ⟨v', w, m, ?_, Ext.refl _ m, hr, hv⟩
      have : w.cell? ⟨l.blk, l.off + o, Option.none⟩ = some v' := by simp [World.cell?, h1, hv']
      simp [this]
  | dead => rw [hb] at he; cases he
  | map => rw [hb] at he; cases he
  | iter => rw [hb] at he; cases he
  | miter => rw [hb] at he; cases he
end
end Go.Ab
