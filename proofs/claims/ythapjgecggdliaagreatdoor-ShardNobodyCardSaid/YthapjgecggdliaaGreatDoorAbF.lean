import Derived.Test.YthapjgecggdliaaGreatDoorAbE
namespace Go.Ab
open Go
section
variable {P : Program} {B : Base}

/-! ## A run that touches no memory -/
def _root_.Go.Sem.runP {α : Type} (P : Program) : Sem α → Option α
  | .pure a => some a
  | .program k => (k P).runP P
  | .mark _ k => k.runP P
  | _ => none
theorem runP_run {α : Type} {s : Sem α} : ∀ {a : α}, s.runP P = some a → ∀ w, s.run P w = .ok a w := by
  induction s with
  | pure a => intro b h w; simp only [Sem.runP, Option.some.injEq] at h; subst h; rfl
  | program k ih => intro b h w; exact ih P h w
  | mark md k ih => intro b h w; exact ih h w
  | _ => intro b h w; simp [Sem.runP] at h

/-! ## Free helpers -/
theorem Free.map {α β : Type} {s : Sem α} {f : α → β} (h : Free P s) : Free P (f <$> s) := Free.bind h fun a => Free.pure (f a)
theorem Free.listMapM {α β : Type} {f : α → Sem β} (h : ∀ a, Free P (f a)) : ∀ l : List α, Free P (l.mapM f)
  | [] => Free.pure _
  | a :: l => by
    rw [List.mapM_cons]
    exact Free.bind (h a) fun b => Free.bind (Free.listMapM h l) fun bs => Free.pure _
theorem Free.arrayMapM {α β : Type} {f : α → Sem β} (h : ∀ a, Free P (f a)) (l : Array α) : Free P (l.mapM f) := by
  rw [Array.mapM_eq_mapM_toList]
  exact Free.map (Free.listMapM h _)

/-! ## Aggregates -/
theorem foldl_set_rel {m : Mu} (off : Nat) : ∀ (l l' : List (Value × Nat)) (c c' : Array Value), l.length = l'.length →
    (∀ i (h : i < l.length) (h' : i < l'.length), VRel m l[i].1 l'[i].1 ∧ l[i].2 = l'[i].2) → ARel m c c' →
    ARel m (l.foldl (fun cs (x : Value × Nat) => cs.setIfInBounds (off + x.2) x.1) c) (l'.foldl (fun cs (x : Value × Nat) => cs.setIfInBounds (off + x.2) x.1) c') := by
  intro l
  induction l with
  | nil =>
    intro l' c c' hl _ hc
    cases l' with
    | nil => exact hc
    | cons x xs => simp at hl
  | cons x xs ih =>
    intro l' c c' hl hx hc
    cases l' with
    | nil => simp at hl
    | cons y ys =>
      have h0 := hx 0 (by simp) (by simp)
      simp only [List.getElem_cons_zero] at h0
      simp only [List.foldl_cons]
      refine ih ys _ _ (by simpa using hl) (fun i a b => ?_) ?_
      · have := hx (i + 1) (by simpa using a) (by simpa using b)
        simpa using this
      · rw [h0.2]; exact hc.set _ h0.1

theorem fill_rel {m : Mu} (place : Nat → Option (Nat × Nat)) : ∀ (ps ps' : List (Nat × Value)) (c c' r : Array Value), ps.length = ps'.length →
    (∀ i (h : i < ps.length) (h' : i < ps'.length), ps[i].1 = ps'[i].1 ∧ VRel m ps[i].2 ps'[i].2) → ARel m c c' → Instr.fill place c ps = some r →
    ∃ r', Instr.fill place c' ps' = some r' ∧ ARel m r r' := by
  intro ps
  induction ps with
  | nil =>
    intro ps' c c' r hl _ hc h
    cases ps' with
    | nil => simp only [Instr.fill, Option.some.injEq] at h ⊢; subst h; exact ⟨c', rfl, hc⟩
    | cons x xs => simp at hl
  | cons p ps ih =>
    intro ps' c c' r hl hx hc h
    cases ps' with
    | nil => simp at hl
    | cons q qs =>
      obtain ⟨i, v⟩ := p
      obtain ⟨i', v'⟩ := q
      have h0 := hx 0 (by simp) (by simp)
      simp only [List.getElem_cons_zero] at h0
      obtain ⟨e, hv⟩ := h0
      subst e
      have hcell := hv.cells
      simp only [Instr.fill] at h ⊢
      cases hp : place i with
      | none => rw [hp] at h; cases h
      | some os =>
        obtain ⟨off, size⟩ := os
        rw [hp] at h
        dsimp only at h ⊢
        rw [← hcell.1, ← hc.1]
        split at h
        · cases h
        · rename_i hn
          rw [if_neg hn]
          refine ih qs _ _ r (by simpa using hl) (fun j a b => ?_) ?_ h
          · have := hx (j + 1) (by simpa using a) (by simpa using b)
            simpa using this
          · rw [← Array.foldl_toList, ← Array.foldl_toList]
            refine foldl_set_rel off _ _ _ _ (by simp [hcell.1]) (fun j a b => ?_) hc
            simp only [Array.length_toList, Array.size_zipIdx] at a b
            simp only [Array.getElem_toList, Array.getElem_zipIdx, and_true]
            exact hcell.2 j a b

theorem Sim.build {m : Mu} (hz : ZF P) (t : TypeId) {ps ps' : Array (Nat × Value)} (hl : ps.size = ps'.size)
    (h : ∀ i (h : i < ps.size) (h' : i < ps'.size), ps[i].1 = ps'[i].1 ∧ VRel m ps[i].2 ps'[i].2) : Sim P B m (Instr.build t ps) (Instr.build t ps') (fun m' v v' => VRel m' v v') := by
  unfold Instr.build
  refine Sim.zero hz fun z hzf => ?_
  dsimp only
  refine Sim.free (Free.underlying t) fun d _ => ?_
  have hzc : ARel m z.cells z.cells := (vflat_rel m 8 z hzf).cells
  have fin : ∀ (place : Nat → Option (Nat × Nat)) (s : String), Sim P B m
      (match Instr.fill place z.cells ps.toList with | some cells => (Pure.pure (.agg cells) : Sem Value) | _ => Go.stuck s)
      (match Instr.fill place z.cells ps'.toList with | some cells => (Pure.pure (.agg cells) : Sem Value) | _ => Go.stuck s) (fun m' v v' => VRel m' v v') := by
    intro place s
    cases hf : Instr.fill place z.cells ps.toList with
    | none => exact Sim.halt
    | some r =>
      obtain ⟨r', hr', hrr⟩ := fill_rel place ps.toList ps'.toList z.cells z.cells r (by simpa using hl) (fun i a b => by simpa using h i (by simpa using a) (by simpa using b)) hzc hf
      rw [hr']
      exact Sim.pure (VRel.agg' hrr)
  cases d <;> try exact Sim.halt
  · exact Sim.free (Free.sizeOf _) fun s _ => fin _ _
  · rename_i fields _
    dsimp only
    exact Sim.free (Free.arrayMapM (fun f => Free.bind (Free.sizeOf f.type) fun s => Free.pure _) fields) fun places _ => fin _ _

/-- A cap that may be told. -/
def capOk : Value → Bool
  | .slice _ _ c => c ≤ HALF
  | _ => true
theorem AdRel.slice {m : Mu} {a a' : Addr} (h : AdRel m a a') {n c : Nat} (hc : c ≤ HALF) : VRel m (.slice (some a) n c) (.slice (some a') n c) := by
  obtain ⟨b, o, l, rfl, h2, rfl⟩ := h
  exact .slice b o n c l h2 hc

theorem zrow_rel {m : Mu} {z : Array Value} (hz : ARel m z z) (n : Nat) : ARel m ((Array.range n).map (z[· % z.size]!)) ((Array.range n).map (z[· % z.size]!)) := by
  refine ARel.map fun x _ => ?_
  by_cases h : x % z.size < z.size
  · rw [getElem!_pos z _ h]; exact hz.2 _ h h
  · rw [getElem!_neg z _ h]; exact .bool _

theorem Sim.buildSlice {m : Mu} (hz : ZF P) (t : TypeId) (len : Nat) {ps ps' : Array (Nat × Value)} (hl : ps.size = ps'.size)
    (h : ∀ i (h : i < ps.size) (h' : i < ps'.size), ps[i].1 = ps'[i].1 ∧ VRel m ps[i].2 ps'[i].2) :
    Sim P B m (Instr.buildSlice t len ps) (Instr.buildSlice t len ps') (fun m' v v' => capOk v = true → VRel m' v v') := by
  unfold Instr.buildSlice
  refine Sim.free (Free.underlying t) fun d _ => ?_
  cases d <;> try exact Sim.halt
  rename_i elem _
  dsimp only
  refine Sim.free (Free.sizeOf _) fun size _ => ?_
  by_cases e : len * size > 2 ^ 24
  · rw [if_pos e]; exact Sim.bind_stuck fun _ => rfl
  rw [if_neg e, if_neg e]
  have tail : ∀ (zs : Array Value), ARel m zs zs → Sim P B m
      (match Instr.fill (fun i => some (i * size, size)) zs ps.toList with | some cells => (do let a ← Go.newRow elem cells; Pure.pure (.slice (some a) len len) : Sem Value) | _ => Go.stuck "buildSlice: a part of the wrong size")
      (match Instr.fill (fun i => some (i * size, size)) zs ps'.toList with | some cells => (do let a ← Go.newRow elem cells; Pure.pure (.slice (some a) len len) : Sem Value) | _ => Go.stuck "buildSlice: a part of the wrong size")
      (fun m' v v' => capOk v = true → VRel m' v v') := by
    intro zs hzs
    cases hf : Instr.fill (fun i => some (i * size, size)) zs ps.toList with
    | none => exact Sim.halt
    | some r =>
      obtain ⟨r', hr', hrr⟩ := fill_rel _ ps.toList ps'.toList zs zs r (by simpa using hl) (fun i a b => by simpa using h i (by simpa using a) (by simpa using b)) hzs hf
      rw [hr']
      exact (Sim.newRow hrr _).bind fun m2 hm2 a a' ha => Sim.pure fun hc => ha.slice (by simpa [capOk] using hc)
  by_cases e0 : len * size = 0
  · rw [if_pos e0, if_pos e0]
    simp only [pure_bind]
    exact tail _ (zrow_rel ARel.empty _)
  · rw [if_neg e0, if_neg e0]
    refine Sim.zero hz fun z hzf => ?_
    simp only [pure_bind]
    exact tail _ (zrow_rel (vflat_rel m 8 z hzf).cells _)

theorem Free.askRoom (n : Nat) : Free P (Go.askRoom n) := by
  unfold Go.askRoom
  split
  · intro h a h' he
    simp only [Go.mark, Sem.runA, Option.some.injEq, Prod.mk.injEq, true_and] at he
    obtain rfl := he
    exact ⟨rfl, fun _ => rfl⟩
  · exact Free.pure _

theorem Sim.makeSlice {m : Mu} (hz : ZF P) (t : TypeId) {x x' y y' : Value} (hx : VRel m x x') (hy : VRel m y y') :
    Sim P B m (Instr.makeSlice t x y) (Instr.makeSlice t x' y') (fun m' v v' => capOk v = true → VRel m' v v') := by
  unfold Instr.makeSlice
  refine Sim.free (Free.underlying t) fun d _ => ?_
  cases d <;> try exact Sim.halt
  rename_i elem _
  dsimp only
  refine (Sim.asInt hx).bind fun m1 hm1 n n' e => ?_
  subst e
  refine (Sim.asInt (hy.mono hm1)).bind fun m2 hm2 c c' e => ?_
  subst e
  refine Sim.free (Free.typeInfo elem) fun ti _ => ?_
  generalize IntKind.i64.wrap n = l
  generalize IntKind.i64.wrap c = k
  split
  · refine Sim.of_none fun hp => ?_
    (repeat' split) <;> first
      | exact runA_bind_none (runtimePanic_runA _ hp)
      | exact runA_bind_none (choose_runA _ hp)
      | exact runtimePanic_runA _ hp
  · refine Sim.free (Free.askRoom _) fun _ _ => ?_
    refine Sim.free (Free.sizeOf elem) fun s _ => ?_
    have tail : ∀ (mm : Mu) (zs : Array Value), ARel mm zs zs → Sim P B mm (do let a ← Go.newRow elem zs; Pure.pure (.slice (some a) l.toNat k.toNat) : Sem Value) (do let a ← Go.newRow elem zs; Pure.pure (.slice (some a) l.toNat k.toNat) : Sem Value) (fun m' v v' => capOk v = true → VRel m' v v') := by
      intro mm zs hzs
      exact (Sim.newRow hzs _).bind fun m2 hm2 a a' ha => Sim.pure fun hc => ha.slice (by simpa [capOk] using hc)
    by_cases e0 : k.toNat * s = 0
    · rw [if_pos e0]
      simp only [pure_bind]
      exact tail _ _ (zrow_rel ARel.empty _)
    · rw [if_neg e0]
      refine Sim.zero hz fun z hzf => ?_
      simp only [pure_bind]
      exact tail _ _ (zrow_rel (vflat_rel m2 8 z hzf).cells _)

theorem Sim.index {m : Mu} {v v' x x' : Value} (h : VRel m v v') (hx : VRel m x x') (t : TypeId) : Sim P B m (Instr.index t v x) (Instr.index t v' x') (fun m' v v' => VRel m' v v') := by
  unfold Instr.index
  refine (Sim.asIntOf hx).bind fun m1 hm1 ki ki' e => ?_
  subst e
  obtain ⟨k, i⟩ := ki
  refine Sim.free (Free.underlying t) fun d _ => ?_
  have h' := h.mono hm1
  cases d <;> try exact Sim.halt
  · cases h' <;> try exact Sim.halt
    rename_i s
    dsimp only
    cases (if 0 ≤ i then s[i.toNat]? else none) with
    | none => exact Sim.bounds
    | some b => exact Sim.pure (.int _ _)
  · rename_i len elem _
    cases h' <;> try exact Sim.halt
    rename_i c c' h1 h2
    dsimp only
    split
    · exact Sim.free (Free.sizeOf elem) fun s _ => Sim.part ⟨h1, h2⟩ _ _
    · exact Sim.bounds

theorem Sim.len {m : Mu} {ts : Array TypeId} {t : TypeId} {as as' : Array Value} (h : ARel m as as') : Sim P B m (Builtin.len_ ts t as) (Builtin.len_ ts t as') (fun m' v v' => VRel m' v v') := by
  unfold Builtin.len_
  cases ht : ts[0]? with
  | none => exact Sim.halt
  | some t0 =>
    cases ha : as[0]? with
    | none => exact Sim.halt
    | some v =>
      obtain ⟨v', hv', hv⟩ := h.get? ha
      rw [hv']
      dsimp only
      refine Sim.free (Free.underlying t0) fun d _ => ?_
      cases d <;> try exact Sim.halt
      · cases hv <;> first | exact Sim.halt | exact Sim.pure (.int _ _)
      · rename_i arr _
        have go : ∀ (v v' : Value), Sim P B m (do
            match ← Go.underlying arr with
            | .array n _ => Pure.pure (goInt n)
            | _ => Go.stuck "len: pointer to array expected" : Sem Value) (do
            match ← Go.underlying arr with
            | .array n _ => Pure.pure (goInt n)
            | _ => Go.stuck "len: pointer to array expected" : Sem Value) (fun m' v v' => VRel m' v v') := by
          intro v v'
          refine Sim.free (Free.underlying arr) fun d2 _ => ?_
          cases d2 <;> first | exact Sim.halt | exact Sim.pure (.int _ _)
        exact go v v'
      · cases hv <;> first | exact Sim.halt | exact Sim.pure (.int _ _)
      · exact Sim.pure (.int _ _)
      · cases hv <;> try exact Sim.halt
        · exact Sim.pure (.int _ _)
        · rename_i b l hm
          refine (Sim.getObj hm).bind fun m1 hm1 o o' ho => ?_
          cases o with
          | map es k => obtain ⟨es', rfl, h1, _⟩ := ho; dsimp only; rw [h1]; exact Sim.pure (.int _ _)
          | stringIter s p => exact Sim.halt
          | _ => exact ho.elim
      · cases hv with
        | any r v' h0 h1 h2 =>
          refine Sim.of_none fun hp => ?_
          dsimp only
          cases hg : (Go.getObj r).runA P hp with
          | none => exact runA_bind_none hg
          | some x =>
            obtain ⟨o, h'⟩ := x
            rw [runA_bind_some hg]
            cases o <;> first | rfl | (simp only [Go.getObj, Sem.runA] at hg; split at hg <;> cases hg)
        | nilChan => exact Sim.pure (.int _ _)
        | _ => exact Sim.halt

theorem Sim.lenOf {m : Mu} {v v' : Value} (h : VRel m v v') : Sim P B m (Builtin.lenOf v) (Builtin.lenOf v') (fun _ a b => a = b) := by
  unfold Builtin.lenOf
  cases h <;> first | exact Sim.pure rfl | exact Sim.halt
theorem bytes_rel {m : Mu} (s : ByteArray) (n : Nat) : ARel m ((s.extract 0 n).data.map fun b => Value.int .u8 b.toNat) ((s.extract 0 n).data.map fun b => Value.int .u8 b.toNat) := ARel.map fun _ _ => .int _ _
theorem Sim.firstCells {m : Mu} {v v' : Value} (h : VRel m v v') (size n : Nat) (hn : ∀ b o k, v = .slice (some b) o k → n ≤ o) :
    Sim P B m (Builtin.firstCells size n v) (Builtin.firstCells size n v') (fun m' c c' => ARel m' c c' ∧ (n = 0 → c.size = 0)) := by
  unfold Builtin.firstCells
  have rows : ∀ {a a' : Addr}, AdRel m a a' → Sim P B m (Go.loadCells a (n * size)) (Go.loadCells a' (n * size)) (fun m' c c' => ARel m' c c' ∧ (n = 0 → c.size = 0)) := by
    intro a a' ha
    by_cases e : n = 0
    · subst e
      simp only [Nat.zero_mul]
      exact Sim.pure ⟨ARel.empty, fun _ => rfl⟩
    · exact (Sim.loadCells ha _).mono fun _ _ _ _ hc => ⟨hc, fun h => absurd h e⟩
  cases h <;> try exact Sim.halt
  · exact Sim.pure ⟨bytes_rel _ _, fun e => by subst e; simp⟩
  · exact Sim.pure ⟨ARel.empty, fun _ => rfl⟩
  · rename_i b o n c l hm hc
    exact rows ⟨b, o, l, rfl, hm, rfl⟩
  · rename_i b o n k l hm _ _ _
    exact rows ⟨b, o, l, rfl, hm, rfl⟩
  · rename_i b o k l a hm _ _
    have := hn _ _ _ rfl
    obtain rfl : n = 0 := by omega
    simp only [Nat.zero_mul]
    exact Sim.pure ⟨ARel.empty, fun _ => rfl⟩

def copyTail (elem : TypeId) (n : Nat) (base : Option Addr) (x : Value) : Sem Value := do
  let cells ← Builtin.firstCells (← Go.sizeOf elem) n x
  if let some a := base then Go.storeCells a cells.toList
  pure (goInt n)
theorem Sim.copyTail {m : Mu} {elem : TypeId} {n : Nat} {base base' : Option Addr} {x x' : Value} (hx : VRel m x x') (hn : ∀ b o k, x = .slice (some b) o k → n ≤ o)
    (hb : match base, base' with | some a, some a' => AdRel m a a' ∨ n = 0 | none, none => True | _, _ => False) :
    Sim P B m (copyTail elem n base x) (copyTail elem n base' x') (fun m' v v' => VRel m' v v') := by
  unfold Ab.copyTail
  refine Sim.free (Free.sizeOf elem) fun s _ => ?_
  refine (Sim.firstCells hx s n hn).bind fun m1 hm1 c c' hc => ?_
  cases base with
  | none =>
    cases base' with
    | none => exact Sim.pure (.int _ _)
    | some a' => exact hb.elim
  | some a =>
    cases base' with
    | none => exact hb.elim
    | some a' =>
      dsimp only at hb ⊢
      rcases hb with hb | hb
      · exact (Sim.storeCells (hb.mono hm1) _ _ 0 (by simpa using hc.1)).bind fun _ _ _ _ _ => Sim.pure (.int _ _)
      · have e : c.toList = [] := by have := hc.2 hb; simpa using this
        have e' : c'.toList = [] := by have := hc.2 hb; have h2 := hc.1.1; rw [this] at h2; simpa using h2.symm
        rw [e, e']
        exact Sim.pure (.int _ _)

theorem lenOf_cases {m : Mu} {v v' : Value} (h : VRel m v v') :
    (∃ n, Builtin.lenOf v = pure n ∧ Builtin.lenOf v' = pure n ∧ ∀ b o k, v = .slice (some b) o k → n = o) ∨ (∀ hp, (Builtin.lenOf v).runA P hp = none) := by
  cases h <;> first
    | exact .inl ⟨_, rfl, rfl, fun b o k e => (by cases e; rfl)⟩
    | exact .inl ⟨_, rfl, rfl, fun b o k e => (by cases e)⟩
    | exact .inr fun _ => rfl
theorem Sim.copy {m : Mu} {ts : Array TypeId} {t : TypeId} {as as' : Array Value} (h : ARel m as as') : Sim P B m (Builtin.copy_ ts t as) (Builtin.copy_ ts t as') (fun m' v v' => VRel m' v v') := by
  unfold Builtin.copy_
  cases ht : ts[0]? with
  | none => exact Sim.halt
  | some t0 =>
    cases ha : as[0]? with
    | none => exact Sim.halt
    | some d =>
      obtain ⟨d', hd', hd⟩ := h.get? ha
      rw [hd']
      cases hb : as[1]? with
      | none => exact Sim.halt
      | some x =>
        obtain ⟨x', hx', hx⟩ := h.get? hb
        rw [hx']
        dsimp only
        refine Sim.free (Free.underlying t0) fun dd _ => ?_
        cases dd <;> try exact Sim.halt
        rename_i elem _
        dsimp only
        have hlen := lenOf_cases (P := P) hx
        cases hd <;> try exact Sim.halt
        all_goals
          rcases hlen with ⟨n, e1, e2, hn⟩ | hlen
          case inr => exact Sim.bind_stuck hlen
          simp only [e1, e2, pure_bind]
        · exact Sim.copyTail (base := none) (base' := none) hx (fun b o k e => by rw [← hn b o k e]; exact Nat.min_le_left _ _) trivial
        · rename_i b o n2 c l hm hc
          exact Sim.copyTail (base := some _) (base' := some _) hx (fun b o k e => by rw [← hn b o k e]; exact Nat.min_le_left _ _) (.inl ⟨b, o, l, rfl, hm, rfl⟩)
        · rename_i b o n2 k l hm _ _ _
          exact Sim.copyTail (base := some _) (base' := some _) hx (fun b o k e => by rw [← hn b o k e]; exact Nat.min_le_left _ _) (.inl ⟨b, o, l, rfl, hm, rfl⟩)
        · exact Sim.copyTail (base := some _) (base' := some _) hx (fun b o k e => by rw [← hn b o k e]; exact Nat.min_le_left _ _) (.inr (Nat.min_zero _))
end
end Go.Ab
