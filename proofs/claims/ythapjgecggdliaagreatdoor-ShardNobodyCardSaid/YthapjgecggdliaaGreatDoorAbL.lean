import Derived.Test.YthapjgecggdliaaGreatDoorAbK
namespace Go.Ab
open Go
section
variable {P : Program} {B : Base}

/-! ## Slots -/
def Tget (T : Tree Value) (t : Tmp) : Value := T.get undef t
def Tput (T : Tree Value) (dst : Option Tmp) (v : Value) : Tree Value := match dst with | some d => T.set undef d v | none => T
def rhoA (T : Tree Value) : Operand → Value
  | .tmp t => Tget T t
  | .const v => v
  | .global g => .pointer (some ⟨g, 0, none⟩)
  | .func f => .func (.func f) #[] #[]

structure TRel (m : Mu) (n : Nat) (T : Tree Value) (tmps : Array Value) : Prop where
  size : tmps.size = n
  rel : ∀ t, VRel m (Tget T t) (tmps.getD t undef)

theorem undef_rel (m : Mu) : VRel m undef undef := .tuple _ _ rfl (fun i h => by simp at h)

theorem TRel.mono {m m' : Mu} {n : Nat} {T : Tree Value} {tmps : Array Value} (h : TRel m n T tmps) (hm : Mu.le m m') : TRel m' n T tmps := ⟨h.size, fun t => (h.rel t).mono hm⟩
theorem TRel.put {m : Mu} {n : Nat} {T : Tree Value} {a : Act} {dst : Option Tmp} {v v' : Value} (h : TRel m n T a.tmps) (hd : ∀ d, dst = some d → d < n) (hv : VRel m v v') :
    TRel m n (Tput T dst v) (a.put dst v').tmps := by
  cases dst with
  | none => exact h
  | some d =>
    have hdn := hd d rfl
    refine ⟨by simp [Act.put, h.size], fun t => ?_⟩
    have := h.rel t
    simp only [Tput, Tget, Tree.get_set, Act.put, Array.getD_eq_getD_getElem?, Array.getElem?_setIfInBounds]
    by_cases e : t = d
    · subst e
      rw [if_pos rfl, if_pos rfl, if_pos (by rw [h.size]; exact hdn)]
      exact hv
    · rw [if_neg e, if_neg (fun x => e x.symm)]
      simpa [Tget, Array.getD_eq_getD_getElem?] using this

def opndOk (G : Nat) : Operand → Bool
  | .const v => vflat 8 v
  | .global g => Nat.blt g G
  | _ => true
def opOk (G n : Nat) (o : Oper) : Bool := o.op.operands.toList.all (opndOk G) && (match o.dst with | some d => Nat.blt d n | none => true)
def GRel (G : Nat) (m : Mu) : Prop := ∀ g, g < G → ∃ l, m g = some l ∧ l.blk = g ∧ l.off = 0
theorem GRel.mono {G : Nat} {m m' : Mu} (h : GRel G m) (hm : Mu.le m m') : GRel G m' := fun g hg => let ⟨l, a, b⟩ := h g hg; ⟨l, hm _ _ a, b⟩

theorem rho_rel {m : Mu} {n G : Nat} {T : Tree Value} {a : Act} (hT : TRel m n T a.tmps) (hG : GRel G m) {x : Operand} (hx : opndOk G x = true) : VRel m (rhoA T x) (a.eval x) := by
  cases x with
  | tmp t => exact hT.rel t
  | const v => exact vflat_rel m 8 v hx
  | global g =>
    obtain ⟨l, h1, h2, h3⟩ := hG g (by simpa [opndOk] using hx)
    have := VRel.ptr (m := m) g 0 l h1
    rw [h2, h3] at this
    exact this
  | func f => exact .func _ _ _ _ _ rfl (fun i h => by simp at h) rfl (fun i h => by simp at h)

/-- Is the operation wanted? -/
def wantedA (ops : Array Oper) (o : Oper) (T : Tree Value) : Bool :=
  match o.guard with
  | none => true
  | some (j, want) => match (ops[j]?).bind (·.dst) with
    | some d => match Tget T d with
      | .bool b => b == want
      | _ => false
    | none => false

theorem wanted_eq' {m : Mu} {n : Nat} {T : Tree Value} {a : Act} (hs : a.tmps.size = n) (ops : Array Oper) (o : Oper)
    (hd : ∀ (j : Nat) (w : Bool) (d : Nat), o.guard = some (j, w) → (ops[j]?).bind (·.dst) = some d → d < n ∧ VRel m (Tget T d) (a.tmps.getD d undef)) :
    Region.wanted o (yielded ops a.tmps) = wantedA ops o T := by
  unfold Region.wanted wantedA
  cases hg : o.guard with
  | none => rfl
  | some g =>
    obtain ⟨j, want⟩ := g
    dsimp only
    unfold yielded
    cases hj : (ops[j]?).bind (·.dst) with
    | none => simp
    | some d =>
      obtain ⟨hdn, hr⟩ := hd j want d hg hj
      have hs : a.tmps[d]? = some (a.tmps.getD d undef) := by
        rw [Array.getD_eq_getD_getElem?, Array.getElem?_eq_getElem (by rw [hs]; exact hdn)]; rfl
      simp only [Option.bind_some, hs]
      generalize a.tmps.getD d undef = z at hr
      generalize Tget T d = y at hr
      cases hr <;> first | rfl | (simp; done) | (rename_i h0 h1 h2; revert h0; cases z <;> intro h0 <;> first | (simp; done) | exact absurd rfl (h0 _))
theorem wanted_eq {m : Mu} {n : Nat} {T : Tree Value} {a : Act} (hT : TRel m n T a.tmps) (ops : Array Oper) (o : Oper) (hd : ∀ (j : Nat) (d : Nat), (ops[j]?).bind (·.dst) = some d → d < n) :
    Region.wanted o (yielded ops a.tmps) = wantedA ops o T :=
  wanted_eq' hT.size ops o fun j _ d _ e => ⟨hd j d e, hT.rel d⟩

/-! ## A callee's results -/
def isAggD : TypeDesc → Bool
  | .struct _ | .array _ _ => true
  | _ => false
def loadA (P : Program) (h : AHeap) (t : TypeId) (v : Value) : Option Value :=
  match v with
  | .pointer (some ⟨b, o, none⟩) =>
    match rowIn (h.get b), P.underlying t, P.info? t with
    | some c, some d, some i =>
      if isAggD d then (if Nat.ble (o + i.size) c.len then some (.agg ⟨c.part o i.size⟩) else none)
      else c.get? o
    | _, _, _ => none
  | _ => none

theorem run_isAgg {t : TypeId} {d : TypeDesc} (h : P.underlying t = some d) (w : World) : (Go.isAgg t).run P w = .ok (isAggD d) w := by
  unfold Go.isAgg
  rw [Sem.run_bind, run_underlying h, Result.andThen_ok]
  cases d <;> rfl

theorem loadA_sound {m : Mu} {h : AHeap} {w : World} (hr : Rel P B m h w) {t : TypeId} {v v' r : Value} (hv : VRel m v v') (he : loadA P h t v = some r) :
    ∃ r', (do loadVar t (← asAddr v') : Sem Value).run P w = .ok r' w ∧ VRel m r r' := by
  unfold loadA at he
  split at he <;> try (cases he; done)
  rename_i b o
  cases hv with
  | ptr _ _ l hm =>
    split at he <;> try (cases he; done)
    rename_i c d i hb hu hi
    split at he
    · rename_i hd
      split at he
      · rename_i hlen
        simp only [Nat.ble_eq] at hlen
        obtain rfl := Option.some.inj he
        obtain ⟨xs', h1, h2⟩ := load_row hr hm hb rfl hlen
        refine ⟨.agg xs', ?_, VRel.agg' h2⟩
        simp only [Go.asAddr, pure_bind, loadVar, Sem.run_bind, run_isAgg hu, Result.andThen_ok, hd, if_true, run_sizeOf' hi, h1, Sem.run_pure]
      · cases he
    · rename_i hd
      obtain ⟨l', hl', _, hok⟩ := hr.obj b (rowIn_live hb)
      obtain rfl : l = l' := by rw [hm] at hl'; exact Option.some.inj hl'
      obtain ⟨_, C, te, fr, h1, h3, h4⟩ := okRow hok hb
      obtain ⟨r', hr1, hr2⟩ := h4 _ _ he
      refine ⟨r', ?_, hr2⟩
      have hcell : w.cell? ⟨l.blk, l.off + o, Option.none⟩ = some r' := by simp [World.cell?, h1, hr1]
      simp only [Bool.not_eq_true] at hd
      simp only [Go.asAddr, pure_bind, loadVar, Sem.run_bind, run_isAgg hu, Result.andThen_ok, hd, Bool.false_eq_true, if_false, run_load, hcell]

def resA (P : Program) (h : AHeap) (T : Tree Value) : List ResultVar → Option (List Value)
  | [] => some []
  | .tmp t :: rest => match resA P h T rest with | some l => some (Tget T t :: l) | none => none
  | .cell a t :: rest => match loadA P h t (Tget T a), resA P h T rest with | some v, some l => some (v :: l) | _, _ => none
def oneA : List Value → Value
  | [v] => v
  | l => .tuple l.toArray

theorem resA_sound {m : Mu} {n : Nat} {h : AHeap} {w : World} {T : Tree Value} {a : Act} (hr : Rel P B m h w) (hT : TRel m n T a.tmps) {f : ResultVar → Sem Value}
    (hf1 : ∀ t, f (.tmp t) = pure (a.tmps.getD t undef)) (hf2 : ∀ x t, f (.cell x t) = do loadVar t (← asAddr (a.tmps.getD x undef))) :
    ∀ (rs : List ResultVar) (vs : List Value), resA P h T rs = some vs → ∃ vs', (rs.mapM f).run P w = .ok vs' w ∧ ARel m vs.toArray vs'.toArray := by
  intro rs
  induction rs with
  | nil =>
    intro vs he
    simp only [resA, Option.some.injEq] at he
    subst he
    exact ⟨[], rfl, ARel.empty⟩
  | cons r rs ih =>
    have cons : ∀ (v v' : Value) (l l' : List Value), VRel m v v' → ARel m l.toArray l'.toArray → ARel m (v :: l).toArray (v' :: l').toArray := by
      intro v v' l l' hv hl
      have e1 : (v :: l).toArray = #[v] ++ l.toArray := by simp
      have e2 : (v' :: l').toArray = #[v'] ++ l'.toArray := by simp
      rw [e1, e2]; exact (ARel.single hv).append hl
    intro vs he
    cases r with
    | tmp t =>
      simp only [resA] at he
      split at he <;> try (cases he; done)
      rename_i l hl
      obtain rfl := Option.some.inj he
      obtain ⟨l', h1, h2⟩ := ih l hl
      refine ⟨a.tmps.getD t undef :: l', ?_, cons _ _ _ _ (hT.rel t) h2⟩
      rw [List.mapM_cons, hf1]
      simp only [pure_bind, Sem.run_bind, h1, Result.andThen_ok, Sem.run_pure]
    | cell x t =>
      simp only [resA] at he
      split at he <;> try (cases he; done)
      rename_i v l hv hl
      obtain rfl := Option.some.inj he
      obtain ⟨l', h1, h2⟩ := ih l hl
      obtain ⟨v', q1, q2⟩ := loadA_sound hr (hT.rel x) hv
      refine ⟨v' :: l', ?_, cons _ _ _ _ q2 h2⟩
      rw [List.mapM_cons, hf2, Sem.run_bind, q1, Result.andThen_ok, Sem.run_bind, h1]
      rfl

theorem results_sound {m : Mu} {n : Nat} {h : AHeap} {w : World} {T : Tree Value} {a : Act} (hr : Rel P B m h w) (hT : TRel m n T a.tmps) {fn : Func} {vs : List Value}
    (he : resA P h T fn.results.toList = some vs) : ∃ v', (results fn a.tmps).run P w = .ok v' w ∧ VRel m (oneA vs) v' := by
  obtain ⟨vs', h1, h2⟩ := resA_sound (a := a) hr hT (f := fun
    | .tmp t => pure (a.tmps.getD t undef)
    | .cell x t => do loadVar t (← asAddr (a.tmps.getD x undef))) (fun _ => rfl) (fun _ _ => rfl) fn.results.toList vs he
  have e : (fn.results.mapM (m := Sem) fun
    | .tmp t => pure (a.tmps.getD t undef)
    | .cell x t => do loadVar t (← asAddr (a.tmps.getD x undef))).run P w = .ok vs'.toArray w := by
    rw [Array.mapM_eq_mapM_toList, Sem.run_map, h1]; rfl
  refine ⟨if h : vs'.toArray.size = 1 then vs'.toArray[0] else .tuple vs'.toArray, ?_, ?_⟩
  · unfold results
    rw [Sem.run_bind]
    exact (congrArg (fun r : Result (Array Value) => r.andThen fun vs w => (pure (if h : vs.size = 1 then vs[0] else .tuple vs) : Sem Value).run P w) e).trans rfl
  · have hs := h2.1
    simp only [List.size_toArray] at hs
    match vs, vs', hs, h2 with
    | [], [], _, h2 => exact .tuple _ _ h2.1 h2.2
    | [v], [v'], _, h2 => exact h2.2 0 (by simp) (by simp)
    | v :: u :: l, v' :: u' :: l', _, h2 => simp only [oneA]; rw [dif_neg (by simp)]; exact .tuple _ _ h2.1 h2.2
end
end Go.Ab
