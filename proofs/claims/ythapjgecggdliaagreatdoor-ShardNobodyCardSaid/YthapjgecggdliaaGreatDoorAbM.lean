import Derived.Test.YthapjgecggdliaaGreatDoorAbL
import Derived.Scope
import Derived.LoopN
namespace Go.Ab
open Go
section
variable {P : Program}

abbrev CallF := FuncId → Array Value → AHeap → Option (Value × AHeap)
def CallSound (P : Program) (G : Nat) (callF : CallF) : Prop :=
  ∀ f args h v h', callF f args h = some (v, h') → Nx h h' ∧
    ∀ (B : Base) m args' w, ARel m args args' → Rel P B m h w → GRel G m →
      Calls P f args' w (fun e w' => ∃ v' m', e = .returned v' ∧ Ext h m m' ∧ Rel P B m' h' w' ∧ VRel m' v v')

/-- One operation: the value for its slot, and the memory behind it. -/
def stepA (P : Program) (enters : FuncId → FKind) (callF : CallF) (ops : Array Oper) (o : Oper) (T : Tree Value) (h : AHeap) : Option (Value × AHeap) :=
  match wantedA ops o T with
  | true => match opA P enters (rhoA T) o h with
    | some (.val v, h') => some (v, h')
    | some (.skip, h') => some (undef, h')
    | some (.call f args, h') => callF f args h'
    | none => none
  | false => some (undef, h)

theorem appendA_next {ts : Array TypeId} {args : Array Value} {h h' : AHeap} {v : Value} (he : appendA P ts args h = some (v, h')) : Nx h h' := by
  unfold appendA at he
  repeat' split at he
  all_goals first
    | (cases he; done)
    | (simp only [Option.some.injEq, Prod.mk.injEq] at he
       obtain ⟨_, rfl⟩ := he
       first
         | exact Nx.refl _
         | (refine Nx.put ?_; simp_all; done)
         | (refine Nx.push ?_; simp_all; done)
         | (refine (Nx.kill _ _).trans (Nx.push ?_); show h.next < h.lim; simp_all; done))

theorem opA_next {enters : FuncId → FKind} {ρ : Operand → Value} {o : Oper} {h h' : AHeap} {out : Out} (he : opA P enters ρ o h = some (out, h')) : Nx h h' := by
  have hV : ∀ (s : Sem Value), outV (s.runA P h) = some (out, h') → Nx h h' := by
    intro s e
    cases h1 : s.runA P h with
    | none => rw [h1] at e; cases e
    | some r =>
      obtain ⟨v, h2⟩ := r
      rw [h1] at e
      simp only [outV, Option.some.injEq, Prod.mk.injEq] at e
      obtain ⟨_, rfl⟩ := e
      exact runA_nx P s _ _ _ h1
  have hC : ∀ (s : Sem Value), outC (s.runA P h) = some (out, h') → Nx h h' := by
    intro s e
    cases h1 : s.runA P h with
    | none => rw [h1] at e; cases e
    | some r =>
      obtain ⟨v, h2⟩ := r
      rw [h1] at e
      simp only [outC] at e
      split at e
      · simp only [Option.some.injEq, Prod.mk.injEq] at e
        obtain ⟨_, rfl⟩ := e
        exact runA_nx P s _ _ _ h1
      · cases e
  have hU : ∀ (s : Sem Unit), outU (s.runA P h) = some (out, h') → Nx h h' := by
    intro s e
    cases h1 : s.runA P h with
    | none => rw [h1] at e; cases e
    | some r =>
      obtain ⟨v, h2⟩ := r
      rw [h1] at e
      simp only [outU, Option.some.injEq, Prod.mk.injEq] at e
      obtain ⟨_, rfl⟩ := e
      exact runA_nx P s _ _ _ h1
  have hP : ∀ (s : Option Value), outP s h = some (out, h') → Nx h h' := by
    intro s e
    unfold outP at e
    split at e
    · split at e
      · simp only [Option.some.injEq, Prod.mk.injEq] at e
        obtain ⟨_, rfl⟩ := e
        exact Nx.refl _
      · cases e
    · cases e
  have hN : ∀ it, outV (nextA it h) = some (out, h') → Nx h h' := by
    intro it e
    unfold nextA at e
    repeat' split at e
    all_goals first
      | (cases e; done)
      | (simp only [outV, Option.some.injEq, Prod.mk.injEq] at e; obtain ⟨_, rfl⟩ := e; first | exact Nx.refl _ | (refine Nx.put ?_; simp_all; done))
  have hM : ∀ it, outV (nextM it h) = some (out, h') → Nx h h' := by
    intro it e
    unfold nextM at e
    repeat' split at e
    all_goals first
      | (cases e; done)
      | (simp only [outV, Option.some.injEq, Prod.mk.injEq] at e; obtain ⟨_, rfl⟩ := e; first | exact Nx.refl _ | (refine Nx.put ?_; simp_all; done))
  have hE : ∀ it, outV (entryA it h) = some (out, h') → Nx h h' := by
    intro it e
    unfold entryA at e
    repeat' split at e
    all_goals first
      | (cases e; done)
      | (simp only [outV, Option.some.injEq, Prod.mk.injEq] at e; obtain ⟨_, rfl⟩ := e; exact Nx.refl _)
  have hA : ∀ ts as, outV (appendA P ts as h) = some (out, h') → Nx h h' := by
    intro ts as e
    cases h1 : appendA P ts as h with
    | none => rw [h1] at e; cases e
    | some r =>
      obtain ⟨v, h2⟩ := r
      rw [h1] at e
      simp only [outV, Option.some.injEq, Prod.mk.injEq] at e
      obtain ⟨_, rfl⟩ := e
      exact appendA_next h1
  have hS : ∀ ts as, outV (unsafeStrA P ts as h) = some (out, h') → Nx h h' := by
    intro ts as e
    unfold unsafeStrA at e
    repeat' split at e
    all_goals first
      | (cases e; done)
      | (simp only [outV, Option.some.injEq, Prod.mk.injEq] at e; obtain ⟨_, rfl⟩ := e; exact Nx.kill _ _)
  unfold opA at he
  repeat' split at he
  all_goals first
    | (cases he; done)
    | exact hS _ _ he
    | exact hV _ he
    | exact hC _ he
    | exact hU _ he
    | exact hP _ he
    | exact hN _ he
    | exact hM _ he
    | exact hE _ he
    | exact hA _ _ he
    | (simp only [Option.some.injEq, Prod.mk.injEq] at he
       obtain ⟨_, rfl⟩ := he
       first
         | exact Nx.refl _
         | (refine Nx.push ?_; simp_all; done))

theorem stepA_next {G : Nat} {enters : FuncId → FKind} {callF : CallF} (hC : CallSound P G callF) {ops : Array Oper} {o : Oper} {T : Tree Value} {h h' : AHeap} {v : Value}
    (he : stepA P enters callF ops o T h = some (v, h')) : Nx h h' := by
  unfold stepA at he
  split at he
  · split at he
    · rename_i h1; simp only [Option.some.injEq, Prod.mk.injEq] at he; obtain ⟨_, rfl⟩ := he; exact opA_next h1
    · rename_i h1; simp only [Option.some.injEq, Prod.mk.injEq] at he; obtain ⟨_, rfl⟩ := he; exact opA_next h1
    · rename_i h1
      exact (opA_next h1).trans (hC _ _ _ _ _ he).1
    · cases he
  · simp only [Option.some.injEq, Prod.mk.injEq] at he; obtain ⟨_, rfl⟩ := he; exact Nx.refl _

theorem stepA_sound' {B : Base} {G : Nat} {enters : FuncId → FKind} {callF : CallF} (hE : Enters P enters) (hz : ZF P) (hC : CallSound P G callF) {ops : Array Oper} {o : Oper} {T : Tree Value} {h h' : AHeap} {v : Value}
    (he : stepA P enters callF ops o T h = some (v, h')) {m : Mu} {a : Act} {w : World} (hr : Rel P B m h w) (hG : GRel G m) (hρ : ∀ x ∈ o.op.operands.toList, VRel m (rhoA T x) (a.eval x))
    (hw : Region.wanted o (yielded ops a.tmps) = wantedA ops o T)
    {K : Act → World → Prop} {Q : Exit → Act → World → Prop} (hK : ∀ m' v' w', Ext h m m' → Rel P B m' h' w' → VRel m' v v' → K (a.put o.dst v') w') :
    if Region.wanted o (yielded ops a.tmps) then o.wp P a w K Q else K (a.put o.dst undef) w := by
  unfold stepA at he
  split at he
  · rename_i h0
    rw [hw, h0, if_pos rfl]
    have hs := opA_sound hE hz (o := o) (ρ := rhoA T) (ρ' := a.eval) hr hρ
    unfold Oper.wp
    split at he
    · rename_i x hx h1
      simp only [Option.some.injEq, Prod.mk.injEq] at he
      obtain ⟨rfl, rfl⟩ := he
      obtain ⟨nx, w', m', e1, e2, e3, e4⟩ := hs _ _ h1
      rw [e1]
      cases nx <;> first | exact e4.elim | skip
      exact hK m' _ w' e2 e3 e4
    · rename_i hx h1
      simp only [Option.some.injEq, Prod.mk.injEq] at he
      obtain ⟨rfl, rfl⟩ := he
      obtain ⟨nx, w', m', e1, e2, e3, e4⟩ := hs _ _ h1
      rw [e1]
      cases nx <;> first | exact e4.elim | skip
      exact hK m' _ w' e2 e3 (undef_rel m')
    · rename_i f args h2 h1
      obtain ⟨nx, w', m', e1, e2, e3, e4⟩ := hs _ _ h1
      rw [e1]
      cases nx <;> first | exact e4.elim | skip
      obtain ⟨rfl, e5⟩ := e4
      obtain ⟨_, hcs⟩ := hC _ _ _ _ _ he
      have q := opA_next h1
      refine (hcs B m' _ w' e5 e3 (hG.mono e2.1)).mono ?_
      rintro e w2 ⟨v', m2, rfl, c2, c3, c4⟩
      exact hK m2 v' w2 (e2.trans c2 q.1 q.2.1) c3 c4
    · cases he
  · rename_i h0
    rw [hw, h0]
    simp only [Option.some.injEq, Prod.mk.injEq] at he
    obtain ⟨rfl, rfl⟩ := he
    simp only [Bool.false_eq_true, if_false]
    exact hK m undef w (Ext.refl _ m) hr (undef_rel m)

theorem stepA_sound {B : Base} {G n : Nat} {enters : FuncId → FKind} {callF : CallF} (hE : Enters P enters) (hz : ZF P) (hC : CallSound P G callF) {ops : Array Oper} {o : Oper} {T : Tree Value} {h h' : AHeap} {v : Value}
    (he : stepA P enters callF ops o T h = some (v, h')) {m : Mu} {a : Act} {w : World} (hT : TRel m n T a.tmps) (hr : Rel P B m h w) (hG : GRel G m) (hok : opOk G n o = true)
    (hd : ∀ (j : Nat) (d : Nat), (ops[j]?).bind (·.dst) = some d → d < n)
    {K : Act → World → Prop} {Q : Exit → Act → World → Prop} (hK : ∀ m' v' w', Ext h m m' → Rel P B m' h' w' → VRel m' v v' → K (a.put o.dst v') w') :
    if Region.wanted o (yielded ops a.tmps) then o.wp P a w K Q else K (a.put o.dst undef) w := by
  have hw := wanted_eq hT ops o hd
  unfold opOk at hok
  simp only [Bool.and_eq_true] at hok
  exact stepA_sound' hE hz hC he hr hG (fun x hx => rho_rel hT hG (List.all_eq_true.1 hok.1 x hx)) hw hK

/-! ## Code -/
def runOps (P : Program) (enters : FuncId → FKind) (callF : CallF) (ops : Array Oper) : List Oper → Tree Value → AHeap → Option (Tree Value × AHeap)
  | [], T, h => some (T, h)
  | o :: rest, T, h => match stepA P enters callF ops o T h with
    | some (v, h') => runOps P enters callF ops rest (Tput T o.dst v) h'
    | none => none

inductive AExit where
  | normal
  | exit (id : Nat)
  | ret
def AExit.toExit : AExit → Exit
  | .normal => .normal
  | .exit id => .exit id
  | .ret => .ret

abbrev DrawF := Array Oper → Tree Value → AHeap → Option (Tree Value × AHeap)
def DrawSound (P : Program) (G : Nat) (draw : DrawF) : Prop :=
  ∀ ops T h T' h', draw ops T h = some (T', h') → Nx h h' ∧
    ∀ (B : Base) m n id a w (Q : Exit → Act → World → Prop), ops.toList.all (opOk G n) = true → TRel m n T a.tmps → Rel P B m h w → GRel G m →
      (∀ m' a' w', Ext h m m' → TRel m' n T' a'.tmps → a'.defers = a.defers → Rel P B m' h' w' → Q .normal a' w') → (Code.region id ops true).wp P Q a w

def codeA (P : Program) (enters : FuncId → FKind) (callF : CallF) (draw : DrawF) : Nat → Code → Tree Value → AHeap → Option (AExit × Tree Value × AHeap)
  | 0, _, _, _ => none
  | f + 1, c, T, h =>
    match c with
    | .skip | .label _ => some (.normal, T, h)
    | .exit id => some (.exit id, T, h)
    | .ret => some (.ret, T, h)
    | .region _ ops false => match runOps P enters callF ops ops.toList T h with | some (T', h') => some (.normal, T', h') | none => none
    | .region _ ops true => match draw ops T h with | some (T', h') => some (.normal, T', h') | none => none
    | .seq a b => match codeA P enters callF draw f a T h with
      | some (.normal, T', h') => codeA P enters callF draw f b T' h'
      | r => r
    | .cond c a b => match rhoA T c with
      | .bool true => codeA P enters callF draw f a T h
      | .bool false => codeA P enters callF draw f b T h
      | _ => none
    | .block id c => match codeA P enters callF draw f c T h with
      | some (.exit id', T', h') => if id' = id then some (.normal, T', h') else some (.exit id', T', h')
      | r => r
    | .loop c => match codeA P enters callF draw f c T h with
      | some (.normal, T', h') => codeA P enters callF draw f (.loop c) T' h'
      | r => r
    | .scope c => codeA P enters callF draw f c T h
    | _ => none

def codeOk (G n : Nat) : Code → Bool
  | .region _ ops _ => ops.toList.all (opOk G n)
  | .seq a b => codeOk G n a && codeOk G n b
  | .cond c a b => opndOk G c && codeOk G n a && codeOk G n b
  | .block _ c | .loop c | .scope c => codeOk G n c
  | _ => true

theorem dst_of_ok {G n : Nat} {ops : Array Oper} (h : ops.toList.all (opOk G n) = true) : ∀ (j : Nat) (d : Nat), (ops[j]?).bind (·.dst) = some d → d < n := by
  intro j d e
  cases ho : ops[j]? with
  | none => rw [ho] at e; cases e
  | some o =>
    rw [ho] at e
    simp only [Option.bind_some] at e
    have hm : o ∈ ops.toList := by
      have := Array.mem_of_getElem? ho
      exact Array.mem_toList_iff.2 this
    have := List.all_eq_true.1 h o hm
    unfold opOk at this
    rw [e] at this
    simp only [Bool.and_eq_true, Nat.blt_eq] at this
    exact this.2

theorem runOps_next {G : Nat} {enters : FuncId → FKind} {callF : CallF} (hC : CallSound P G callF) {ops : Array Oper} : ∀ (l : List Oper) (T : Tree Value) (h : AHeap) (T' : Tree Value) (h' : AHeap),
    runOps P enters callF ops l T h = some (T', h') → Nx h h' := by
  intro l
  induction l with
  | nil => intro T h T' h' e; simp only [runOps, Option.some.injEq, Prod.mk.injEq] at e; obtain ⟨_, rfl⟩ := e; exact Nx.refl _
  | cons o l ih =>
    intro T h T' h' e
    simp only [runOps] at e
    split at e
    · rename_i v h2 h1
      exact (stepA_next hC h1).trans (ih _ _ _ _ e)
    · cases e

theorem runOps_sound {B : Base} {G n : Nat} {enters : FuncId → FKind} {callF : CallF} (hE : Enters P enters) (hz : ZF P) (hC : CallSound P G callF) {ops : Array Oper}
    (hd : ∀ (j : Nat) (d : Nat), (ops[j]?).bind (·.dst) = some d → d < n) {Q : Exit → Act → World → Prop} : ∀ (l : List Oper) (T : Tree Value) (h : AHeap) (T' : Tree Value) (h' : AHeap) (m : Mu) (a : Act) (w : World),
    l.all (opOk G n) = true → runOps P enters callF ops l T h = some (T', h') → TRel m n T a.tmps → Rel P B m h w → GRel G m →
    (∀ m' a' w', Ext h m m' → TRel m' n T' a'.tmps → a'.defers = a.defers → Rel P B m' h' w' → Q .normal a' w') → wpList P ops Q l a w := by
  intro l
  induction l with
  | nil =>
    intro T h T' h' m a w _ e hT hr hG hQ
    simp only [runOps, Option.some.injEq, Prod.mk.injEq] at e
    obtain ⟨rfl, rfl⟩ := e
    exact hQ m a w (Ext.refl _ m) hT rfl hr
  | cons o l ih =>
    intro T h T' h' m a w hl e hT hr hG hQ
    simp only [List.all_cons, Bool.and_eq_true] at hl
    simp only [runOps] at e
    split at e
    · rename_i v h2 h1
      have q := stepA_next hC h1
      have hdo : ∀ d, o.dst = some d → d < n := by
        intro d e
        have := hl.1
        unfold opOk at this
        rw [e] at this
        simp only [Bool.and_eq_true, Nat.blt_eq] at this
        exact this.2
      have hs := stepA_sound (B := B) hE hz hC h1 hT hr hG hl.1 hd (Q := Q) (K := wpList P ops Q l) (fun m' v' w' c1 c2 c3 => by
        refine ih _ _ _ _ m' (a.put o.dst v') w' hl.2 e ((hT.mono c1.1).put hdo c3) c2 (hG.mono c1.1) ?_
        intro m2 a2 w2 d1 d2 d3 d4
        refine hQ m2 a2 w2 (c1.trans d1 q.1 q.2.1) d2 (d3.trans ?_) d4
        cases o.dst <;> rfl)
      unfold wpList
      split
      · rename_i hw; rw [if_pos hw] at hs; exact .inl hs
      · rename_i hw; rw [if_neg hw] at hs; exact hs
    · cases e

/-- What is shown of a code by so many rounds. -/
def wpF (P : Program) (f : Nat) (c : Code) (Q : Exit → Act → World → Prop) (a : Act) (w : World) : Prop :=
  match c with
  | .loop c0 => Code.rounds P c0 Q f a w
  | c => c.wp P Q a w
theorem wpF_wp {f : Nat} {c : Code} {Q : Exit → Act → World → Prop} {a : Act} {w : World} (h : wpF P f c Q a w) : c.wp P Q a w := by
  cases c <;> first | exact h | exact wp_loop_rounds f h

theorem codeA_soundF {G n : Nat} {enters : FuncId → FKind} {callF : CallF} {draw : DrawF} (hE : Enters P enters) (hz : ZF P) (hC : CallSound P G callF) (hD : DrawSound P G draw) :
    ∀ (f : Nat) (c : Code) (T : Tree Value) (h : AHeap) (e : AExit) (T' : Tree Value) (h' : AHeap), codeA P enters callF draw f c T h = some (e, T', h') → Nx h h' ∧
    ∀ (B : Base) (m : Mu) (a : Act) (w : World) (Q : Exit → Act → World → Prop), codeOk G n c = true → TRel m n T a.tmps → Rel P B m h w → GRel G m →
    (∀ m' a' w', Ext h m m' → TRel m' n T' a'.tmps → a'.defers = a.defers → Rel P B m' h' w' → Q e.toExit a' w') → wpF P f c Q a w := by
  intro f
  induction f with
  | zero => intro c T h e T' h' he; simp [codeA] at he
  | succ f ih =>
    intro c T h e T' h' he
    simp only [codeA] at he
    split at he
    · simp only [Option.some.injEq, Prod.mk.injEq] at he
      obtain ⟨rfl, rfl, rfl⟩ := he
      exact ⟨Nx.refl _, fun B m a w Q _ hT hr hG hQ => wp_skip (hQ m a w (Ext.refl _ m) hT rfl hr)⟩
    · simp only [Option.some.injEq, Prod.mk.injEq] at he
      obtain ⟨rfl, rfl, rfl⟩ := he
      exact ⟨Nx.refl _, fun B m a w Q _ hT hr hG hQ => wp_label (hQ m a w (Ext.refl _ m) hT rfl hr)⟩
    · simp only [Option.some.injEq, Prod.mk.injEq] at he
      obtain ⟨rfl, rfl, rfl⟩ := he
      exact ⟨Nx.refl _, fun B m a w Q _ hT hr hG hQ => wp_exit (hQ m a w (Ext.refl _ m) hT rfl hr)⟩
    · simp only [Option.some.injEq, Prod.mk.injEq] at he
      obtain ⟨rfl, rfl, rfl⟩ := he
      exact ⟨Nx.refl _, fun B m a w Q _ hT hr hG hQ => wp_ret (hQ m a w (Ext.refl _ m) hT rfl hr)⟩
    · rename_i id ops
      split at he
      · rename_i T2 h2 h1
        simp only [Option.some.injEq, Prod.mk.injEq] at he
        obtain ⟨rfl, rfl, rfl⟩ := he
        exact ⟨runOps_next hC _ _ _ _ _ h1, fun B m a w Q hok hT hr hG hQ => wp_region_list (runOps_sound hE hz hC (dst_of_ok hok) _ _ _ _ _ m a w hok h1 hT hr hG hQ)⟩
      · cases he
    · rename_i id ops
      split at he
      · rename_i T2 h2 h1
        simp only [Option.some.injEq, Prod.mk.injEq] at he
        obtain ⟨rfl, rfl, rfl⟩ := he
        obtain ⟨q1, q2⟩ := hD _ _ _ _ _ h1
        exact ⟨q1, fun B m a w Q hok hT hr hG hQ => q2 B m n id a w Q hok hT hr hG hQ⟩
      · cases he
    · rename_i x y
      split at he
      · rename_i T2 h2 h1
        obtain ⟨q1, q2⟩ := ih _ _ _ _ _ _ h1
        obtain ⟨r1, r2⟩ := ih _ _ _ _ _ _ he
        refine ⟨q1.trans r1, fun B m a w Q hok hT hr hG hQ => wp_seq ?_⟩
        simp only [codeOk, Bool.and_eq_true] at hok
        refine wpF_wp (q2 B m a w _ hok.1 hT hr hG ?_)
        intro m' a' w' c1 c2 c3 c4
        refine wpF_wp (r2 B m' a' w' Q hok.2 c2 c4 (hG.mono c1.1) ?_)
        intro m2 a2 w2 d1 d2 d3 d4
        exact hQ m2 a2 w2 (c1.trans d1 q1.1 q1.2.1) d2 (d3.trans c3) d4
      · rename_i hne
        obtain ⟨q1, q2⟩ := ih _ _ _ _ _ _ he
        refine ⟨q1, fun B m a w Q hok hT hr hG hQ => wp_seq ?_⟩
        simp only [codeOk, Bool.and_eq_true] at hok
        refine wpF_wp (q2 B m a w _ hok.1 hT hr hG ?_)
        intro m' a' w' c1 c2 c3 c4
        have := hQ m' a' w' c1 c2 c3 c4
        cases e with
        | normal => exact absurd he (hne _ _)
        | exit id => exact this
        | ret => exact this
    · rename_i c0 x y
      split at he
      · rename_i hc
        obtain ⟨q1, q2⟩ := ih _ _ _ _ _ _ he
        refine ⟨q1, fun B m a w Q hok hT hr hG hQ => ?_⟩
        simp only [codeOk, Bool.and_eq_true] at hok
        have hb := rho_rel (a := a) hT hG hok.1.1
        rw [hc] at hb
        refine wp_cond_true ?_ (wpF_wp (q2 B m a w Q hok.1.2 hT hr hG hQ))
        generalize a.eval c0 = z at hb ⊢
        cases hb; rfl
      · rename_i hc
        obtain ⟨q1, q2⟩ := ih _ _ _ _ _ _ he
        refine ⟨q1, fun B m a w Q hok hT hr hG hQ => ?_⟩
        simp only [codeOk, Bool.and_eq_true] at hok
        have hb := rho_rel (a := a) hT hG hok.1.1
        rw [hc] at hb
        refine wp_cond_false ?_ (wpF_wp (q2 B m a w Q hok.2 hT hr hG hQ))
        generalize a.eval c0 = z at hb ⊢
        cases hb; rfl
      · cases he
    · rename_i id c0
      split at he
      · rename_i id' T2 h2 h1
        obtain ⟨q1, q2⟩ := ih _ _ _ _ _ _ h1
        split at he
        · rename_i hid
          simp only [Option.some.injEq, Prod.mk.injEq] at he
          obtain ⟨rfl, rfl, rfl⟩ := he
          refine ⟨q1, fun B m a w Q hok hT hr hG hQ => wp_block (wpF_wp (q2 B m a w _ hok hT hr hG ?_))⟩
          intro m' a' w' c1 c2 c3 c4
          simp only [AExit.toExit, Exit.inBlock, hid, if_true]
          exact hQ m' a' w' c1 c2 c3 c4
        · rename_i hid
          simp only [Option.some.injEq, Prod.mk.injEq] at he
          obtain ⟨rfl, rfl, rfl⟩ := he
          refine ⟨q1, fun B m a w Q hok hT hr hG hQ => wp_block (wpF_wp (q2 B m a w _ hok hT hr hG ?_))⟩
          intro m' a' w' c1 c2 c3 c4
          simp only [AExit.toExit, Exit.inBlock, hid, if_false]
          exact hQ m' a' w' c1 c2 c3 c4
      · rename_i hne
        obtain ⟨q1, q2⟩ := ih _ _ _ _ _ _ he
        refine ⟨q1, fun B m a w Q hok hT hr hG hQ => wp_block (wpF_wp (q2 B m a w _ hok hT hr hG ?_))⟩
        intro m' a' w' c1 c2 c3 c4
        have := hQ m' a' w' c1 c2 c3 c4
        cases e with
        | normal => exact this
        | exit id => exact absurd he (hne _ _ _)
        | ret => exact this
    · rename_i c0
      split at he
      · rename_i T2 h2 h1
        obtain ⟨q1, q2⟩ := ih _ _ _ _ _ _ h1
        obtain ⟨r1, r2⟩ := ih _ _ _ _ _ _ he
        refine ⟨q1.trans r1, fun B m a w Q hok hT hr hG hQ => ?_⟩
        show Code.rounds P c0 Q (f + 1) a w
        rw [rounds_succ]
        refine wpF_wp (q2 B m a w _ hok hT hr hG ?_)
        intro m' a' w' c1 c2 c3 c4
        refine r2 B m' a' w' Q hok c2 c4 (hG.mono c1.1) ?_
        intro m2 a2 w2 d1 d2 d3 d4
        exact hQ m2 a2 w2 (c1.trans d1 q1.1 q1.2.1) d2 (d3.trans c3) d4
      · rename_i hne
        obtain ⟨q1, q2⟩ := ih _ _ _ _ _ _ he
        refine ⟨q1, fun B m a w Q hok hT hr hG hQ => ?_⟩
        show Code.rounds P c0 Q (f + 1) a w
        rw [rounds_succ]
        refine wpF_wp (q2 B m a w _ hok hT hr hG ?_)
        intro m' a' w' c1 c2 c3 c4
        have := hQ m' a' w' c1 c2 c3 c4
        cases e with
        | normal => exact absurd he (hne _ _)
        | exit id => exact this
        | ret => exact this
    · rename_i c0
      obtain ⟨q1, q2⟩ := ih _ _ _ _ _ _ he
      refine ⟨q1, fun B m a w Q hok hT hr hG hQ => wp_scope_straight (wpF_wp (q2 B m a w _ hok hT hr hG ?_))⟩
      intro m' a' w' c1 c2 c3 c4
      have := hQ m' a' w' c1 c2 c3 c4
      cases e <;> exact this
    · cases he
end
end Go.Ab
