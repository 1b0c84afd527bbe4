import Derived.Test.YthapjgecggdliaaGreatDoorAbFs
import Derived.RangeFuncLeaves
import Derived.RangeFuncRecord
import Derived.RangeFuncCalls
import Derived.LoopNIn
import Derived.TacticsIn
namespace Go.Ab
open Go Go.RowKit
section
variable {P : Program}

/-! ## Fences that bar nothing -/
structure Wide (P : Program) (F : Fence) : Prop where
  fn : ∀ f, F.fn f
  depth : F.depth = none
  calls : ∀ {n : Nat} {f : FuncId} {args : Array Value} {w : World} {R : Ending → World → Prop}, Calls P f args w R → CallsIn F n P f args w R
theorem wideWide : Wide P Fence.wide := ⟨fun _ => trivial, rfl, fun h => callsIn_wide.2 h⟩
theorem wideRound (l : Nat) : Wide P (Fence.wide.inRound l) := ⟨fun _ => trivial, rfl, fun h => CallsIn.inRound l (callsIn_wide.2 h)⟩

theorem stepIn_sound {F : Fence} (hF : Wide P F) {nn : Nat} {B : Base} {G n : Nat} {enters : FuncId → FKind} {callF : CallF} (hE : Enters P enters) (hz : ZF P) (hC : CallSound P G callF) {ops : Array Oper} {o : Oper} {T : Tree Value} {h h' : AHeap} {v : Value}
    (he : stepA P enters callF ops o T h = some (v, h')) {m : Mu} {a : Act} {w : World} (hT : TRel m n T a.tmps) (hr : Rel P B m h w) (hG : GRel G m) (hok : opOk G n o = true)
    (hd : ∀ (j : Nat) (d : Nat), (ops[j]?).bind (·.dst) = some d → d < n)
    {K : Act → World → Prop} {Q : Exit → Act → World → Prop} (hK : ∀ m' v' w', Ext h m m' → Rel P B m' h' w' → VRel m' v v' → K (a.put o.dst v') w') :
    if Region.wanted o (yielded ops a.tmps) then o.wpIn F nn P a w K Q else (∀ f, o.about P w a.eval = some f → F.fn f) ∧ K (a.put o.dst undef) w := by
  have hw := wanted_eq hT ops o hd
  unfold opOk at hok
  simp only [Bool.and_eq_true] at hok
  have hρ : ∀ x ∈ o.op.operands.toList, VRel m (rhoA T x) (a.eval x) := fun x hx => rho_rel hT hG (List.all_eq_true.1 hok.1 x hx)
  unfold stepA at he
  split at he
  · rename_i h0
    rw [hw, h0, if_pos rfl]
    have hs := opA_sound hE hz (o := o) (ρ := rhoA T) (ρ' := a.eval) hr hρ
    have hnd : ∀ c, o.op ≠ .defer c := by
      intro c hc
      have : opA P enters (rhoA T) o h = none := by unfold opA; rw [hc]
      rw [this] at he
      cases he
    refine ⟨fun f _ => hF.fn f, ?_⟩
    rw [Oper.semAt_eq _ _ _ hnd]
    split at he
    · rename_i x hx h1
      simp only [Option.some.injEq, Prod.mk.injEq] at he
      obtain ⟨rfl, rfl⟩ := he
      obtain ⟨nx, w', m', e1, e2, e3, e4⟩ := hs _ _ h1
      rw [e1]
      cases nx <;> first | exact e4.elim | skip
      exact hK m' _ w' e2 e3 e4
    · rename_i hx h1
      simp only [Option.some.injEq, Prod.mk.injEq] at he
      obtain ⟨rfl, rfl⟩ := he
      obtain ⟨nx, w', m', e1, e2, e3, e4⟩ := hs _ _ h1
      rw [e1]
      cases nx <;> first | exact e4.elim | skip
      exact hK m' _ w' e2 e3 (undef_rel m')
    · rename_i f args h2 h1
      obtain ⟨nx, w', m', e1, e2, e3, e4⟩ := hs _ _ h1
      rw [e1]
      cases nx <;> first | exact e4.elim | skip
      obtain ⟨rfl, e5⟩ := e4
      obtain ⟨_, hcs⟩ := hC _ _ _ _ _ he
      have q := opA_next h1
      refine ⟨(fun h => by rw [hF.depth] at h; cases h), hF.calls ((hcs B m' _ w' e5 e3 (hG.mono e2.1)).mono ?_)⟩
      rintro e w2 ⟨v', m2, rfl, c2, c3, c4⟩
      exact hK m2 v' w2 (e2.trans c2 q.1 q.2.1) c3 c4
    · cases he
  · rename_i h0
    rw [hw, h0]
    simp only [Option.some.injEq, Prod.mk.injEq] at he
    obtain ⟨rfl, rfl⟩ := he
    simp only [Bool.false_eq_true, if_false]
    exact ⟨fun f _ => hF.fn f, hK m undef w (Ext.refl _ m) hr (undef_rel m)⟩

/-! ## Operations that may call 'yield' -/
/-- Stands for 'yield': nothing looks at it. -/
def tokA : Value := .chan (some 7)
def yv (l : Nat) : Value := .func (.yield l) #[] #[]
theorem tok_rel (m : Mu) (l : Nat) : VRel m tokA (yv l) := .any 7 _ (fun _ h => by cases h) (fun _ h => by cases h) (fun _ h => by cases h)
abbrev YF := List Value → AHeap → Option AHeap
def hasT : List Nat → Nat → Bool
  | [], _ => false
  | x :: l, k => match Nat.beq x k with | true => true | false => hasT l k
theorem hasT_cons {x : Nat} {l : List Nat} {k : Nat} (h : hasT (x :: l) k = true) : k = x ∨ hasT l k = true := by
  simp only [hasT] at h
  split at h
  · rename_i e; exact .inl (Nat.eq_of_beq_eq_true e).symm
  · exact .inr h
theorem hasT_tail {x : Nat} {l : List Nat} {k : Nat} (h : hasT l k = true) : hasT (x :: l) k = true := by
  simp only [hasT]
  split
  · rfl
  · exact h
def dstIn (tk : List Nat) (o : Oper) : Bool := match o.dst with | some d => hasT tk d | none => false
inductive YK where
  | move (d : Nat) (k : Nat)
  | call (as : List Operand)
  | plain
/-- What an operation does with 'yield'. -/
def yKind (tk : List Nat) (o : Oper) : YK := match o.guard with
  | some _ => .plain
  | none => match o.op with
    | .move (.tmp k) => (match hasT tk k, o.dst with | true, some d => .move d k | _, _ => .plain)
    | .call c => (match c.callee with | .value (.tmp k) => (match hasT tk k with | true => .call c.args.toList | false => .plain) | _ => .plain)
    | _ => .plain
noncomputable def runY (P : Program) (enters : FuncId → FKind) (CB : CallB) (Y : YF) (ops : Array Oper) : List Oper → List Nat → Tree Value → AHeap → Option (Tree Value × AHeap)
  | [], _, T, h => some (T, h)
  | o :: rest, tk, T, h => match dstIn tk o with
    | true => none
    | false => match yKind tk o with
      | .move d _ => runY P enters CB Y ops rest (d :: tk) ((putB (some d)).un T tokA) h
      | .call as => match Y ((argsB as).un T) h with
        | some h' => runY P enters CB Y ops rest tk ((putB o.dst).un T (.bool true)) h'
        | none => none
      | .plain => match (stepB P enters CB ops o).un T h with
        | some (v, h') => runY P enters CB Y ops rest tk ((putB o.dst).un T v) h'
        | none => none
/-- What is asked of the rounds. -/
def YGood (P : Program) (F : Fence) (G : Nat) (m1 : Mu) (B : Base) (l : Nat) (Y : YF) : Prop := ∀ args h h', Y args h = some h' → Nx h h' ∧
  ∀ (nn : Nat) m args' w, Mu.le m1 m → ARel m ⟨args⟩ args' → Rel P B m h w → GRel G m →
    ∃ f tmps asg bd, (Instr.yield l args').run P w = .ok (.round l f tmps asg bd) w ∧ RoundIn F nn P l f tmps asg bd w (fun e w' => ∃ m', e = .returned (.bool true) ∧ Ext h m m' ∧ Rel P B m' h' w')
theorem noY {F : Fence} {G : Nat} {m1 : Mu} {B : Base} {l : Nat} : YGood P F G m1 B l (fun _ _ => none) := fun _ _ _ h => by cases h
theorem put_keeps {a : Act} {dst : Option Tmp} {v : Value} {k : Nat} (h : dst ≠ some k) : (a.put dst v).tmps[k]? = a.tmps[k]? := by
  cases dst with
  | none => rfl
  | some d =>
    have : d ≠ k := fun e => h (by rw [e])
    simp [Act.put, this]
theorem runY_sound {F : Fence} (hF : Wide P F) {nn : Nat} {B : Base} {G n : Nat} {enters : FuncId → FKind} {CB : CallB} (hE : Enters P enters) (hz : ZF P) (hC : CallSound P G (callOf CB)) {Y : YF} {m1 : Mu} {l : Nat} (hY : YGood P F G m1 B l Y) {ops : Array Oper}
    {Q : Exit → Act → World → Prop} : ∀ (L : List Oper) (tk : List Nat) (T : Tree Value) (h : AHeap) (T' : Tree Value) (h' : AHeap),
    runY P enters CB Y ops L tk T h = some (T', h') → Nx h h' ∧ ((∀ (j : Nat) (d : Nat), (ops[j]?).bind (·.dst) = some d → d < n) → ∀ (m : Mu) (a : Act) (w : World), L.all (opOk G n) = true → Mu.le m1 m → TRel m n T a.tmps → Rel P B m h w → GRel G m → (∀ k, hasT tk k = true → a.tmps[k]? = some (yv l)) →
    (∀ m' a' w', Ext h m m' → TRel m' n T' a'.tmps → a'.defers = a.defers → Rel P B m' h' w' → (∀ k, hasT tk k = true → a'.tmps[k]? = some (yv l)) → Q .normal a' w') → wpListIn F nn P ops Q L a w) := by
  intro L
  induction L with
  | nil =>
    intro tk T h T' h' e
    simp only [runY, Option.some.injEq, Prod.mk.injEq] at e
    obtain ⟨rfl, rfl⟩ := e
    exact ⟨Nx.refl _, fun _ m a w _ _ hT hr hG htk hQ => hQ m a w (Ext.refl _ m) hT rfl hr htk⟩
  | cons o L ih =>
    intro tk T h T' h' e
    simp only [runY] at e
    split at e
    · cases e
    rename_i hdi
    have hne : ∀ k, hasT tk k = true → o.dst ≠ some k := by
      intro k hk hc
      unfold dstIn at hdi
      rw [hc] at hdi
      exact absurd (show hasT tk k = false from hdi) (by rw [hk]; simp)
    have defs : ∀ (a : Act) (v : Value), (a.put o.dst v).defers = a.defers := fun a v => by cases o.dst <;> rfl
    have hdo : opOk G n o = true → ∀ d, o.dst = some d → d < n := by
      intro hok d e
      unfold opOk at hok
      rw [e] at hok
      simp only [Bool.and_eq_true, Nat.blt_eq] at hok
      exact hok.2
    split at e
    · rename_i d k hk
      have hk2 : o.guard = none ∧ o.op = .move (.tmp k) ∧ hasT tk k = true ∧ o.dst = some d := by
        unfold yKind at hk
        split at hk
        · cases hk
        rename_i hg
        split at hk
        · rename_i k' ho
          split at hk
          · rename_i h1 h2
            simp only [YK.move.injEq] at hk
            obtain ⟨rfl, rfl⟩ := hk
            exact ⟨hg, ho, h1, h2⟩
          · cases hk
        · split at hk
          · split at hk <;> cases hk
          · cases hk
        · cases hk
      obtain ⟨g1, g2, g3, g4⟩ := hk2
      obtain ⟨q1, q2⟩ := ih _ _ _ _ _ e
      refine ⟨q1, fun hd m a w hl hle hT hr hG htk hQ => ?_⟩
      simp only [List.all_cons, Bool.and_eq_true] at hl
      unfold wpListIn
      rw [if_pos (by unfold Region.wanted; rw [g1])]
      refine ⟨fun f _ => hF.fn f, ?_⟩
      rw [Oper.semAt_eq _ _ _ (fun c hc => by rw [g2] at hc; cases hc)]
      have hev : a.eval (.tmp k) = yv l := by
        show a.tmps.getD k undef = yv l
        rw [Array.getD_eq_getD_getElem?, htk k g3]; rfl
      have hrun : (execOp a.eval o).run P w = .ok (.value (yv l)) w := by
        unfold execOp
        rw [g2]
        show (Pure.pure (Next.value (a.eval (.tmp k))) : Sem Next).run P w = _
        rw [hev, Sem.run_pure]
      rw [hrun]
      show wpListIn F nn P ops Q L (a.put o.dst (yv l)) w
      have hsz : ∀ k, hasT (d :: tk) k = true → (a.put o.dst (yv l)).tmps[k]? = some (yv l) := by
        intro k' hk'
        rcases hasT_cons hk' with rfl | hk'
        · rw [g4]
          have hlt : k' < a.tmps.size := by rw [hT.size]; exact hdo hl.1 _ g4
          simp [Act.put, hlt]
        · rw [put_keeps (hne k' hk')]; exact htk k' hk'
      refine q2 hd m _ w hl.2 hle ?_ hr hG hsz ?_
      · rw [putB_eq, g4]; exact hT.put (fun d' hd' => by cases hd'; exact hdo hl.1 d g4) (tok_rel m l)
      · intro m' a' w' c1 c2 c3 c4 c5
        exact hQ m' a' w' c1 c2 (c3.trans (defs a _)) c4 (fun k' hk' => c5 k' (hasT_tail hk'))
    · rename_i as hk
      have hk2 : ∃ k c, o.guard = none ∧ o.op = .call c ∧ c.callee = .value (.tmp k) ∧ hasT tk k = true ∧ as = c.args.toList := by
        unfold yKind at hk
        split at hk
        · cases hk
        rename_i hg
        split at hk
        · split at hk <;> cases hk
        · rename_i c ho
          split at hk
          · rename_i k hc
            split at hk
            · rename_i h1
              simp only [YK.call.injEq] at hk
              exact ⟨k, c, hg, ho, hc, h1, hk.symm⟩
            · cases hk
          · cases hk
        · cases hk
      obtain ⟨k, c, g1, g2, g3, g4, rfl⟩ := hk2
      split at e
      · rename_i h2 hy
        obtain ⟨y1, y2⟩ := hY _ _ _ hy
        obtain ⟨q1, q2⟩ := ih _ _ _ _ _ e
        refine ⟨y1.trans q1, fun hd m a w hl hle hT hr hG htk hQ => ?_⟩
        simp only [List.all_cons, Bool.and_eq_true] at hl
        unfold wpListIn
        rw [if_pos (by unfold Region.wanted; rw [g1])]
        refine ⟨fun f _ => hF.fn f, ?_⟩
        rw [Oper.semAt_eq _ _ _ (fun c hc => by rw [g2] at hc; cases hc)]
        have hev : a.eval (.tmp k) = yv l := by
          show a.tmps.getD k undef = yv l
          rw [Array.getD_eq_getD_getElem?, htk k g4]; rfl
        have ha : ARel m ⟨(argsB c.args.toList).un T⟩ (c.args.map a.eval) := by
          rw [argsB_eq]
          refine ⟨by simp, fun i hi hi' => ?_⟩
          simp only [List.getElem_toArray, List.getElem_map, Array.getElem_map, Array.getElem_toList]
          refine rho_rel hT hG ?_
          have hok := hl.1
          unfold opOk at hok
          simp only [Bool.and_eq_true] at hok
          refine List.all_eq_true.1 hok.1 _ ?_
          rw [g2]
          have hlt : i < c.args.size := by simpa using hi'
          have hm : c.args[i] ∈ c.args := Array.getElem_mem hlt
          show _ ∈ (Op.operands (.call c)).toList
          simp only [Op.operands, Call.operands, Array.toList_append, List.mem_append]
          exact .inr (Array.mem_toList_iff.2 hm)
        obtain ⟨f, tmps, asg, bd, hyr, hround⟩ := y2 (nn - 1) m _ w hle ha hr hG
        have hrun : (execOp a.eval o).run P w = .ok (.round l f tmps asg bd) w := by
          unfold execOp
          rw [g2]
          simp only [resolve, g3, hev, yv, Deferred.ofValue, pure_bind, invoke]
          simpa using hyr
        rw [hrun]
        refine ⟨(fun h => by rw [hF.depth] at h; cases h), hround.mono ?_⟩
        rintro e w' ⟨m', rfl, c1, c2⟩
        show wpListIn F nn P ops Q L (a.put o.dst (.bool true)) w'
        refine q2 hd m' _ w' hl.2 (Mu.le_trans hle c1.1) ?_ c2 (hG.mono c1.1) (fun k' hk' => by rw [put_keeps (hne k' hk')]; exact htk k' hk') ?_
        · rw [putB_eq]; exact (hT.mono c1.1).put (hdo hl.1) (.bool true)
        · intro m2 a2 w2 d1 d2 d3 d4 d5
          exact hQ m2 a2 w2 (c1.trans d1 y1.1 y1.2.1) d2 (d3.trans (defs a _)) d4 d5
      · cases e
    · split at e
      · rename_i v h2 h1
        have h1 := stepB_some h1
        have q := stepA_next hC h1
        obtain ⟨q1, q2⟩ := ih _ _ _ _ _ e
        refine ⟨q.trans q1, fun hd m a w hl hle hT hr hG htk hQ => ?_⟩
        simp only [List.all_cons, Bool.and_eq_true] at hl
        have hs := stepIn_sound hF (nn := nn) (B := B) hE hz hC h1 hT hr hG hl.1 hd (Q := Q) (K := wpListIn F nn P ops Q L) (fun m' v' w' c1 c2 c3 => by
          refine q2 hd m' (a.put o.dst v') w' hl.2 (Mu.le_trans hle c1.1) ?_ c2 (hG.mono c1.1) (fun k' hk' => by rw [put_keeps (hne k' hk')]; exact htk k' hk') ?_
          · rw [putB_eq]; exact (hT.mono c1.1).put (hdo hl.1) c3
          · intro m2 a2 w2 d1 d2 d3 d4 d5
            exact hQ m2 a2 w2 (c1.trans d1 q.1 q.2.1) d2 (d3.trans (defs a _)) d4 d5)
        unfold wpListIn
        exact hs
      · cases e

/-! ## Code that may call 'yield' -/
noncomputable def codeY (P : Program) (enters : FuncId → FKind) (CB : CallB) (Y : YF) (K : Nat) (tk : List Nat) : Code → Box (Tree Value → AHeap → RC)
  | .skip => ⟨fun T h => .normal T h⟩
  | .label _ => ⟨fun T h => .normal T h⟩
  | .exit id => ⟨fun T h => .exit id T h⟩
  | .ret => ⟨fun T h => .ret T h⟩
  | .region _ ops false => ⟨fun T h => rcOf (runY P enters CB Y ops ops.toList tk T h)⟩
  | .seq a b => ⟨fun T h => match (codeY P enters CB Y K tk a).un T h with | .normal T' h' => (codeY P enters CB Y K tk b).un T' h' | .none => .none | .exit id T' h' => .exit id T' h' | .ret T' h' => .ret T' h'⟩
  | .cond c a b => ⟨fun T h => vBool ((rdB c).un T) (fun t => match t with | true => (codeY P enters CB Y K tk a).un T h | false => (codeY P enters CB Y K tk b).un T h) .none⟩
  | .block id c => ⟨fun T h => match (codeY P enters CB Y K tk c).un T h with | .exit id' T' h' => (match Nat.beq id' id with | true => .normal T' h' | false => .exit id' T' h') | .none => .none | .normal T' h' => .normal T' h' | .ret T' h' => .ret T' h'⟩
  | .loop c => ⟨fun T h => loopB (codeY P enters CB Y K tk c).un K T h⟩
  | _ => ⟨fun _ _ => .none⟩
def GoodY (P : Program) (F : Fence) (nn G n : Nat) (m1 : Mu) (B : Base) (l : Nat) (tk : List Nat) (c : Code) (T : Tree Value) (h : AHeap) (e : AExit) (T' : Tree Value) (h' : AHeap) : Prop := Nx h h' ∧
  ∀ (m : Mu) (a : Act) (w : World) (Q : Exit → Act → World → Prop), codeOk G n c = true → Mu.le m1 m → TRel m n T a.tmps → Rel P B m h w → GRel G m → (∀ k, hasT tk k = true → a.tmps[k]? = some (yv l)) →
    (∀ m' a' w', Ext h m m' → TRel m' n T' a'.tmps → a'.defers = a.defers → Rel P B m' h' w' → (∀ k, hasT tk k = true → a'.tmps[k]? = some (yv l)) → Q e.toExit a' w') → c.wpIn F nn P Q a w
def RoundsY (P : Program) (F : Fence) (nn G n : Nat) (m1 : Mu) (B : Base) (l : Nat) (tk : List Nat) (c : Code) (k : Nat) (T : Tree Value) (h : AHeap) (e : AExit) (T' : Tree Value) (h' : AHeap) : Prop := Nx h h' ∧
  ∀ (m : Mu) (a : Act) (w : World) (Q : Exit → Act → World → Prop), codeOk G n c = true → Mu.le m1 m → TRel m n T a.tmps → Rel P B m h w → GRel G m → (∀ k, hasT tk k = true → a.tmps[k]? = some (yv l)) →
    (∀ m' a' w', Ext h m m' → TRel m' n T' a'.tmps → a'.defers = a.defers → Rel P B m' h' w' → (∀ k, hasT tk k = true → a'.tmps[k]? = some (yv l)) → Q e.toExit a' w') → Code.roundsIn F nn P c Q k a w
theorem codeY_sound {F : Fence} (hF : Wide P F) {nn G n : Nat} {enters : FuncId → FKind} {CB : CallB} (hE : Enters P enters) (hz : ZF P) (hC : CallSound P G (callOf CB)) {Y : YF} {m1 : Mu} {B : Base} {l : Nat} (hY : YGood P F G m1 B l Y) (K : Nat) {tk : List Nat} :
    ∀ (c : Code) (T : Tree Value) (h : AHeap) (e : AExit) (T' : Tree Value) (h' : AHeap), (codeY P enters CB Y K tk c).un T h = RC.of e T' h' → GoodY P F nn G n m1 B l tk c T h e T' h' := by
  intro c
  induction c with
  | skip =>
    intro T h e T' h' q
    cases e <;> cases q
    exact ⟨Nx.refl _, fun m a w Q _ hle hT hr hG htk hQ => wpIn_skip (hQ m a w (Ext.refl _ m) hT rfl hr htk)⟩
  | label _ =>
    intro T h e T' h' q
    cases e <;> cases q
    exact ⟨Nx.refl _, fun m a w Q _ hle hT hr hG htk hQ => wpIn_label (hQ m a w (Ext.refl _ m) hT rfl hr htk)⟩
  | exit id =>
    intro T h e T' h' q
    cases e <;> cases q
    exact ⟨Nx.refl _, fun m a w Q _ hle hT hr hG htk hQ => wpIn_exit (hQ m a w (Ext.refl _ m) hT rfl hr htk)⟩
  | ret =>
    intro T h e T' h' q
    cases e <;> cases q
    exact ⟨Nx.refl _, fun m a w Q _ hle hT hr hG htk hQ => wpIn_ret (hQ m a w (Ext.refl _ m) hT rfl hr htk)⟩
  | region id ops d =>
    intro T h e T' h' q
    cases d with
    | false =>
      obtain ⟨rfl, h1⟩ := rcOf_some q
      exact ⟨(runY_sound (n := n) (Q := fun _ _ _ => True) hF (nn := nn) hE hz hC hY _ _ _ _ _ _ h1).1, fun m a w Q hok hle hT hr hG htk hQ =>
        wpIn_region_list ((runY_sound hF hE hz hC hY _ _ _ _ _ _ h1).2 (dst_of_ok hok) m a w hok hle hT hr hG htk hQ)⟩
    | true => cases e <;> cases q
  | seq x y ihx ihy =>
    intro T h e T' h' q
    simp only [codeY] at q
    have other : ∀ (e : AExit) (T' : Tree Value) (h' : AHeap), e ≠ .normal → GoodY P F nn G n m1 B l tk x T h e T' h' → GoodY P F nn G n m1 B l tk (.seq x y) T h e T' h' := by
      intro e T' h' hne ⟨q1, q2⟩
      refine ⟨q1, fun m a w Q hok hle hT hr hG htk hQ => wpIn_seq ?_⟩
      simp only [codeOk, Bool.and_eq_true] at hok
      refine q2 m a w _ hok.1 hle hT hr hG htk ?_
      intro m' a' w' c1 c2 c3 c4 c5
      have := hQ m' a' w' c1 c2 c3 c4 c5
      cases e with
      | normal => exact absurd rfl hne
      | exit id => exact this
      | ret => exact this
    split at q
    · rename_i T2 h2 h1
      obtain ⟨q1, q2⟩ := ihx _ _ .normal _ _ h1
      obtain ⟨r1, r2⟩ := ihy _ _ _ _ _ q
      refine ⟨q1.trans r1, fun m a w Q hok hle hT hr hG htk hQ => wpIn_seq ?_⟩
      simp only [codeOk, Bool.and_eq_true] at hok
      refine q2 m a w _ hok.1 hle hT hr hG htk ?_
      intro m' a' w' c1 c2 c3 c4 c5
      refine r2 m' a' w' Q hok.2 (Mu.le_trans hle c1.1) c2 c4 (hG.mono c1.1) c5 ?_
      intro m2 a2 w2 d1 d2 d3 d4 d5
      exact hQ m2 a2 w2 (c1.trans d1 q1.1 q1.2.1) d2 (d3.trans c3) d4 d5
    · cases e <;> cases q
    · rename_i id T2 h2 h1
      cases e <;> cases q
      exact other (.exit id) _ _ (fun h => by cases h) (ihx _ _ (.exit id) _ _ h1)
    · rename_i T2 h2 h1
      cases e <;> cases q
      exact other .ret _ _ (fun h => by cases h) (ihx _ _ .ret _ _ h1)
  | cond c0 x y ihx ihy =>
    intro T h e T' h' q
    simp only [codeY] at q
    obtain ⟨b, hb0, h1⟩ := vBool_rc q
    rw [rdB_eq] at hb0
    cases b with
    | true =>
      obtain ⟨q1, q2⟩ := ihx _ _ _ _ _ h1
      refine ⟨q1, fun m a w Q hok hle hT hr hG htk hQ => ?_⟩
      simp only [codeOk, Bool.and_eq_true] at hok
      have hb := rho_rel (a := a) hT hG hok.1.1
      rw [hb0] at hb
      refine wpIn_cond_true ?_ (q2 m a w Q hok.1.2 hle hT hr hG htk hQ)
      generalize a.eval c0 = z at hb ⊢
      cases hb; rfl
    | false =>
      obtain ⟨q1, q2⟩ := ihy _ _ _ _ _ h1
      refine ⟨q1, fun m a w Q hok hle hT hr hG htk hQ => ?_⟩
      simp only [codeOk, Bool.and_eq_true] at hok
      have hb := rho_rel (a := a) hT hG hok.1.1
      rw [hb0] at hb
      refine wpIn_cond_false ?_ (q2 m a w Q hok.2 hle hT hr hG htk hQ)
      generalize a.eval c0 = z at hb ⊢
      cases hb; rfl
  | block id c0 ih =>
    intro T h e T' h' q
    simp only [codeY] at q
    split at q
    · rename_i id' T2 h2 h1
      obtain ⟨q1, q2⟩ := ih _ _ (.exit id') _ _ h1
      split at q
      · rename_i hid
        rw [Nat.beq_eq] at hid
        cases e <;> cases q
        refine ⟨q1, fun m a w Q hok hle hT hr hG htk hQ => wpIn_block (q2 m a w _ hok hle hT hr hG htk ?_)⟩
        intro m' a' w' c1 c2 c3 c4 c5
        simp only [AExit.toExit, Exit.inBlock, hid, if_true]
        exact hQ m' a' w' c1 c2 c3 c4 c5
      · rename_i hid
        have hid' : id' ≠ id := by intro h; rw [h] at hid; simp at hid
        cases e <;> cases q
        refine ⟨q1, fun m a w Q hok hle hT hr hG htk hQ => wpIn_block (q2 m a w _ hok hle hT hr hG htk ?_)⟩
        intro m' a' w' c1 c2 c3 c4 c5
        simp only [AExit.toExit, Exit.inBlock, hid', if_false]
        exact hQ m' a' w' c1 c2 c3 c4 c5
    · cases e <;> cases q
    · rename_i T2 h2 h1
      cases e <;> cases q
      obtain ⟨q1, q2⟩ := ih _ _ .normal _ _ h1
      refine ⟨q1, fun m a w Q hok hle hT hr hG htk hQ => wpIn_block (q2 m a w _ hok hle hT hr hG htk ?_)⟩
      intro m' a' w' c1 c2 c3 c4 c5
      exact hQ m' a' w' c1 c2 c3 c4 c5
    · rename_i T2 h2 h1
      cases e <;> cases q
      obtain ⟨q1, q2⟩ := ih _ _ .ret _ _ h1
      refine ⟨q1, fun m a w Q hok hle hT hr hG htk hQ => wpIn_block (q2 m a w _ hok hle hT hr hG htk ?_)⟩
      intro m' a' w' c1 c2 c3 c4 c5
      exact hQ m' a' w' c1 c2 c3 c4 c5
  | loop c0 ih =>
    intro T h e T' h' q
    have key : ∀ (k : Nat) (T : Tree Value) (h : AHeap) (e : AExit) (T' : Tree Value) (h' : AHeap), loopB (codeY P enters CB Y K tk c0).un k T h = RC.of e T' h' → RoundsY P F nn G n m1 B l tk c0 k T h e T' h' := by
      intro k
      induction k with
      | zero => intro T h e T' h' q; cases e <;> cases q
      | succ k ihk =>
        intro T h e T' h' q
        have other : ∀ (e : AExit) (T' : Tree Value) (h' : AHeap), e ≠ .normal → GoodY P F nn G n m1 B l tk c0 T h e T' h' → RoundsY P F nn G n m1 B l tk c0 (k + 1) T h e T' h' := by
          intro e T' h' hne ⟨q1, q2⟩
          refine ⟨q1, fun m a w Q hok hle hT hr hG htk hQ => ?_⟩
          rw [roundsIn_succ]
          refine q2 m a w _ hok hle hT hr hG htk ?_
          intro m' a' w' c1 c2 c3 c4 c5
          have := hQ m' a' w' c1 c2 c3 c4 c5
          cases e with
          | normal => exact absurd rfl hne
          | exit id => exact this
          | ret => exact this
        have q' : (match (codeY P enters CB Y K tk c0).un T h with | .normal T' h' => loopB (codeY P enters CB Y K tk c0).un k T' h' | .none => .none | .exit id T' h' => .exit id T' h' | .ret T' h' => .ret T' h') = RC.of e T' h' := q
        split at q'
        · rename_i T2 h2 h1
          obtain ⟨q1, q2⟩ := ih _ _ .normal _ _ h1
          obtain ⟨r1, r2⟩ := ihk _ _ _ _ _ q'
          refine ⟨q1.trans r1, fun m a w Q hok hle hT hr hG htk hQ => ?_⟩
          rw [roundsIn_succ]
          refine q2 m a w _ hok hle hT hr hG htk ?_
          intro m' a' w' c1 c2 c3 c4 c5
          refine r2 m' a' w' Q hok (Mu.le_trans hle c1.1) c2 c4 (hG.mono c1.1) c5 ?_
          intro m2 a2 w2 d1 d2 d3 d4 d5
          exact hQ m2 a2 w2 (c1.trans d1 q1.1 q1.2.1) d2 (d3.trans c3) d4 d5
        · cases e <;> cases q'
        · rename_i id T2 h2 h1
          cases e <;> cases q'
          exact other (.exit id) _ _ (fun h => by cases h) (ih _ _ (.exit id) _ _ h1)
        · rename_i T2 h2 h1
          cases e <;> cases q'
          exact other .ret _ _ (fun h => by cases h) (ih _ _ .ret _ _ h1)
    obtain ⟨q1, q2⟩ := key K T h e T' h' q
    exact ⟨q1, fun m a w Q hok hle hT hr hG htk hQ => wpIn_loop_rounds K (q2 m a w Q hok hle hT hr hG htk hQ)⟩
  | _ =>
    intro T h e T' h' q
    cases e <;> cases q
end
end Go.Ab
