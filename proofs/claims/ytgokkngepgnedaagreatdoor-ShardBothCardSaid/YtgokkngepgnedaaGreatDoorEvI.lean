/- The evaluator over an abstract memory, proved sound: part 9. -/
import Derived.Test.YtgokkngepgnedaaGreatDoorEvH
namespace Go.Ab
open Go Go.RowKit
section
variable {P : Program} {B : Base}

/-! ## Functions whose deferred calls recover a panic -/
def slotOf : ResultVar → Nat
  | .tmp t => t
  | .cell t _ => t
def rsOk (ex : List Nat) : List ResultVar → Bool
  | [] => true
  | r :: rs => !inX ex (slotOf r) && rsOk ex rs
theorem TRelX.mono {m m' : Mu} {n : Nat} {ex : List Nat} {T : Tree Value} {tmps : Array Value} (h : TRelX m n ex T tmps) (hm : Mu.le m m') : TRelX m' n ex T tmps := ⟨h.size, fun t ht => (h.rel t ht).mono hm⟩
theorem resX_sound {m : Mu} {n : Nat} {ex : List Nat} {h : AHeap} {w : World} {T : Tree Value} {a : Act} (hr : Rel P B m h w) (hT : TRelX m n ex T a.tmps) {f : ResultVar → Sem Value}
    (hf1 : ∀ t, f (.tmp t) = pure (a.tmps.getD t undef)) (hf2 : ∀ x t, f (.cell x t) = do loadVar t (← asAddr (a.tmps.getD x undef))) :
    ∀ (rs : List ResultVar) (vs : List Value), rsOk ex rs = true → resA P h T rs = some vs → ∃ vs', (rs.mapM f).run P w = .ok vs' w ∧ ARel m vs.toArray vs'.toArray := by
  intro rs
  induction rs with
  | nil =>
    intro vs _ he
    simp only [resA, Option.some.injEq] at he
    subst he
    exact ⟨[], rfl, ARel.empty⟩
  | cons r rs ih =>
    have cons : ∀ (v v' : Value) (l l' : List Value), VRel m v v' → ARel m l.toArray l'.toArray → ARel m (v :: l).toArray (v' :: l').toArray := by
      intro v v' l l' hv hl
      have e1 : (v :: l).toArray = #[v] ++ l.toArray := by simp
      have e2 : (v' :: l').toArray = #[v'] ++ l'.toArray := by simp
      rw [e1, e2]; exact (ARel.single hv).append hl
    intro vs hok he
    simp only [rsOk, Bool.and_eq_true, Bool.not_eq_true'] at hok
    cases r with
    | tmp t =>
      simp only [resA] at he
      split at he <;> try (cases he; done)
      rename_i l hl
      obtain rfl := Option.some.inj he
      obtain ⟨l', h1, h2⟩ := ih l hok.2 hl
      refine ⟨a.tmps.getD t undef :: l', ?_, cons _ _ _ _ (hT.rel t hok.1) h2⟩
      rw [List.mapM_cons, hf1]
      simp only [pure_bind, Sem.run_bind, h1, Result.andThen_ok, Sem.run_pure]
    | cell x t =>
      simp only [resA] at he
      split at he <;> try (cases he; done)
      rename_i v l hv hl
      obtain rfl := Option.some.inj he
      obtain ⟨l', h1, h2⟩ := ih l hok.2 hl
      obtain ⟨v', q1, q2⟩ := loadA_sound hr (hT.rel x hok.1) hv
      refine ⟨v' :: l', ?_, cons _ _ _ _ q2 h2⟩
      rw [List.mapM_cons, hf2, Sem.run_bind, q1, Result.andThen_ok, Sem.run_bind, h1]
      rfl

theorem resultsX_sound {m : Mu} {n : Nat} {ex : List Nat} {h : AHeap} {w : World} {T : Tree Value} {a : Act} (hr : Rel P B m h w) (hT : TRelX m n ex T a.tmps) {fn : Func} {vs : List Value} (hok : rsOk ex fn.results.toList = true)
    (he : resA P h T fn.results.toList = some vs) : ∃ v', (results fn a.tmps).run P w = .ok v' w ∧ VRel m (oneA vs) v' := by
  obtain ⟨vs', h1, h2⟩ := resX_sound (a := a) hr hT (f := fun
    | .tmp t => pure (a.tmps.getD t undef)
    | .cell x t => do loadVar t (← asAddr (a.tmps.getD x undef))) (fun _ => rfl) (fun _ _ => rfl) fn.results.toList vs hok he
  have e : (fn.results.mapM (m := Sem) fun
    | .tmp t => pure (a.tmps.getD t undef)
    | .cell x t => do loadVar t (← asAddr (a.tmps.getD x undef))).run P w = .ok vs'.toArray w := by
    rw [Array.mapM_eq_mapM_toList, Sem.run_map, h1]; rfl
  refine ⟨if h : vs'.toArray.size = 1 then vs'.toArray[0] else .tuple vs'.toArray, ?_, ?_⟩
  · unfold results
    rw [Sem.run_bind]
    exact (congrArg (fun r : Result (Array Value) => r.andThen fun vs w => (pure (if h : vs.size = 1 then vs[0] else .tuple vs) : Sem Value).run P w) e).trans rfl
  · have hs := h2.1
    simp only [List.size_toArray] at hs
    match vs, vs', hs, h2 with
    | [], [], _, h2 => exact .tuple _ _ h2.1 h2.2
    | [v], [v'], _, h2 => exact h2.2 0 (by simp) (by simp)
    | v :: u :: l, v' :: u' :: l', _, h2 => simp only [oneA]; rw [dif_neg (by simp)]; exact .tuple _ _ h2.1 h2.2

noncomputable def opsDP (P : Program) (enters : FuncId → FKind) (CB : CallB) (PB : PanF) (ops : Array Oper) : List Oper → Tree Value → AHeap → List DCall → Option (PO × List DCall)
  | [], _, _, _ => none
  | o :: rest, T, h, ds => match deferOf o with
    | some (f, as) => match (rdB f).un T with
      | .func (.func g) first cap => opsDP P enters CB PB ops rest ((putB o.dst).un T undef) h (⟨g, cap, appV first ((argsB as).un T)⟩ :: ds)
      | _ => none
    | none => match (stepB P enters CB ops o).un T h with
      | some (v, h') => opsDP P enters CB PB ops rest ((putB o.dst).un T v) h' ds
      | none => match panOp enters PB o T h with
        | some (v, h') => some (⟨v, T, [], h'⟩, ds)
        | none => none
theorem opsDP_next {G : Nat} {enters : FuncId → FKind} {CB : CallB} {PB : PanF} (hC : CallSound P G (callOf CB)) (hP : PanicSound P G PB) {ops : Array Oper} : ∀ (L : List Oper) (T : Tree Value) (h : AHeap) (ds : List DCall) (r : PO) (ds' : List DCall),
    opsDP P enters CB PB ops L T h ds = some (r, ds') → Nx h r.h := by
  intro L
  induction L with
  | nil => intro T h ds r ds' e; cases e
  | cons o L ih =>
    intro T h ds r ds' e
    simp only [opsDP] at e
    split at e
    · split at e
      · exact ih _ _ _ _ _ e
      · cases e
    · split at e
      · rename_i v h2 h1
        exact (stepA_next hC (stepB_some h1)).trans (ih _ _ _ _ _ e)
      · split at e
        · rename_i v h2 h1; cases e; exact panOp_next hP h1
        · cases e
theorem opsDP_sound {B : Base} {G n : Nat} {enters : FuncId → FKind} {CB : CallB} {PB : PanF} (hE : Enters P enters) (hz : ZF P) (hC : CallSound P G (callOf CB)) (hP : PanicSound P G PB) {ops : Array Oper}
    (hd : ∀ (j : Nat) (d : Nat), (ops[j]?).bind (·.dst) = some d → d < n) {Q : Exit → Act → World → Prop} : ∀ (L : List Oper) (T : Tree Value) (h : AHeap) (ds : List DCall) (r : PO) (ds' : List DCall) (m : Mu) (a : Act) (w : World),
    L.all (opOk G n) = true → opsDP P enters CB PB ops L T h ds = some (r, ds') → TRel m n T a.tmps → Rel P B m h w → GRel G m → DRel m ds a.defers →
    (∀ m' a' w' v', Ext h m m' → TRelX m' n r.ex r.T a'.tmps → DRel m' ds' a'.defers → Rel P B m' r.h w' → VRel m' r.v v' → Q (.panic [{ v := v', recovered := false }]) a' w') → wpList P ops Q L a w := by
  intro L
  induction L with
  | nil => intro T h ds r ds' m a w _ e; cases e
  | cons o L ih =>
    intro T h ds r ds' m a w hl e hT hr hG hds hQ
    simp only [List.all_cons, Bool.and_eq_true] at hl
    have hdo : ∀ d, o.dst = some d → d < n := by
      intro d e
      have := hl.1
      unfold opOk at this
      rw [e] at this
      simp only [Bool.and_eq_true, Nat.blt_eq] at this
      exact this.2
    have hρ : ∀ x ∈ o.op.operands.toList, VRel m (rhoA T x) (a.eval x) := fun x hx => by
      have := hl.1
      unfold opOk at this
      simp only [Bool.and_eq_true] at this
      exact rho_rel hT hG (List.all_eq_true.1 this.1 x hx)
    simp only [opsDP] at e
    split at e
    · rename_i f as hdf
      have hk2 : ∃ c, o.guard = none ∧ o.op = .defer c ∧ c.callee = .value f ∧ as = c.args.toList := by
        unfold deferOf at hdf
        split at hdf
        · cases hdf
        rename_i hg
        split at hdf
        · rename_i c ho
          split at hdf
          · rename_i f' hc
            simp only [Option.some.injEq, Prod.mk.injEq] at hdf
            obtain ⟨rfl, rfl⟩ := hdf
            exact ⟨c, hg, ho, hc, rfl⟩
          · cases hdf
        · cases hdf
      obtain ⟨c, g1, g2, g3, rfl⟩ := hk2
      split at e
      · rename_i g first cap hv
        rw [rdB_eq] at hv
        have hf := hρ f (by rw [g2]; simp [Op.operands, Call.operands, g3])
        rw [hv] at hf
        obtain ⟨first', cap', hev, hfi, hca⟩ : ∃ first' cap', a.eval f = .func (.func g) first' cap' ∧ ARel m first first' ∧ ARel m cap cap' := by
          generalize a.eval f = z at hf
          cases hf with
          | func f a a' c c' h1 h2 h3 h4 => exact ⟨_, _, rfl, ⟨h1, h2⟩, ⟨h3, h4⟩⟩
        have ha : ARel m (appV first ((argsB c.args.toList).un T)) (first' ++ c.args.map a.eval) := by
          rw [appV_eq, argsB_eq]
          refine ⟨by simp [hfi.1], fun i hi hi' => ?_⟩
          rw [Array.getElem_append, Array.getElem_append]
          by_cases hlt : i < first.size
          · rw [dif_pos hlt, dif_pos (by rw [← hfi.1]; exact hlt)]
            exact hfi.2 i _ _
          · rw [dif_neg hlt, dif_neg (by rw [← hfi.1]; exact hlt)]
            simp only [List.getElem_toArray, List.getElem_map, Array.getElem_map, Array.getElem_toList, hfi.1]
            refine hρ _ ?_
            rw [g2]
            simp only [Op.operands, Call.operands, Array.toList_append, List.mem_append]
            exact .inr (Array.mem_toList_iff.2 (Array.getElem_mem _))
        unfold wpList
        rw [if_pos (by unfold Region.wanted; rw [g1])]
        refine .inl ?_
        unfold Oper.wp
        have hrun : (execOp a.eval o).run P w = .ok (.defer { target := .fn (.func g) cap', args := first' ++ c.args.map a.eval }) w := by
          unfold execOp
          rw [g2]
          simp only [resolve, g3, hev, Deferred.ofValue, pure_bind, Sem.run_pure]
        rw [hrun, Oper.upon_defer]
        refine ih _ _ _ _ _ m _ w hl.2 e ?_ hr hG ?_ ?_
        · rw [putB_eq]
          exact TRel.put (a := { a with defers := { target := .fn (.func g) cap', args := first' ++ c.args.map a.eval } :: a.defers }) hT hdo (undef_rel m)
        · have : ({ a with defers := { target := .fn (.func g) cap', args := first' ++ c.args.map a.eval } :: a.defers }.put o.dst undef : Act).defers = { target := .fn (.func g) cap', args := first' ++ c.args.map a.eval } :: a.defers := by
            cases o.dst <;> rfl
          rw [this]
          exact ⟨⟨cap', _, rfl, hca, ha⟩, hds⟩
        · exact hQ
      · cases e
    · split at e
      · rename_i v h2 h1
        have h1 := stepB_some h1
        have q := stepA_next hC h1
        have hs := stepA_sound (B := B) hE hz hC h1 hT hr hG hl.1 hd (Q := Q) (K := wpList P ops Q L) (fun m' v' w' c1 c2 c3 => by
          refine ih _ _ _ _ _ m' (a.put o.dst v') w' hl.2 e ?_ c2 (hG.mono c1.1) ?_ ?_
          · rw [putB_eq]; exact (hT.mono c1.1).put hdo c3
          · have : (a.put o.dst v').defers = a.defers := by cases o.dst <;> rfl
            rw [this]
            exact hds.mono c1.1
          · intro m2 a2 w2 v2 d1 d2 d3 d4 d5
            exact hQ m2 a2 w2 v2 (c1.trans d1 q.1 q.2.1) d2 d3 d4 d5)
        unfold wpList
        split
        · rename_i hw; rw [if_pos hw] at hs; exact .inl hs
        · rename_i hw; rw [if_neg hw] at hs; exact hs
      · split at e
        · rename_i v h2 h1
          cases e
          obtain ⟨hg, hs⟩ := panOp_sound (B := B) hE hP h1 hT hr hG hl.1 (K := wpList P ops Q L) (Q := Q) fun m' w' v' c1 c2 c3 => hQ m' a w' v' c1 ((hT.mono c1.1).toX []) (hds.mono c1.1) c2 c3
          unfold wpList
          rw [if_pos (by unfold Region.wanted; rw [hg])]
          exact .inl hs
        · cases e

noncomputable def codeDP (P : Program) (enters : FuncId → FKind) (CB : CallB) (DB : DrawB) (PB : PanF) (DP : DrawP) (K : Nat) : Code → Box (Tree Value → AHeap → List DCall → Option (PO × List DCall))
  | .region _ ops false => ⟨fun T h ds => opsDP P enters CB PB ops ops.toList T h ds⟩
  | .seq a b => ⟨fun T h ds => match (codeD P enters CB DB K a).un T h ds with | .normal T' h' ds' => (codeDP P enters CB DB PB DP K b).un T' h' ds' | .none => (codeDP P enters CB DB PB DP K a).un T h ds | _ => none⟩
  | .cond c a b => ⟨fun T h ds => match (rdB c).un T with | .bool true => (codeDP P enters CB DB PB DP K a).un T h ds | .bool false => (codeDP P enters CB DB PB DP K b).un T h ds | _ => none⟩
  | c => ⟨fun T h ds => match (codeP P enters CB DB PB DP K c).un T h with | some r => some (r, ds) | none => none⟩
def GoodDP (P : Program) (G n : Nat) (c : Code) (T : Tree Value) (h : AHeap) (ds : List DCall) (r : PO) (ds' : List DCall) : Prop := Nx h r.h ∧
  ∀ (B : Base) (m : Mu) (a : Act) (w : World) (Q : Exit → Act → World → Prop), codeOk G n c = true → TRel m n T a.tmps → Rel P B m h w → GRel G m → DRel m ds a.defers →
    (∀ m' a' w' v', Ext h m m' → TRelX m' n r.ex r.T a'.tmps → DRel m' ds' a'.defers → Rel P B m' r.h w' → VRel m' r.v v' → Q (.panic [{ v := v', recovered := false }]) a' w') → c.wp P Q a w
theorem codeDP_sound {G n : Nat} {enters : FuncId → FKind} {CB : CallB} {DB : DrawB} {PB : PanF} {DP : DrawP} (hE : Enters P enters) (hz : ZF P) (hC : CallSound P G (callOf CB)) (hD : DrawGood P G (fun ops T h => (DB ops).un T h)) (hP : PanicSound P G PB) (hDP : DrawPGood P G DP) (K : Nat) :
    ∀ (c : Code), plansOk P c = true → ∀ (T : Tree Value) (h : AHeap) (ds : List DCall) (r : PO) (ds' : List DCall), (codeDP P enters CB DB PB DP K c).un T h ds = some (r, ds') → GoodDP P G n c T h ds r ds' := by
  have plain : ∀ (c : Code), plansOk P c = true → ∀ (T : Tree Value) (h : AHeap) (ds : List DCall) (r : PO) (ds' : List DCall), (match (codeP P enters CB DB PB DP K c).un T h with | some r => some (r, ds) | none => none) = some (r, ds') → GoodDP P G n c T h ds r ds' := by
    intro c hpl T h ds r ds' q
    split at q
    · rename_i r0 q0
      cases q
      obtain ⟨q1, q2⟩ := codeP_sound (n := n) hE hz hC hD hP hDP K c hpl _ _ _ q0
      refine ⟨q1, fun B m a w Q hok hT hr hG hds hQ => q2 B m a w Q hok hT hr hG fun m' a' w' v' c1 c2 c3 c4 c5 => hQ m' a' w' v' c1 c2 ?_ c4 c5⟩
      rw [c3]
      exact hds.mono c1.1
    · cases q
  intro c
  induction c with
  | region id ops d =>
    intro hpl T h ds r ds' q
    cases d with
    | true => exact plain _ hpl _ _ _ _ _ q
    | false =>
      have q' : opsDP P enters CB PB ops ops.toList T h ds = some (r, ds') := q
      exact ⟨opsDP_next hC hP _ _ _ _ _ _ q', fun B m a w Q hok hT hr hG hds hQ => wp_region_list (opsDP_sound hE hz hC hP (dst_of_ok hok) _ _ _ _ _ _ m a w hok q' hT hr hG hds hQ)⟩
  | seq x y ihx ihy =>
    intro hpl T h ds r ds' q
    simp only [plansOk, Bool.and_eq_true] at hpl
    simp only [codeDP] at q
    split at q
    · rename_i T2 h2 ds2 h1
      obtain ⟨q1, q2⟩ := codeD_sound (n := n) hE hz hC hD K x hpl.1 _ _ _ .normal _ _ _ h1
      obtain ⟨r1, r2⟩ := ihy hpl.2 _ _ _ _ _ q
      refine ⟨q1.trans r1, fun B m a w Q hok hT hr hG hds hQ => wp_seq ?_⟩
      simp only [codeOk, Bool.and_eq_true] at hok
      refine q2 B m a w _ hok.1 hT hr hG hds ?_
      intro m' a' w' c1 c2 c3 c4
      refine r2 B m' a' w' Q hok.2 c2 c4 (hG.mono c1.1) c3 ?_
      intro m2 a2 w2 v2 d1 d2 d3 d4 d5
      exact hQ m2 a2 w2 v2 (c1.trans d1 q1.1 q1.2.1) d2 d3 d4 d5
    · obtain ⟨q1, q2⟩ := ihx hpl.1 _ _ _ _ _ q
      refine ⟨q1, fun B m a w Q hok hT hr hG hds hQ => wp_seq ?_⟩
      simp only [codeOk, Bool.and_eq_true] at hok
      exact q2 B m a w _ hok.1 hT hr hG hds fun m2 a2 w2 v2 d1 d2 d3 d4 d5 => hQ m2 a2 w2 v2 d1 d2 d3 d4 d5
    · cases q
  | cond c0 x y ihx ihy =>
    intro hpl T h ds r ds' q
    simp only [plansOk, Bool.and_eq_true] at hpl
    simp only [codeDP] at q
    split at q
    · rename_i hb0
      rw [rdB_eq] at hb0
      obtain ⟨q1, q2⟩ := ihx hpl.1 _ _ _ _ _ q
      refine ⟨q1, fun B m a w Q hok hT hr hG hds hQ => ?_⟩
      simp only [codeOk, Bool.and_eq_true] at hok
      have hb := rho_rel (a := a) hT hG hok.1.1
      rw [hb0] at hb
      refine wp_cond_true ?_ (q2 B m a w Q hok.1.2 hT hr hG hds hQ)
      generalize a.eval c0 = z at hb ⊢
      cases hb; rfl
    · rename_i hb0
      rw [rdB_eq] at hb0
      obtain ⟨q1, q2⟩ := ihy hpl.2 _ _ _ _ _ q
      refine ⟨q1, fun B m a w Q hok hT hr hG hds hQ => ?_⟩
      simp only [codeOk, Bool.and_eq_true] at hok
      have hb := rho_rel (a := a) hT hG hok.1.1
      rw [hb0] at hb
      refine wp_cond_false ?_ (q2 B m a w Q hok.2 hT hr hG hds hQ)
      generalize a.eval c0 = z at hb ⊢
      cases hb; rfl
    · cases q
  | _ => intro hpl T h ds r ds' q; exact plain _ hpl _ _ _ _ _ q
/-! ### The call that recovers -/
/-- The first 'recover' gives the panic's value. -/
noncomputable def opsV (P : Program) (enters : FuncId → FKind) (CB : CallB) (ops : Array Oper) (v : Value) : List Oper → Tree Value → AHeap → Option (Tree Value × AHeap)
  | [], _, _ => none
  | o :: rest, T, h => match isRec o with
    | true => opsR P enters CB ops rest ((putB o.dst).un T v) h
    | false => match (stepB P enters CB ops o).un T h with
      | some (v', h') => opsV P enters CB ops v rest ((putB o.dst).un T v') h'
      | none => none
theorem opsV_next {G : Nat} {enters : FuncId → FKind} {CB : CallB} (hC : CallSound P G (callOf CB)) {ops : Array Oper} {v : Value} : ∀ (L : List Oper) (T : Tree Value) (h : AHeap) (T' : Tree Value) (h' : AHeap),
    opsV P enters CB ops v L T h = some (T', h') → Nx h h' := by
  intro L
  induction L with
  | nil => intro T h T' h' e; cases e
  | cons o L ih =>
    intro T h T' h' e
    simp only [opsV] at e
    split at e
    · exact opsR_next hC _ _ _ _ _ e
    · split at e
      · rename_i v h2 h1
        exact (stepA_next hC (stepB_some h1)).trans (ih _ _ _ _ e)
      · cases e
theorem opsV_sound {B : Base} {G n : Nat} {enters : FuncId → FKind} {CB : CallB} (hE : Enters P enters) (hz : ZF P) (hC : CallSound P G (callOf CB)) {ops : Array Oper} {cs cs' : List Frame} {v v' : Value} (hcs : recoverD cs = some (v', cs')) (hcs' : recoverD cs' = none)
    (hd : ∀ (j : Nat) (d : Nat), (ops[j]?).bind (·.dst) = some d → d < n) {Q : Exit → Act → List Frame → World → Prop} : ∀ (L : List Oper) (i : Nat) (T : Tree Value) (h : AHeap) (T' : Tree Value) (h' : AHeap) (m : Mu) (a : Act) (w : World),
    (∀ j, L[j]? = ops[i + j]?) → L.all (opOk G n) = true → opsV P enters CB ops v L T h = some (T', h') → VRel m v v' → TRel m n T a.tmps → Rel P B m h w → GRel G m →
    (∀ m' a' w', Ext h m m' → TRel m' n T' a'.tmps → a'.defers = a.defers → Rel P B m' h' w' → Q .normal a' cs' w') → wpOpsS P ops Q (List.range' i L.length) a cs w := by
  intro L
  induction L with
  | nil => intro i T h T' h' m a w _ _ e; cases e
  | cons o L ih =>
    intro i T h T' h' m a w hj hl e hvv hT hr hG hQ
    simp only [List.all_cons, Bool.and_eq_true] at hl
    have hdo : ∀ d, o.dst = some d → d < n := by
      intro d e
      have := hl.1
      unfold opOk at this
      rw [e] at this
      simp only [Bool.and_eq_true, Nat.blt_eq] at this
      exact this.2
    have hoi : ops[i]? = some o := by have := hj 0; simpa using this.symm
    have hj' : ∀ j, L[j]? = ops[(i + 1) + j]? := fun j => by have := hj (j + 1); simp at this; rw [this]; congr 1; omega
    have defs : ∀ (v : Value), (a.put o.dst v).defers = a.defers := fun v => by cases o.dst <;> rfl
    rw [List.length_cons, List.range'_succ]
    simp only [wpOpsS, hoi]
    simp only [opsV] at e
    split at e
    · rename_i hrec
      have hk2 : ∃ c, o.guard = none ∧ o.op = .call c ∧ c.callee = .builtin .recover ∧ c.args = #[] := by
        unfold isRec at hrec
        split at hrec
        · cases hrec
        rename_i hg
        split at hrec
        · rename_i c ho
          split at hrec
          · rename_i hc
            exact ⟨c, hg, ho, hc, Array.isEmpty_iff.1 hrec⟩
          · cases hrec
        · cases hrec
      obtain ⟨c, g1, g2, g3, g4⟩ := hk2
      rw [if_pos (by unfold Region.wanted; rw [g1])]
      have hrun : (execOp a.eval o).run P w = .ok .recover w := by
        unfold execOp
        rw [g2]
        simp only [resolve, g3, pure_bind, invoke, builtin, Sem.run_pure]
      rw [hrun]
      dsimp only
      rw [hcs]
      dsimp only
      refine opsR_sound hE hz hC hcs' hd L (i + 1) _ _ _ _ m _ w hj' hl.2 e ?_ hr hG ?_
      · rw [putB_eq]; exact hT.put hdo hvv
      · intro m' a' w' c1 c2 c3 c4
        exact hQ m' a' w' c1 c2 (c3.trans (defs _)) c4
    · split at e
      · rename_i vx h2 h1
        have h1 := stepB_some h1
        have q := stepA_next hC h1
        have fin : ∀ (m' : Mu) (v' : Value) (w' : World), Ext h m m' → Rel P B m' h2 w' → VRel m' vx v' → wpOpsS P ops Q (List.range' (i + 1) L.length) (a.put o.dst v') cs w' := fun m' v' w' c1 c2 c3 => by
          refine ih _ _ _ _ _ m' (a.put o.dst v') w' hj' hl.2 e (hvv.mono c1.1) ?_ c2 (hG.mono c1.1) ?_
          · rw [putB_eq]; exact (hT.mono c1.1).put hdo c3
          · intro m2 a2 w2 d1 d2 d3 d4
            exact hQ m2 a2 w2 (c1.trans d1 q.1 q.2.1) d2 (d3.trans (defs _)) d4
        have hw := wanted_eq hT ops o hd
        have hok := hl.1
        unfold opOk at hok
        simp only [Bool.and_eq_true] at hok
        have hρ : ∀ x ∈ o.op.operands.toList, VRel m (rhoA T x) (a.eval x) := fun x hx => rho_rel hT hG (List.all_eq_true.1 hok.1 x hx)
        unfold stepA at h1
        split at h1
        · rename_i h0
          rw [hw, h0, if_pos rfl]
          have hs := opA_sound hE hz (o := o) (ρ := rhoA T) (ρ' := a.eval) hr hρ
          split at h1
          · rename_i x hx h3
            simp only [Option.some.injEq, Prod.mk.injEq] at h1
            obtain ⟨rfl, rfl⟩ := h1
            obtain ⟨nx, w', m', e1, e2, e3, e4⟩ := hs _ _ h3
            rw [e1]
            cases nx <;> first | exact e4.elim | skip
            exact fin m' _ w' e2 e3 e4
          · rename_i hx h3
            simp only [Option.some.injEq, Prod.mk.injEq] at h1
            obtain ⟨rfl, rfl⟩ := h1
            obtain ⟨nx, w', m', e1, e2, e3, e4⟩ := hs _ _ h3
            rw [e1]
            cases nx <;> first | exact e4.elim | skip
            exact fin m' _ w' e2 e3 (undef_rel m')
          · rename_i f args h4 h3
            obtain ⟨nx, w', m', e1, e2, e3, e4⟩ := hs _ _ h3
            rw [e1]
            cases nx <;> first | exact e4.elim | skip
            obtain ⟨rfl, e5⟩ := e4
            obtain ⟨_, hcs2⟩ := hC _ _ _ _ _ h1
            have q := opA_next h3
            refine (hcs2 B m' _ w' e5 e3 (hG.mono e2.1)).mono ?_
            rintro e w2 ⟨v', m2, rfl, c2, c3, c4⟩
            exact fin m2 v' w2 (e2.trans c2 q.1 q.2.1) c3 c4
          · cases h1
        · rename_i h0
          rw [hw, h0]
          simp only [Option.some.injEq, Prod.mk.injEq] at h1
          obtain ⟨rfl, rfl⟩ := h1
          simp only [Bool.false_eq_true, if_false]
          exact fin m undef w (Ext.refl _ m) hr (undef_rel m)
      · cases e
noncomputable def dcallV (P : Program) (FT : FuncId → Option Func) (enters : FuncId → FKind) (CB : CallB) (DB : DrawB) (K : Nat) (d : DCall) (v : Value) (h : AHeap) : Option AHeap := match enters d.g with
  | .enter => match FT d.g with
    | some gn => match gn.body with
      | some gc => match Nat.ble (lenV (listOf (appV d.args (listOf d.cap)))) gn.ntmps with
        | true => match recOf gc with
          | some (_, ops, r) => (match opsV P enters CB ops v ops.toList (treeOfB (listOf (appV d.args (listOf d.cap))) 0 .leaf) h with
            | some (T1, h1) => endK P gn.results.toList ((codeB P enters CB DB K r).un T1 h1)
            | none => none)
          | none => none
        | false => none
      | none => none
    | none => none
  | _ => none
theorem dcallV_sound {G : Nat} {enters : FuncId → FKind} {FT : FuncId → Option Func} {CB : CallB} {DB : DrawB} (hE : Enters P enters) (hz : ZF P) (hC : CallSound P G (callOf CB)) (hD : DrawGood P G (fun ops T h => (DB ops).un T h)) (hTb : Table P G enters FT)
    (hpl : ∀ f fn c, FT f = some fn → fn.body = some c → plansOk P c = true) {K : Nat} {d : DCall} {v : Value} {h h' : AHeap} (e : dcallV P FT enters CB DB K d v h = some h') : Nx h h' ∧
    ∀ (B : Base) (m : Mu) (d' : Deferred) (w : World) (v' : Value), DOne m d d' → VRel m v v' → Rel P B m h w → GRel G m → ∃ cap' args'', d'.target = .fn (.func d.g) cap' ∧ (invoke d'.target d'.args).run P w = .ok (.enter d.g args'') w ∧
      CallsD P d.g args'' (.panicking [{ v := v', recovered := false }]) w (fun e u' w' => u' = .panicking [{ v := v', recovered := true }] ∧ ∃ x m', e = .returned x ∧ Ext h m m' ∧ Rel P B m' h' w') := by
  unfold dcallV at e
  split at e <;> try (cases e; done)
  rename_i hen
  split at e <;> try (cases e; done)
  rename_i gn hgn
  split at e <;> try (cases e; done)
  rename_i gc hgc
  split at e <;> try (cases e; done)
  rename_i hsz
  rw [Nat.ble_eq, lenV_eq, listOf_eq, listOf_eq, appV_eq] at hsz
  have hf := hTb.has d.g gn hgn
  have hok := hTb.code d.g gn gc hgn hgc
  have hp := hpl d.g gn gc hgn hgc
  have hent := (hE d.g).1 hen
  have hin : ∀ {m : Mu} {cap' args' : Array Value}, ARel m d.cap cap' → ARel m d.args args' → TRel m gn.ntmps (treeOfB (listOf (appV d.args (listOf d.cap))) 0 .leaf) ((args' ++ cap') ++ Array.replicate (gn.ntmps - (args' ++ cap').size) undef) := by
    intro m cap' args' h1 h2
    rw [listOf_eq, listOf_eq, appV_eq, initT_self]
    refine initT_rel (args := d.args ++ d.cap.toList.toArray) ?_ (by simpa using hsz)
    refine ⟨by simp [h1.1, h2.1], fun i hi hi' => ?_⟩
    rw [Array.getElem_append, Array.getElem_append]
    by_cases hlt : i < d.args.size
    · rw [dif_pos hlt, dif_pos (by rw [← h2.1]; exact hlt)]
      exact h2.2 i _ _
    · rw [dif_neg hlt, dif_neg (by rw [← h2.1]; exact hlt)]
      simp only [← h2.1]
      exact h1.2 _ _ _
  split at e
  · rename_i id ops r hrec
    obtain rfl := recOf_some hrec
    split at e <;> try (cases e; done)
    rename_i T1 h1 q1
    obtain ⟨k, T2, us, hk, q2, hus⟩ := endK_some e
    simp only [codeOk, Bool.and_eq_true] at hok
    simp only [plansOk, Bool.and_eq_true] at hp
    obtain ⟨n2, c2⟩ := codeB_sound (n := gn.ntmps) hE hz hC hD K r hp.2 _ _ _ _ _ q2
    have n1 := opsV_next hC _ _ _ _ _ q1
    refine ⟨n1.trans n2, fun B m d' w v' hd' hvv hr hG => ?_⟩
    obtain ⟨cap', args', rfl, hcap, hargs⟩ := hd'
    refine ⟨cap', args' ++ cap', rfl, hent _ _, ?_⟩
    refine callsD_of_wpS hf hgc fun c0 cs hmode => wpS_seq (wpS_region ?_)
    have hrec2 : recoverD (c0 :: cs) = some (v', { c0 with mode := .panicking [{ v := v', recovered := true }] } :: cs) := by
      unfold recoverD
      simp only [hmode]
    have hnone : recoverD ({ c0 with mode := .panicking [{ v := v', recovered := true }] } :: cs) = none := by
      unfold recoverD
      simp
    have hlen : ops.size = ops.toList.length := by simp
    rw [List.range_eq_range', hlen]
    refine opsV_sound hE hz hC hrec2 hnone (dst_of_ok hok.1) ops.toList 0 _ _ _ _ m _ w (fun j => by simp) hok.1 q1 hvv (hin hcap hargs) hr hG ?_
    intro m1 a1 w1 x1 t1 d1 r1
    show Code.wpS P r _ _ _ _
    refine wpS_of_wp (c2 B m1 a1 w1 _ hok.2 t1 r1 (hG.mono x1.1) ?_)
    intro m4 a4 w4 x4 t4 d4 r4
    obtain ⟨u', hu1, _⟩ := results_sound r4 t4 (resB_some hus)
    have fin : a4.defers = [] ∧ ∃ u', ({ c0 with mode := .panicking [{ v := v', recovered := true }] } : Frame) :: cs = { c0 with mode := u' } :: cs ∧ ∃ x, (results gn a4.tmps).run P w4 = .ok x w4 ∧ (u' = .panicking [{ v := v', recovered := true }] ∧ ∃ x' m', Ending.returned x = .returned x' ∧ Ext h m m' ∧ Rel P B m' h' w4) :=
      ⟨by rw [d4, d1], _, rfl, u', hu1, rfl, u', m4, rfl, x1.trans x4 n1.1 n1.2.1, r4⟩
    rcases hk with rfl | rfl
    · exact fin
    · exact fin
  · cases e
/-- A function that panics, and whose deferred call, the last one, recovers. -/
noncomputable def deferPF (P : Program) (FT : FuncId → Option Func) (enters : FuncId → FKind) (CB : CallB) (DB : DrawB) (PB : PanF) (DP : DrawP) (K : Nat) (fn : Func) (c : Code) : Array Value → AHeap → Option (Value × AHeap) := fun args h =>
  match Nat.ble (lenV (listOf args)) fn.ntmps with
  | true => match (codeDP P enters CB DB PB DP K c).un (treeOfB (listOf args) 0 .leaf) h [] with
    | some (⟨v, T1, ex, h1⟩, d :: ds) => (match dcallV P FT enters CB DB K d v h1 with
      | some h2 => (match runDs P FT enters CB DB K ds h2 with
        | some h3 => (match rsOk ex fn.results.toList with
          | true => (match (resB P fn.results.toList).un h3 T1 with | some vs => some (oneA vs, h3) | none => none)
          | false => none)
        | none => none)
      | none => none)
    | _ => none
  | false => none
theorem deferPF_sound {G : Nat} {enters : FuncId → FKind} {FT : FuncId → Option Func} {CB : CallB} {DB : DrawB} {PB : PanF} {DP : DrawP} (hE : Enters P enters) (hz : ZF P) (hC : CallSound P G (callOf CB)) (hD : DrawGood P G (fun ops T h => (DB ops).un T h)) (hP : PanicSound P G PB) (hDP : DrawPGood P G DP) (hTb : Table P G enters FT)
    (hpl : ∀ f fn c, FT f = some fn → fn.body = some c → plansOk P c = true) {K : Nat} {f : FuncId} {fn : Func} {c : Code} (hf : FT f = some fn) (hb : fn.body = some c)
    {args : Array Value} {h : AHeap} {v : Value} {h' : AHeap} (e : deferPF P FT enters CB DB PB DP K fn c args h = some (v, h')) : Nx h h' ∧
    ∀ (B : Base) m args' w, ARel m args args' → Rel P B m h w → GRel G m →
      Calls P f args' w (fun e w' => ∃ v' m', e = .returned v' ∧ Ext h m m' ∧ Rel P B m' h' w' ∧ VRel m' v v') := by
  unfold deferPF at e
  split at e <;> try (cases e; done)
  rename_i hsz
  rw [Nat.ble_eq, lenV_eq, listOf_eq] at hsz
  rw [listOf_eq, initT_self] at e
  have hf' := hTb.has f fn hf
  have hok := hTb.code f fn c hf hb
  have hp := hpl f fn c hf hb
  split at e <;> try (cases e; done)
  rename_i v1 T1 ex h1 d ds q1
  split at e <;> try (cases e; done)
  rename_i h2 q2
  split at e <;> try (cases e; done)
  rename_i h3 q3
  split at e <;> try (cases e; done)
  rename_i hrs
  split at e <;> try (cases e; done)
  rename_i vs hvs
  simp only [Option.some.injEq, Prod.mk.injEq] at e
  obtain ⟨rfl, rfl⟩ := e
  obtain ⟨n1, c1⟩ := codeDP_sound (n := fn.ntmps) hE hz hC hD hP hDP K c hp _ _ _ _ _ q1
  obtain ⟨n2, c2⟩ := dcallV_sound hE hz hC hD hTb hpl q2
  obtain ⟨n3, c3⟩ := runDs_sound hE hz hC hD hTb hpl _ _ _ q3
  refine ⟨(Nx.trans n1 n2).trans n3, fun B m args' w ha hr hG => ?_⟩
  refine calls_of_wp_defers hf' hb (c1 B m _ w _ hok (initT_rel ha hsz) hr hG trivial ?_)
  intro m1 a1 w1 v1' x1 t1 d1 r1 hv1
  show Leaves P fn a1.tmps _ a1.defers (.panicking [{ v := v1', recovered := false }]) w1
  generalize a1.defers = es at d1
  cases es with
  | nil => exact d1.elim
  | cons e0 es =>
    obtain ⟨cap', args'', ht, hinv, hcall⟩ := c2 B m1 e0 w1 v1' d1.1 hv1 r1 (hG.mono x1.1)
    obtain ⟨t, as⟩ := e0
    dsimp only at ht hinv
    subst ht
    refine leaves_cons (by intro q; cases q) hinv (hcall.mono ?_)
    rintro e u' w2 ⟨rfl, x, m2, rfl, x2, r2⟩
    show Leaves P fn a1.tmps _ es .returning w2
    refine c3 B m2 es w2 fn a1.tmps _ (d1.2.mono x2.1) r2 ((hG.mono x1.1).mono x2.1) fun m3 w3 x3 r3 => ?_
    obtain ⟨v', hv1', hv2'⟩ := resultsX_sound (a := a1) r3 ((t1.mono x2.1).mono x3.1) hrs (resB_some hvs)
    exact ⟨v', hv1', v', m3, rfl, (x1.trans x2 n1.1 n1.2.1).trans x3 (Nx.trans n1 n2).1 (Nx.trans n1 n2).2.1, r3, hv2'⟩
end
end Go.Ab
namespace Go.Ab
open Go Go.RowKit
section
variable {P : Program}

/-! ## Panics in regions that draw their order -/
section plan
variable {ops : Array Oper} {ms : List Nat}
theorem plan_closed (hp : ∀ j, j < ops.size → planAt P ops ms ops.size j = true) {j i : Nat} (hj : j < ops.size) (hi : i < ops.size) (h : prd ms j i = true) :
    ∃ e ∈ edgesOf (opAt ops j), e = i ∨ prd ms e i = true := by
  have := hp j hj
  unfold planAt at this
  simp only [Bool.and_eq_true] at this
  have := List.all_eq_true.1 this.1.1.1.1.2 i (by simpa using hi)
  rw [h] at this
  simp only [Bool.not_true, Bool.false_or, Bool.and_eq_true] at this
  obtain ⟨e, he, h2⟩ := List.any_eq_true.1 this.2
  refine ⟨e, he, ?_⟩
  simp only [Bool.or_eq_true, Nat.beq_eq] at h2
  exact h2
theorem plan_reads (hp : ∀ j, j < ops.size → planAt P ops ms ops.size j = true) {j i : Nat} (hj : j < ops.size) (hi : i < ops.size) {t : Tmp} (ht : t ∈ tmpsOf (opAt ops j) ∨ ∃ g w, (opAt ops j).guard = some (g, w) ∧ (ops[g]?).bind (·.dst) = some t)
    (hd : (opAt ops i).dst = some t) : i = j ∨ prd ms j i = true ∨ prd ms i j = true := by
  have := hp j hj
  unfold planAt at this
  simp only [Bool.and_eq_true] at this
  have := List.all_eq_true.1 this.1.1.1.2 t (by
    rcases ht with ht | ⟨g, w, hg, hd⟩
    · exact List.mem_append.2 (.inl ht)
    · refine List.mem_append.2 (.inr ?_)
      rw [hg]; dsimp only; rw [hd]; simp)
  have := List.all_eq_true.1 this i (by simpa using hi)
  rw [hd] at this
  simpa [or_assoc] using this
theorem plan_dist (hp : ∀ j, j < ops.size → planAt P ops ms ops.size j = true) {i j : Nat} {d : Tmp} (hij : i < j) (hj : j < ops.size) (h1 : (opAt ops i).dst = some d) (h2 : (opAt ops j).dst = some d) : False := by
  have := hp j hj
  unfold planAt at this
  simp only [Bool.and_eq_true] at this
  have := this.1.2
  rw [h2] at this
  dsimp only at this
  have := List.all_eq_true.1 this i (by simpa using hij)
  rw [h1] at this
  simp at this
end plan
/-- The values of the reads ahead, and the panic. -/
noncomputable def drawPGo (P : Program) (enters : FuncId → FKind) (PB : PanF) (ops : Array Oper) : List Oper → Tree Value → AHeap → Option (List Value × Value × AHeap)
  | [], _, _ => none
  | o :: rest, T, h => match wantedA ops o T with
    | false => match drawPGo P enters PB ops rest (Tput T o.dst undef) h with
      | some (vs, v, h') => some (undef :: vs, v, h')
      | none => none
    | true => match clsOf P o with
      | .plain => match (readB P o).un T h with
        | some x => match drawPGo P enters PB ops rest (Tput T o.dst x) h with
          | some (vs, v, h') => some (x :: vs, v, h')
          | none => none
        | none => none
      | .alloc => none
      | .loud => match panOp enters PB o T h with
        | some (v, h') => some ([], v, h')
        | none => none
theorem drawPGo_spec {enters : FuncId → FKind} {PB : PanF} {ops : Array Oper} : ∀ (l : List Oper) (T : Tree Value) (h : AHeap) (vs : List Value) (v : Value) (h' : AHeap), drawPGo P enters PB ops l T h = some (vs, v, h') →
    vs.length < l.length ∧ (∀ i, i < vs.length → (wantedA ops (l.getD i default) (slots (l.take i) (vs.take i) T) = false ∧ vs.getD i undef = undef) ∨ (wantedA ops (l.getD i default) (slots (l.take i) (vs.take i) T) = true ∧ opR P (rhoA (slots (l.take i) (vs.take i) T)) (l.getD i default) h = some (vs.getD i undef))) ∧
    panOp enters PB (l.getD vs.length default) (slots (l.take vs.length) (vs.take vs.length) T) h = some (v, h') := by
  intro l
  induction l with
  | nil => intro T h vs v h' e; cases e
  | cons o l ih =>
    intro T h vs v h' e
    have step : ∀ (x : Value) (vs1 : List Value), vs = x :: vs1 → drawPGo P enters PB ops l (Tput T o.dst x) h = some (vs1, v, h') → ((wantedA ops o T = false ∧ x = undef) ∨ (wantedA ops o T = true ∧ opR P (rhoA T) o h = some x)) →
        vs.length < (o :: l).length ∧ (∀ i, i < vs.length → (wantedA ops ((o :: l).getD i default) (slots ((o :: l).take i) (vs.take i) T) = false ∧ vs.getD i undef = undef) ∨ (wantedA ops ((o :: l).getD i default) (slots ((o :: l).take i) (vs.take i) T) = true ∧ opR P (rhoA (slots ((o :: l).take i) (vs.take i) T)) ((o :: l).getD i default) h = some (vs.getD i undef))) ∧
        panOp enters PB ((o :: l).getD vs.length default) (slots ((o :: l).take vs.length) (vs.take vs.length) T) h = some (v, h') := by
      rintro x vs1 rfl hgo hx
      obtain ⟨i1, i2, i3⟩ := ih _ _ _ _ _ hgo
      refine ⟨by simpa using i1, fun i hi => ?_, by simpa [slots] using i3⟩
      cases i with
      | zero => simpa [slots] using hx
      | succ i => simpa [slots] using i2 i (by simpa using hi)
    simp only [drawPGo] at e
    split at e
    · rename_i hw
      split at e <;> try (cases e; done)
      rename_i vs1 v1 h1 hgo
      simp only [Option.some.injEq, Prod.mk.injEq] at e
      obtain ⟨rfl, rfl, rfl⟩ := e
      exact step undef vs1 rfl hgo (.inl ⟨hw, rfl⟩)
    · rename_i hw
      split at e
      · split at e <;> try (cases e; done)
        rename_i x hx
        split at e <;> try (cases e; done)
        rename_i vs1 v1 h1 hgo
        simp only [Option.some.injEq, Prod.mk.injEq] at e
        obtain ⟨rfl, rfl, rfl⟩ := e
        exact step x vs1 rfl hgo (.inr ⟨hw, readB_some hx⟩)
      · cases e
      · split at e <;> try (cases e; done)
        rename_i v1 h1 hp
        simp only [Option.some.injEq, Prod.mk.injEq] at e
        obtain ⟨rfl, rfl, rfl⟩ := e
        refine ⟨by simp, fun i hi => by simp at hi, by simpa [slots] using hp⟩
/-- What holds ahead of the panic, in whatever order: what is done are reads. -/
structure PInv (P : Program) (B : Base) (G N : Nat) (ops : Array Oper) (ms : List Nat) (T0 : Tree Value) (h : AHeap) (vs : List Value) (m0 : Mu) (ds : List Deferred) (S : Nat → Bool) (m : Mu) (a : Act) (w : World) : Prop where
  below : ∀ x, x < ops.size → S x = true → x < vs.length
  closed : ∀ j, j < ops.size → S j = true → ∀ i, i < ops.size → prd ms j i = true → S i = true
  tsz : a.tmps.size = N
  done : ∀ t i, i < ops.size → S i = true → (opAt ops i).dst = some t → VRel m (vs.getD i undef) (a.tmps.getD t undef)
  kept : ∀ t, (∀ i, i < ops.size → (opAt ops i).dst = some t → S i = false) → VRel m (Tget T0 t) (a.tmps.getD t undef)
  rel : Rel P B m h w
  grel : GRel G m
  ext : Ext h m0 m
  defers : a.defers = ds
theorem noCalls {G : Nat} : CallSound P G (fun _ _ _ => none) := fun _ _ _ _ _ e => by cases e
theorem PInv.step {B : Base} {G N : Nat} {enters : FuncId → FKind} {PB : PanF} {ops : Array Oper} {ms : List Nat} {T0 : Tree Value} {h h' : AHeap} {vs : List Value} {v : Value} {m0 : Mu} {ds : List Deferred} (hE : Enters P enters) (hz : ZF P) (hP : PanicSound P G PB)
    (hp : ∀ j, j < ops.size → planAt P ops ms ops.size j = true) (hlt : ∀ a b, prd ms a b = true → b < a) (hmlen : ms.length = ops.size) (hgo : drawPGo P enters PB ops ops.toList T0 h = some (vs, v, h')) (haft : ∀ i, vs.length < i → i < ops.size → prd ms i vs.length = true) (hok : ops.toList.all (opOk G N) = true)
    {S : Nat → Bool} {m : Mu} {a : Act} {w : World} (I : PInv P B G N ops ms T0 h vs m0 ds S m a w) {i : Nat} (hi : i < ops.size) (hS : S i = false) (hready : ∀ e ∈ edgesOf (opAt ops i), e < ops.size → S e = true)
    {K : Act → World → Prop} {Q : Exit → Act → World → Prop} (hK : ∀ m' a' w', PInv P B G N ops ms T0 h vs m0 ds (fun x => if x = i then true else S x) m' a' w' → K a' w')
    (hQ : ∀ m' a' w' v', Ext h m0 m' → (a'.tmps.size = N ∧ ∀ t, (∀ x, x < ops.size → (opAt ops x).dst ≠ some t) → VRel m' (Tget T0 t) (a'.tmps.getD t undef)) → a'.defers = ds → Rel P B m' h' w' → VRel m' v v' → Q (.panic [{ v := v', recovered := false }]) a' w') : wpOp P ops Q i K a w := by
  obtain ⟨s1, s2, s3⟩ := drawPGo_spec _ _ _ _ _ _ hgo
  rw [Array.length_toList] at s1
  have hdstN := dst_of_ok hok
  have hops : ops[i]? = some (opAt ops i) := by unfold opAt; rw [Array.getD_eq_getD_getElem?, Array.getElem?_eq_getElem hi]; rfl
  have hpre : ∀ x, x < ops.size → prd ms i x = true → S x = true := by
    intro x hx h
    obtain ⟨e, he, h2⟩ := plan_closed hp hi hx h
    rcases h2 with rfl | h2
    · exact hready e he hx
    · have hel : e < ops.size := by
        rcases Nat.lt_or_ge e ops.size with c | c
        · exact c
        · exfalso
          have hm : prd ms e x = false := by
            cases hb : prd ms e x with
            | false => rfl
            | true =>
              unfold prd at hb
              rw [List.getD_eq_getElem?_getD, List.getElem?_eq_none (by rw [hmlen]; exact c)] at hb
              simp at hb
          rw [hm] at h2; cases h2
      exact I.closed e hel (hready e he hel) x hx h2
  have hip : i ≤ vs.length := by
    rcases Nat.lt_or_ge vs.length i with c | c
    · have h1 := hpre vs.length s1 (haft i c hi)
      have := I.below vs.length s1 h1
      omega
    · exact c
  have hnot : ∀ x, S x = true ∨ S x = false := fun x => by cases S x <;> simp
  have htk : (ops.toList.take vs.length).take i = ops.toList.take i := by rw [List.take_take, Nat.min_eq_left hip]
  have hgd : ∀ x, x < vs.length → (ops.toList.take vs.length).getD x default = opAt ops x := by
    intro x hx
    rw [List.getD_eq_getElem?_getD, List.getElem?_take, if_pos hx, ← opAt_toList, List.getD_eq_getElem?_getD]
  have hlen : (ops.toList.take vs.length).length = vs.length := by rw [List.length_take, Array.length_toList]; exact Nat.min_eq_left (Nat.le_of_lt s1)
  have hdist : ∀ x y d, x < y → y < (ops.toList.take vs.length).length → ((ops.toList.take vs.length).getD x default).dst = some d → ((ops.toList.take vs.length).getD y default).dst = some d → False := by
    intro x y d h1 h2 h3 h4
    rw [hlen] at h2
    rw [hgd x (Nat.lt_trans h1 h2)] at h3
    rw [hgd y h2] at h4
    exact plan_dist hp h1 (Nat.lt_trans h2 s1) h3 h4
  have hTi := slots_get (T := T0) hlen.symm hdist i (by rw [hlen]; exact hip)
  rw [htk] at hTi
  have hslot : ∀ t, (t ∈ tmpsOf (opAt ops i) ∨ ∃ g w, (opAt ops i).guard = some (g, w) ∧ (ops[g]?).bind (·.dst) = some t) → VRel m (Tget (slots (ops.toList.take i) (vs.take i) T0) t) (a.tmps.getD t undef) := by
    intro t ht
    by_cases c : ∃ x, x < i ∧ (opAt ops x).dst = some t
    · obtain ⟨x, hx, hd⟩ := c
      rw [(hTi t).1 x hx (by rw [hgd x (by omega)]; exact hd)]
      refine I.done t x (by omega) ?_ hd
      rcases plan_reads hp hi (by omega) ht hd with h | h | h
      · omega
      · exact hpre x (by omega) h
      · have := hlt _ _ h; omega
    · rw [(hTi t).2 (fun x hx hd => c ⟨x, hx, by rw [hgd x (by omega)] at hd; exact hd⟩)]
      refine I.kept t fun x hx hd => ?_
      rcases plan_reads hp hi hx ht hd with h | h | h
      · rw [h]; exact hS
      · have := hlt _ _ h; exact absurd ⟨x, this, hd⟩ c
      · rcases hnot x with h2 | h2
        · rw [I.closed x hx h2 i hi h] at hS; cases hS
        · exact h2
  have hopk : opOk G N (opAt ops i) = true := List.all_eq_true.1 hok _ (Array.mem_toList_iff.2 (Array.mem_of_getElem? hops))
  have hopnd : ∀ x ∈ (opAt ops i).op.operands.toList, VRel m (rhoA (slots (ops.toList.take i) (vs.take i) T0) x) (a.eval x) := by
    intro x hx
    have hxo : opndOk G x = true := by
      unfold opOk at hopk
      simp only [Bool.and_eq_true] at hopk
      exact List.all_eq_true.1 hopk.1 x hx
    cases x with
    | tmp t => exact hslot t (.inl (List.mem_filterMap.2 ⟨.tmp t, hx, rfl⟩))
    | const v => exact vflat_rel m 8 v hxo
    | global g =>
      obtain ⟨l, h1, h2, h3⟩ := I.grel g (by simpa [opndOk] using hxo)
      have := VRel.ptr (m := m) g 0 l h1
      rw [h2, h3] at this
      exact this
    | func f => exact .func _ _ _ _ _ rfl (fun i h => by simp at h) rfl (fun i h => by simp at h)
  rcases Nat.lt_or_eq_of_le hip with hlt2 | heq
  · -- a read
    have hw : Region.wanted (opAt ops i) (yielded ops a.tmps) = wantedA ops (opAt ops i) (slots (ops.toList.take i) (vs.take i) T0) :=
      wanted_eq' I.tsz ops (opAt ops i) fun g wnt d hg hd => ⟨hdstN g d hd, hslot d (.inr ⟨g, wnt, hg, hd⟩)⟩
    have hst : stepA P enters (fun _ _ _ => none) ops (opAt ops i) (slots (ops.toList.take i) (vs.take i) T0) h = some (vs.getD i undef, h) := by
      have := s2 i hlt2
      rw [opAt_toList] at this
      unfold stepA
      rcases this with ⟨e1, e2⟩ | ⟨e1, e2⟩
      · rw [e1]; dsimp only; rw [e2]
      · rw [e1]; dsimp only; rw [opR_opA (enters := enters) e2]
    have := stepA_sound' (B := B) (Q := Q) (K := K) hE hz noCalls hst I.rel I.grel hopnd hw (fun m' v' w' c1 c2 c3 => hK m' _ w' ?_)
    · unfold wpOp
      rw [hops]
      dsimp only
      split
      · rename_i h1; rw [if_pos h1] at this; exact .inl this
      · rename_i h1; rw [if_neg h1] at this; exact this
    · refine ⟨fun x hx hSx => ?_, fun j hj hSj x hx h => ?_, ?_, fun t x hx hSx hd => ?_, fun t hn => ?_, c2, I.grel.mono c1.1, I.ext.trans c1 (Nat.le_refl _) rfl, ?_⟩
      · by_cases e : x = i
        · rw [e]; exact hlt2
        · rw [if_neg e] at hSx; exact I.below x hx hSx
      · by_cases e : x = i
        · rw [if_pos e]
        · rw [if_neg e]
          by_cases e2 : j = i
          · subst e2; exact hpre x hx h
          · rw [if_neg e2] at hSj; exact I.closed j hj hSj x hx h
      · cases (opAt ops i).dst with
        | none => exact I.tsz
        | some d => simp [Act.put, I.tsz]
      · by_cases e : x = i
        · subst e
          rw [hd]
          have hdn := hdstN x t (by rw [hops]; exact hd)
          simp only [Act.put, Array.getD_eq_getD_getElem?, Array.getElem?_setIfInBounds]
          rw [if_pos trivial, if_pos (by rw [I.tsz]; exact hdn)]
          exact c3
        · rw [if_neg e] at hSx
          have h1 := (I.done t x hx hSx hd).mono c1.1
          have hne : (opAt ops i).dst ≠ some t := by
            intro h2
            rcases Nat.lt_or_gt_of_ne e with h3 | h3
            · exact plan_dist hp h3 hi hd h2
            · exact plan_dist hp h3 hx h2 hd
          cases hdd : (opAt ops i).dst with
          | none => exact h1
          | some d =>
            simp only [Act.put, Array.getD_eq_getD_getElem?, Array.getElem?_setIfInBounds] at h1 ⊢
            rw [if_neg (fun h => hne (by rw [hdd, h]))]
            exact h1
      · have hne : (opAt ops i).dst ≠ some t := by
          intro h2
          have := hn i hi h2
          simp at this
        have h1 := (I.kept t fun x hx hd => by
          have := hn x hx hd
          split at this
          · cases this
          · exact this).mono c1.1
        cases hdd : (opAt ops i).dst with
        | none => exact h1
        | some d =>
          simp only [Act.put, Array.getD_eq_getD_getElem?, Array.getElem?_setIfInBounds] at h1 ⊢
          rw [if_neg (fun h => hne (by rw [hdd, h]))]
          exact h1
      · cases (opAt ops i).dst with
        | none => exact I.defers
        | some d => exact I.defers
  · -- the panic
    subst heq
    rw [opAt_toList] at s3
    obtain ⟨hg, hs⟩ := panOp_soundR (B := B) hE hP s3 hopnd I.rel I.grel (K := K) (Q := Q) fun m' w' v' c1 c2 c3 =>
      hQ m' a w' v' (I.ext.trans c1 (Nat.le_refl _) rfl) ⟨I.tsz, fun t ht => (I.kept t fun x hx hd => absurd hd (ht x hx)).mono c1.1⟩ I.defers c2 c3
    unfold wpOp
    rw [hops]
    dsimp only
    rw [if_pos (by unfold Region.wanted; rw [hg])]
    exact .inl hs
theorem panAny {B : Base} {G N : Nat} {enters : FuncId → FKind} {PB : PanF} {ops : Array Oper} {ms : List Nat} {T0 : Tree Value} {h h' : AHeap} {vs : List Value} {v : Value} {m0 : Mu} {ds : List Deferred} (hE : Enters P enters) (hz : ZF P) (hP : PanicSound P G PB)
    (hp : ∀ j, j < ops.size → planAt P ops ms ops.size j = true) (hlt : ∀ a b, prd ms a b = true → b < a) (hmlen : ms.length = ops.size) (hgo : drawPGo P enters PB ops ops.toList T0 h = some (vs, v, h')) (haft : ∀ i, vs.length < i → i < ops.size → prd ms i vs.length = true) (hok : ops.toList.all (opOk G N) = true)
    {md : Region.Mode} (hord : orderOk md ops = true) {Q : Exit → Act → World → Prop}
    (hQ : ∀ m' a' w' v', Ext h m0 m' → (a'.tmps.size = N ∧ ∀ t, (∀ x, x < ops.size → (opAt ops x).dst ≠ some t) → VRel m' (Tget T0 t) (a'.tmps.getD t undef)) → a'.defers = ds → Rel P B m' h' w' → VRel m' v v' → Q (.panic [{ v := v', recovered := false }]) a' w') :
    ∀ (f : Nat) (listed : Array Bool) (m : Mu) (a : Act) (w : World), listed.size = ops.size → unl listed ops.size ≤ f → PInv P B G N ops ms T0 h vs m0 ds (fun x => listed.getD x false) m a w → wpAny P md ops Q f listed a w := by
  have s1 : vs.length < ops.size := by have := (drawPGo_spec _ _ _ _ _ _ hgo).1; rwa [Array.length_toList] at this
  have hall : ∀ (listed : Array Bool), listed.size = ops.size → Region.ready md ops listed = [] → ∀ x, x < ops.size → listed.getD x false = true := by
    intro listed hsz hr x hx
    obtain ⟨l0, o1, o2, o3⟩ := orderOk_list hord
    cases hb : listed.getD x false with
    | true => rfl
    | false =>
      obtain ⟨i, hi⟩ := order_progress (listed := listed) hsz l0 [] o1 (by simp) o3 ⟨x, o2 x hx, hb⟩
      rw [hr] at hi; simp at hi
  intro f
  induction f with
  | zero =>
    intro listed m a w hsz hu I
    exfalso
    have hdone : listed.getD vs.length false = true := by
      cases hb : listed.getD vs.length false with
      | true => rfl
      | false =>
        have : vs.length ∈ (List.range ops.size).filter fun x => !listed.getD x false := List.mem_filter.2 ⟨by simpa using s1, by rw [hb]; rfl⟩
        unfold unl at hu
        have h0 : ((List.range ops.size).filter fun x => !listed.getD x false) = [] := List.length_eq_zero_iff.1 (by omega)
        rw [h0] at this; simp at this
    have := I.below vs.length s1 hdone
    omega
  | succ f ih =>
    intro listed m a w hsz hu I
    refine ⟨fun hr => ?_, fun i hi => ?_⟩
    · have := I.below vs.length s1 (hall listed hsz hr vs.length s1)
      omega
    obtain ⟨h1, o, ho, hbound⟩ := mem_ready.1 hi
    have hlt2 : i < ops.size := (Array.getElem?_eq_some_iff.1 ho).1
    have hS : listed.getD i false = false := by
      simp [Array.getD_eq_getD_getElem?, Array.getElem?_eq_getElem (show i < listed.size by omega)] at h1 ⊢
      exact h1
    have hop : opAt ops i = o := by unfold opAt; rw [Array.getD_eq_getD_getElem?, ho]; rfl
    refine I.step hE hz hP hp hlt hmlen hgo haft hok hlt2 hS (fun e he hel => ?_) (fun m' a' w' I' => ?_) hQ
    · unfold edgesOf at he
      rw [hop] at he
      obtain ⟨ed, hed, h3⟩ := List.mem_filterMap.1 he
      split at h3
      · rename_i hb
        obtain rfl := Option.some.inj h3
        exact hbound ed (Array.mem_toList_iff.1 hed) (binds_any hb)
      · cases h3
    · refine ih _ m' a' w' (by simpa using hsz) (by have := unl_lt hlt2 hsz hS; omega) ?_
      have e : (fun x => (listed.setIfInBounds i true).getD x false) = fun x => if x = i then true else listed.getD x false := by
        funext x
        by_cases c : x = i
        · subst c; simp [hsz, hlt2]
        · rw [getD_set_ne false (Ne.symm c), if_neg c]
      rw [e]; exact I'
/-- A region that draws its order, in which one call panics: what is ahead of it are reads, what is behind it waits for it. -/
noncomputable def drawPF (P : Program) (enters : FuncId → FKind) (PB : PanF) : DrawP := fun ops T h => match drawPGo P enters PB ops ops.toList T h with
  | some (vs, v, h') => match (List.range ops.size).all (fun i => Nat.ble i vs.length || prd (masksGo ops.toList []) i vs.length) with
    | true => some ⟨v, T, ops.toList.filterMap (·.dst), h'⟩
    | false => none
  | none => none
theorem drawPF_good {G : Nat} {enters : FuncId → FKind} {PB : PanF} (hE : Enters P enters) (hz : ZF P) (hP : PanicSound P G PB) : DrawPGood P G (drawPF P enters PB) := by
  intro ops T h r hplan e
  unfold drawPF at e
  split at e <;> try (cases e; done)
  rename_i vs v h' hgo
  split at e <;> try (cases e; done)
  rename_i haft
  obtain rfl := Option.some.inj e
  have hplan' := hplan
  unfold planOk at hplan'
  simp only [Bool.and_eq_true] at hplan'
  obtain ⟨⟨⟨hp0, hany⟩, htext⟩, hgc⟩ := hplan'
  have hmlen : (masksGo ops.toList []).length = ops.size := by rw [masksGo_length]; simp
  have hlt := prd_lt hp0 hmlen
  have hp : ∀ j, j < ops.size → planAt P ops (masksGo ops.toList []) ops.size j = true := fun j hj => List.all_eq_true.1 hp0 j (by simpa using hj)
  obtain ⟨s1, _, s3⟩ := drawPGo_spec _ _ _ _ _ _ hgo
  refine ⟨panOp_next hP s3, fun B m N id a w Q hok hT hr hG hQ => ?_⟩
  have haft' : ∀ i, vs.length < i → i < ops.size → prd (masksGo ops.toList []) i vs.length = true := by
    intro i h1 h2
    have := List.all_eq_true.1 haft i (by simpa using h2)
    simp only [Bool.or_eq_true, Nat.ble_eq] at this
    rcases this with h3 | h3
    · omega
    · exact h3
  have hS0 : ∀ x, (Array.replicate ops.size false).getD x false = false := by
    intro x
    simp [Array.getD_eq_getD_getElem?, Array.getElem?_replicate]
    split <;> rfl
  have hinit : PInv P B G N ops (masksGo ops.toList []) T h vs m a.defers (fun x => (Array.replicate ops.size false).getD x false) m a { w with drawn := w.drawn + 1 } := by
    refine ⟨fun x _ hx => ?_, fun j _ hj => ?_, hT.size, fun t i _ hi => ?_, fun t _ => hT.rel t, hr.drew, hG, Ext.refl _ m, rfl⟩
    · rw [hS0] at hx; cases hx
    · rw [hS0] at hj; cases hj
    · rw [hS0] at hi; cases hi
  refine wp_region_draw fun t => ?_
  have hone : ∀ md, orderOk md ops = true → ∀ t, wpOps P ops Q (Region.linearise md ops t) a { w with drawn := w.drawn + 1 } := by
    intro md hmd t
    refine wpAny_sound ops.size t _ a _ (panAny hE hz hP hp hlt hmlen hgo haft' hok hmd (fun m' a' w' v' c1 c2 c3 c4 c5 => hQ m' a' w' v' c1 ⟨c2.1, fun t ht => c2.2 t fun x hx hd => ?_⟩ c3 c4 c5) ops.size _ m a _ (by simp) (by unfold unl; exact Nat.le_trans (List.length_filter_le _ _) (by simp)) hinit)
    have hm : t ∈ ops.toList.filterMap (·.dst) := List.mem_filterMap.2 ⟨opAt ops x, by
      have : ops[x]? = some (opAt ops x) := by unfold opAt; rw [Array.getD_eq_getD_getElem?, Array.getElem?_eq_getElem hx]; rfl
      exact Array.mem_toList_iff.2 (Array.mem_of_getElem? this), hd⟩
    unfold inX at ht
    have h1 : (ops.toList.filterMap (·.dst)).any (fun x => Nat.beq x t) = true := List.any_eq_true.2 ⟨t, hm, by simp⟩
    rw [h1] at ht; cases ht
  unfold Region.schedule
  split
  · exact hone .any hany t
  · split
    · exact hone .text htext _
    · exact hone .gc hgc _
end
end Go.Ab
namespace Go.Ab
open Go Go.RowKit
section
variable {P : Program}

/-! ## Functions that defer (panics and all), and that range over functions, known layer by layer -/
noncomputable def panD (P : Program) (FT : FuncId → Option Func) (enters : FuncId → FKind) (CB : CallB) (DB : DrawB) (K d : Nat) : PanF := panB P FT enters CB DB (drawPF P enters) K d
noncomputable def richP (P : Program) (G : Nat) (FT : FuncId → Option Func) (enters : FuncId → FKind) (CB : CallB) (DB : DrawB) (K d : Nat) : Known := fun f => match FT f with
  | some fn => match fn.body with
    | some c => match hasDefer c with
      | true => some fun args h => match deferG P FT enters CB DB K fn c args h with
        | some r => some r
        | none => deferPF P FT enters CB DB (panD P FT enters CB DB K d) (drawPF P enters (panD P FT enters CB DB K d)) K fn c args h
      | false => match rangeOf fn with
        | some x => match rangeOkB P G x with
          | true => some (rangeF P FT enters CB DB K x)
          | false => none
        | none => none
    | none => none
  | none => none
theorem richP_sound {G : Nat} {FT : FuncId → Option Func} {enters : FuncId → FKind} {CB : CallB} {DB : DrawB} {K d : Nat} (hE : Enters P enters) (hz : ZF P) (hC : CallSound P G (callOf CB)) (hD : DrawGood P G (fun ops T h => (DB ops).un T h)) (hTb : Table P G enters FT)
    (hpl : ∀ f fn c, FT f = some fn → fn.body = some c → plansOk P c = true) : CallSound P G (richP P G FT enters CB DB K d).call := by
  have hPB : PanicSound P G (panD P FT enters CB DB K d) := panB_sound hE hz hC hD (fun _ h => drawPF_good hE hz h) hTb hpl K d
  intro f args h v h' e
  unfold Known.call richP at e
  split at e <;> try (cases e; done)
  rename_i g hg
  split at hg <;> try (cases hg; done)
  rename_i fn hfn
  split at hg <;> try (cases hg; done)
  rename_i c hc
  split at hg
  · cases hg
    dsimp only at e
    split at e
    · rename_i r hr
      cases e
      exact deferG_sound hE hz hC hD hTb hpl hfn hc hr
    · exact deferPF_sound hE hz hC hD hPB (drawPF_good hE hz hPB) hTb hpl hfn hc e
  · split at hg <;> try (cases hg; done)
    rename_i x hx
    split at hg <;> try (cases hg; done)
    rename_i hok
    cases hg
    obtain ⟨h1, h2⟩ := rangeOf_some hx
    exact rangeF_sound hE hz hC hD hTb (rangeOk_of (f := f) (by rw [h1]; exact hTb.has f fn hfn) (by rw [h1]; exact h2) hok) e
noncomputable def layerP (P : Program) (G : Nat) (FT : FuncId → Option Func) (enters : FuncId → FKind) (K d : Nat) : Nat → CallB
  | 0 => callB P enters FT noneK (drawB P enters) K d
  | n + 1 => callB P enters FT (richP P G FT enters (layerP P G FT enters K d n) (drawB P enters (layerP P G FT enters K d n)) K d) (drawB P enters) K d
theorem layerP_sound {G : Nat} {FT : FuncId → Option Func} {enters : FuncId → FKind} (hE : Enters P enters) (hz : ZF P) (hTb : Table P G enters FT) (hpl : ∀ f fn c, FT f = some fn → fn.body = some c → plansOk P c = true) (K d : Nat) : ∀ n, CallSound P G (callOf (layerP P G FT enters K d n)) := by
  intro n
  induction n with
  | zero => exact callB_sound hE hz hTb noneK_sound hpl (fun _ h => drawB_sound hE hz h) K d
  | succ n ih => exact callB_sound hE hz hTb (richP_sound hE hz ih (drawB_sound hE hz ih) hTb hpl) hpl (fun _ h => drawB_sound hE hz h) K d
end
end Go.Ab
namespace Go.Ab
open Go Go.RowKit
section
variable {P : Program}
/-! ## The layers over what is known -/
noncomputable def layerQ (P : Program) (G : Nat) (FT : FuncId → Option Func) (enters : FuncId → FKind) (sp : Known) (K d : Nat) : Nat → CallB
  | 0 => callB P enters FT sp (drawB P enters) K d
  | n + 1 => callB P enters FT (orK sp (richP P G FT enters (layerQ P G FT enters sp K d n) (drawB P enters (layerQ P G FT enters sp K d n)) K d)) (drawB P enters) K d
theorem layerQ_sound {G : Nat} {FT : FuncId → Option Func} {enters : FuncId → FKind} {sp : Known} (hE : Enters P enters) (hz : ZF P) (hTb : Table P G enters FT) (hpl : ∀ f fn c, FT f = some fn → fn.body = some c → plansOk P c = true) (hS : CallSound P G sp.call) (K d : Nat) : ∀ n, CallSound P G (callOf (layerQ P G FT enters sp K d n)) := by
  intro n
  induction n with
  | zero => exact callB_sound hE hz hTb hS hpl (fun _ h => drawB_sound hE hz h) K d
  | succ n ih => exact callB_sound hE hz hTb (orK_sound hS (richP_sound hE hz ih (drawB_sound hE hz ih) hTb hpl)) hpl (fun _ h => drawB_sound hE hz h) K d
/-- What a function is known to do, because its run does it. -/
theorem known_of_eq {G : Nat} {CB : CallB} (hs : CallSound P G (callOf CB)) {kn : Known} (h : ∀ f g args hp r, kn f = some g → g args hp = some r → (CB f).un args hp = some r) : CallSound P G kn.call := by
  intro f args hp v h' e
  unfold Known.call at e
  split at e
  · rename_i g hg
    exact hs f args hp v h' (h f g args hp _ hg e)
  · cases e
end
end Go.Ab
namespace Go.Ab
open Go Go.RowKit
section
variable {P : Program}

/-! ## Runs from one memory to another, known: a long run is cut where a function is called -/
def LIM : Nat := 1099511627776
noncomputable def cellsEq (a b : Row) : Nat → Nat → Bool
  | 0, _ => true
  | k + 1, i => match rowGet a i, rowGet b i with
    | some x, some y => (match veq 8 x y with | true => cellsEq a b k (i + 1) | false => false)
    | _, _ => false
def entsEq : List MapEntry → List MapEntry → Bool
  | [], [] => true
  | x :: l, y :: r => veq 8 x.key y.key && veq 8 x.val y.val && Nat.beq x.born y.born && entsEq l r
  | _, _ => false
noncomputable def objEq : AObj → AObj → Bool
  | .cells c t, .cells d u => Nat.beq t u && Nat.beq c.len d.len && cellsEq c d c.len 0
  | .map es k, .map fs j => Nat.beq k j && entsEq (entriesOf es) (entriesOf fs)
  | _, _ => false
theorem cellsEq_get {a b : Row} : ∀ (k i : Nat), cellsEq a b k i = true → ∀ j, i ≤ j → j < i + k → a.get? j = b.get? j := by
  intro k
  induction k with
  | zero => intro i _ j h1 h2; omega
  | succ k ih =>
    intro i h j h1 h2
    simp only [cellsEq] at h
    split at h
    · rename_i x y hx hy
      split at h
      · rename_i hv
        by_cases e : j = i
        · subst e
          rw [rowGet_eq] at hx hy
          rw [hx, hy, veq_eq 8 _ _ hv]
        · exact ih (i + 1) h j (by omega) (by omega)
      · cases h
    · cases h
theorem entsEq_eq : ∀ (l r : List MapEntry), entsEq l r = true → l = r := by
  intro l
  induction l with
  | nil => intro r h; cases r with | nil => rfl | cons => cases h
  | cons x l ih =>
    intro r h
    cases r with
    | nil => cases h
    | cons y r =>
      simp only [entsEq, Bool.and_eq_true] at h
      obtain ⟨⟨⟨h1, h2⟩, h3⟩, h4⟩ := h
      obtain ⟨k1, v1, b1⟩ := x
      obtain ⟨k2, v2, b2⟩ := y
      have e1 : k1 = k2 := veq_eq 8 _ _ h1
      have e2 : v1 = v2 := veq_eq 8 _ _ h2
      have e3 : b1 = b2 := Nat.eq_of_beq_eq_true h3
      rw [ih r h4, e1, e2, e3]
theorem objEq_live {o o2 : AObj} (h : objEq o o2 = true) : o ≠ .dead ∧ isRo o = false ∧ isRo o2 = false := by
  cases o <;> cases o2 <;> first | (cases h; done) | exact ⟨(fun q => by cases q), rfl, rfl⟩
theorem objEq_ok {m : Mu} {l : Loc} {w : World} {o o2 : AObj} (h : objEq o o2 = true) (hok : OKObj P m l w o) : OKObj P m l w o2 := by
  cases o with
  | cells c t => cases o2 with
    | cells d u =>
      simp only [objEq, Bool.and_eq_true] at h
      obtain ⟨⟨h1, h2⟩, h3⟩ := h
      obtain rfl := Nat.eq_of_beq_eq_true h1
      have hl := Nat.eq_of_beq_eq_true h2
      obtain ⟨C, fr, a1, a2, a3, a4, a5⟩ := hok
      refine ⟨C, fr, a1, a2, by rw [← hl]; exact a3, fun i v hv => ?_, a5⟩
      have hi : i < d.len := Row.lt_of_get? hv
      exact a4 i v (by rw [cellsEq_get _ _ h3 i (Nat.zero_le _) (by omega)]; exact hv)
    | _ => cases h
  | map es k => cases o2 with
    | map fs j =>
      simp only [objEq, Bool.and_eq_true] at h
      obtain ⟨h1, h2⟩ := h
      obtain rfl := Nat.eq_of_beq_eq_true h1
      rw [entriesOf_eq, entriesOf_eq] at h2
      obtain rfl : es = fs := Array.ext' (entsEq_eq _ _ h2)
      exact hok
    | _ => cases h
  | _ => cases o2 <;> cases h
/-- Of a memory, some blocks. -/
theorem Rel.less {B : Base} {m : Mu} {h h0 : AHeap} {w : World} (hr : Rel P B m h w) (hn : h0.next = h.next) (hl : h0.lim = h.lim) (hb : ∀ b, h0.get b ≠ .dead → objEq (h.get b) (h0.get b) = true) : Rel P B m h0 w := by
  refine ⟨hr.os, hr.tape, hr.output, hr.prot, fun b h1 => ?_, fun b b' l l' h1 h2 h3 e1 e2 he => ?_, fun b h1 h2 => ?_⟩
  · have q := hb b h1
    obtain ⟨q1, q2, q3⟩ := objEq_live q
    obtain ⟨l, p1, p2, p3⟩ := hr.obj b q1
    exact ⟨l, p1, protOf_mk (fun c => by rw [q3] at c; cases c) (fun _ => protOf_none p2 q2), objEq_ok q p3⟩
  · obtain ⟨q1, q2, _⟩ := objEq_live (hb b h1)
    obtain ⟨p1, p2, _⟩ := objEq_live (hb b' h2)
    exact hr.sep b b' l l' q1 p1 p2 e1 e2 he
  · have q := hr.fresh b (by rw [← hn]; exact h1) (by rw [← hl]; exact h2)
    refine ⟨?_, q.2⟩
    cases hd : h0.get b with
    | dead => rfl
    | _ => exact absurd q.1 (objEq_live (hb b (by rw [hd]; intro c; cases c))).1
def setAll : List (Nat × AObj) → Tree AObj → Tree AObj
  | [], t => t
  | (b, o) :: l, t => setAll l (t.set .dead b o)
def mkHeap (l : List (Nat × AObj)) (n : Nat) : AHeap := ⟨setAll l .leaf, n, LIM⟩
theorem setAll_get (b : Nat) : ∀ (l : List (Nat × AObj)) (t : Tree AObj), (setAll l t).get .dead b = t.get .dead b ∨ ∃ o, (b, o) ∈ l ∧ (setAll l t).get .dead b = o := by
  intro l
  induction l with
  | nil => intro t; exact .inl rfl
  | cons x l ih =>
    intro t
    obtain ⟨c, o⟩ := x
    rcases ih (t.set .dead c o) with h | ⟨o2, h1, h2⟩
    · by_cases e : b = c
      · subst e
        refine .inr ⟨o, List.mem_cons_self, ?_⟩
        show (setAll l (t.set .dead b o)).get .dead b = o
        rw [h, Tree.get_set, if_pos rfl]
      · refine .inl ?_
        show (setAll l (t.set .dead c o)).get .dead b = _
        rw [h, Tree.get_set, if_neg e]
    · exact .inr ⟨o2, List.mem_cons_of_mem _ h1, h2⟩
theorem mkHeap_get {l : List (Nat × AObj)} {n b : Nat} (h : (mkHeap l n).get b ≠ .dead) : ∃ o, (b, o) ∈ l ∧ (mkHeap l n).get b = o := by
  rcases setAll_get b l .leaf with e | e
  · exfalso
    apply h
    show (setAll l .leaf).get .dead b = .dead
    rw [e, Tree.get_leaf]
  · exact e
/-- A call of a function, from one memory to another. -/
structure SM where
  f : FuncId
  args : List Value
  ls : List (Nat × AObj)
  n0 : Nat
  v : Value
  ls1 : List (Nat × AObj)
  n1 : Nat
noncomputable def hasAll (h : AHeap) : List (Nat × AObj) → Bool
  | [] => true
  | (b, o) :: l => match objEq (heapGet h b) o with
    | true => hasAll h l
    | false => false
theorem hasAll_mem {h : AHeap} : ∀ (l : List (Nat × AObj)), hasAll h l = true → ∀ b o, (b, o) ∈ l → objEq (h.get b) o = true := by
  intro l
  induction l with
  | nil => intro _ b o hm; cases hm
  | cons x l ih =>
    intro hh b o hm
    obtain ⟨c, u⟩ := x
    simp only [hasAll] at hh
    split at hh
    · rename_i hq
      rcases List.mem_cons.1 hm with e | e
      · cases e; rw [← heapGet_eq]; exact hq
      · exact ih hh b o e
    · cases hh
noncomputable def smRun (CB : CallB) (x : SM) : Bool := match (CB x.f).un ⟨x.args⟩ (mkHeap x.ls x.n0) with
  | some (v, h) => veq 8 v x.v && Nat.beq h.next x.n1 && Nat.beq h.lim LIM && hasAll h x.ls1
  | none => false
noncomputable def smG (x : SM) (args : Array Value) (h : AHeap) : Option (Value × AHeap) := match veq.veqs 8 (listOf args) x.args && Nat.beq h.next x.n0 && Nat.beq h.lim LIM && hasAll h x.ls with
  | true => some (x.v, mkHeap x.ls1 x.n1)
  | false => none
noncomputable def smK (x : SM) : Known := fun f => match Nat.beq f x.f with
  | true => some (smG x)
  | false => none
theorem less_of {h : AHeap} {l : List (Nat × AObj)} {n : Nat} (hh : hasAll h l = true) : ∀ b, (mkHeap l n).get b ≠ .dead → objEq (h.get b) ((mkHeap l n).get b) = true := by
  intro b hb
  obtain ⟨o, h1, h2⟩ := mkHeap_get hb
  rw [h2]
  exact hasAll_mem _ hh b o h1
theorem smK_sound {G : Nat} {CB : CallB} (hs : CallSound P G (callOf CB)) {x : SM} (hx : smRun CB x = true) : CallSound P G (smK x).call := by
  intro f args h v h' e
  unfold Known.call smK at e
  split at e <;> try (cases e; done)
  rename_i g hg
  split at hg <;> try (cases hg; done)
  rename_i hf
  obtain rfl := Nat.eq_of_beq_eq_true hf
  cases hg
  unfold smG at e
  split at e <;> try (cases e; done)
  rename_i hc
  simp only [Option.some.injEq, Prod.mk.injEq] at e
  obtain ⟨rfl, rfl⟩ := e
  simp only [Bool.and_eq_true] at hc
  obtain ⟨⟨⟨c1, c2⟩, c3⟩, c4⟩ := hc
  have c2 := Nat.eq_of_beq_eq_true c2
  have c3 := Nat.eq_of_beq_eq_true c3
  have hargs : args = ⟨x.args⟩ := by
    have := veq_eq 9 (.agg args) (.agg ⟨x.args⟩) (by simpa [veq, listOf_eq] using c1)
    simpa using this
  subst hargs
  unfold smRun at hx
  cases hr : (CB x.f).un ⟨x.args⟩ (mkHeap x.ls x.n0) with
  | none => rw [hr] at hx; cases hx
  | some r =>
    obtain ⟨vf, hF⟩ := r
    rw [hr] at hx
    simp only [Bool.and_eq_true] at hx
    obtain ⟨⟨⟨x1, x2⟩, x3⟩, x4⟩ := hx
    obtain rfl := veq_eq 8 _ _ x1
    have x2 := Nat.eq_of_beq_eq_true x2
    have x3 := Nat.eq_of_beq_eq_true x3
    obtain ⟨n1, n2⟩ := hs x.f _ _ _ _ hr
    have hn0 : (mkHeap x.ls x.n0).next = h.next := c2.symm
    have hl0 : (mkHeap x.ls x.n0).lim = h.lim := c3.symm
    refine ⟨⟨?_, ?_, fun b hb hd => ?_, fun b hb => ?_⟩, fun B m args' w ha hr0 hG => ?_⟩
    · show h.next ≤ x.n1
      rw [← x2, ← hn0]; exact n1.1
    · show LIM = h.lim
      exact c3.symm
    · cases hq : (mkHeap x.ls1 x.n1).get b with
      | dead => rfl
      | _ =>
        exfalso
        have l1 := (objEq_live (less_of (n := x.n1) x4 b (by rw [hq]; intro c; cases c))).1
        refine l1 (n1.2.2.1 b (by rw [hn0, hl0]; exact hb) ?_)
        cases hq0 : (mkHeap x.ls x.n0).get b with
        | dead => rfl
        | _ => exact absurd hd (objEq_live (less_of (n := x.n0) c4 b (by rw [hq0]; intro c; cases c))).1
    · exfalso
      have hlive : (mkHeap x.ls1 x.n1).get b ≠ .dead := by intro q; rw [q] at hb; cases hb
      have := (objEq_live (less_of (n := x.n1) x4 b hlive)).2.2
      rw [this] at hb; cases hb
    · refine (n2 B m args' w ha (Rel.less hr0 hn0 hl0 (less_of c4)) hG).mono ?_
      rintro e w' ⟨v', m', rfl, he, hrel, hv⟩
      refine ⟨v', m', rfl, ⟨he.1, fun b hb => he.2 b (by rw [hn0, hl0]; exact hb)⟩, Rel.less hrel ?_ ?_ (less_of x4), hv⟩
      · exact x2.symm
      · exact x3.symm
end
end Go.Ab
namespace Go.Ab
open Go Go.RowKit

/-! ## Values and objects that keep their numbers -/
theorem FixV.flat {σ : List Nat} {v : Value} (h : vflat 8 v = true) : FixV σ v := by
  intro m m' v' _ hv
  rw [hv.of_flat 8 h]
  exact vflat_rel m' 8 v h
theorem FixV.slice {σ : List Nat} {b o n c : Nat} (h : atOf σ b = some b) : FixV σ (.slice (some ⟨b, o, none⟩) n c) := by
  intro m m' v' hm hv
  have e : m' b = m b := hm b h
  cases hv with
  | slice _ _ _ _ l h1 h2 => exact .slice b o n c l (by rw [e]; exact h1) h2
  | oslice _ _ _ k l h1 h2 h3 h4 => exact .oslice b o n k l (by rw [e]; exact h1) h2 h3 h4
  | oslice0 _ _ k l a h1 h2 h3 => exact .oslice0 b o k l a (by rw [e]; exact h1) h2 h3
  | slice0 _ _ a => exact .slice0 b o a
def FixO (P : Program) (σ : List Nat) (o : AObj) : Prop := ∀ (m m' : Mu) (l : Loc) (w : World), (∀ y, atOf σ y = some y → m' y = m y) → OKObj P m l w o → OKObj P m' l w o
section
variable {P : Program} {B : Base}
theorem FixO.dead {σ : List Nat} : FixO P σ .dead := fun _ _ _ _ _ h => h
theorem FixO.row {σ : List Nat} {c : Row} {t : TypeId} (h : ∀ i v, c.get? i = some v → FixV σ v) : FixO P σ (.cells c t) := by
  intro m m' l w hm hok
  obtain ⟨C, fr, h1, h2, h3, h4, h5⟩ := hok
  refine ⟨C, fr, h1, h2, h3, fun i v hv => ?_, h5⟩
  obtain ⟨v', q1, q2⟩ := h4 i v hv
  exact ⟨v', q1, h i v hv m m' v' hm q2⟩
theorem FixO.of_one {σ : List Nat} {o : AObj} (h : OneForm o) : FixO P σ o := by
  rcases h with rfl | ⟨c, t, rfl | rfl, hc⟩
  · exact FixO.dead
  · intro m m' l w hm hok
    obtain ⟨C, te, fr, h1, h3, h4⟩ := hok
    refine ⟨C, te, fr, h1, h3, fun i v hv => ?_⟩
    obtain ⟨v', q1, q2⟩ := h4 i v hv
    exact ⟨v', q1, FixV.flat (hc i v hv) m m' v' hm q2⟩
  · exact FixO.row fun i v hv => FixV.flat (hc i v hv)
/-- As canonZ; what keeps its number may point to what keeps its own; the numbers are told. -/
theorem canonW {G : Nat} {S : Shape} {s : Tree Value × AHeap} {m : Mu} {a : Act} {w : World} {S2 : (Nat → Value) → (Nat → Nat → Value) → Tree Value × AHeap}
    (hR : ∀ y, S.R y = false) (hZ : ∀ jt jh y, S.Z y = true → FixO P S.σ ((S2 jt jh).2.get y)) (hZT : ∀ jt jh i, S.ZT i = true → FixV S.σ (Tget (S2 jt jh).1 i)) (hc : ∀ jt jh, canonS S G s jt jh = some (S2 jt jh)) (hT : TRel m S.n s.1 a.tmps) (hr : Rel P B m s.2 w) (hG : GRel G m) :
    ∃ m2 jt jh, GRel G m2 ∧ TRel m2 S.n (S2 jt jh).1 a.tmps ∧ Rel P B m2 (S2 jt jh).2 w ∧ ∀ y b, atOf S.σ y = some b → m2 y = m b := by
  let m2 := mu2 m S.σ s.2.lim
  let jt : Nat → Value := fun t => junkOf m2 (a.tmps.getD t undef)
  let jh : Nat → Nat → Value := fun y i => heldAt m2 w (m2 y) i
  refine ⟨m2, jt, jh, ?_⟩
  have e := hc jt jh
  unfold canonS at e
  split at e
  · rename_i hok
    simp only [Bool.and_eq_true, Nat.ble_eq] at hok
    obtain ⟨⟨ho, hl⟩, hg⟩ := hok
    have hf : ∀ b, m2 (renB S.σ s.2.lim b) = m b := mu2_renB hl
    split at e
    · rename_i T t hT2 hH2
      rw [← Option.some.inj e]
      have hat : ∀ y b, atOf S.σ y = some b → m2 y = m b := by
        intro y b hy
        show mu2 m S.σ s.2.lim y = m b
        unfold mu2; rw [hy]
      have hget : ∀ y b, atOf S.σ y = some b → renO (renB S.σ s.2.lim) (S.K y) (S.R y) (S.Z y) (jh y) (s.2.get b) = some (t.get .dead y) := fun y b hy => (renH_get _ _ _ _ hH2 y).1 b (Nat.zero_le _) hy
      have hout : ∀ y, S.σ.length ≤ y → t.get .dead y = .dead := fun y hy => by
        rw [(renH_get _ _ _ _ hH2 y).2 (.inr (by omega)), Tree.get_leaf]
      have hin : ∀ y, t.get .dead y ≠ .dead → ∃ b, atOf S.σ y = some b ∧ s.2.get b ≠ .dead := by
        intro y hy
        have hlt : y < S.σ.length := by
          rcases Nat.lt_or_ge y S.σ.length with h | h
          · exact h
          · exact absurd (hout y h) hy
        obtain ⟨b, hb⟩ := atOf_some _ _ hlt
        exact ⟨b, hb, fun q => hy ((isRo_renO (hget y b hb)).2 q)⟩
      refine ⟨?_, ?_, ?_, hat⟩
      · intro g hgG
        have q := List.all_eq_true.1 hg g (by simpa using hgG)
        split at q
        · rename_i x hx
          obtain rfl := Nat.eq_of_beq_eq_true q
          obtain ⟨l, h1, h2⟩ := hG x hgG
          exact ⟨l, by rw [hat _ _ hx]; exact h1, h2⟩
        · cases q
      · refine ⟨hT.size, fun i => ?_⟩
        show VRel m2 (T.get undef i) _
        rcases Nat.lt_or_ge i S.n with hi | hi
        · have q := (cellsF_get _ _ _ _ hT2 i).1 ⟨by omega, by omega⟩
          unfold keepT at q
          split at q
          · rename_i hz
            have q2 := hZT jt jh i hz
            rw [← Option.some.inj e] at q2
            have q2' : FixV S.σ (T.get undef i) := q2
            rw [← Option.some.inj q] at q2' ⊢
            exact q2' m m2 _ (fun y hy => hat y y hy) (hT.rel i)
          · unfold keepV at q
            split at q
            · exact renV_rel hf (hT.rel i) _ _ q
            · rw [← Option.some.inj q]
              exact junkOf_rel (junk_rel hf (hT.rel i))
        · rw [(cellsF_get _ _ _ _ hT2 i).2 (by omega), Tree.get_leaf, Array.getD_eq_getD_getElem?, Array.getElem?_eq_none (by rw [hT.size]; exact hi)]
          exact vflat_rel m2 8 undef rfl
      · refine ⟨hr.os, hr.tape, hr.output, hr.prot, ?_, ?_, ?_⟩
        · intro y hy
          obtain ⟨b, hb, hlive⟩ := hin y hy
          obtain ⟨l, h1, h2, h3⟩ := hr.obj b hlive
          have q := hget y b hb
          have e2 : m2 y = some l := by rw [hat y b hb]; exact h1
          refine ⟨l, e2, protOf_same (isRo_renO q).1 h2, ?_⟩
          have q2 : renO (renB S.σ s.2.lim) (S.K y) (S.R y) (S.Z y) (heldAt m2 w (some l)) (s.2.get b) = some (t.get .dead y) := by
            rw [← e2]; exact q
          cases hzy : S.Z y with
          | true =>
            rw [hzy] at q2
            have q3 : s.2.get b = t.get .dead y := Option.some.inj q2
            have q5 := hZ jt jh y hzy
            rw [← Option.some.inj e] at q5
            have q6 : FixO P S.σ (t.get .dead y) := q5
            rw [← q3] at q6
            show OKObj P m2 l w (t.get .dead y)
            rw [← q3]
            exact q6 m m2 l w (fun y hy => hat y y hy) h3
          | false =>
            rw [hzy] at q2
            exact ok_ren1 hf (fun hR2 => by rw [hR y] at hR2; cases hR2) h3 q2
        · intro y y' l l' hy hy' hro h1 h2 he
          obtain ⟨b, hb, hlive⟩ := hin y hy
          obtain ⟨b', hb', hlive'⟩ := hin y' hy'
          rw [hat _ _ hb] at h1
          rw [hat _ _ hb'] at h2
          have hro' : isRo (s.2.get b') = false := by rw [← (isRo_renO (hget y' b' hb')).1]; exact hro
          have := hr.sep b b' l l' hlive hlive' hro' h1 h2 he
          subst this
          exact onceOk_inj _ ho _ _ _ hb hb'
        · intro y h1 h2
          have h1' : S.σ.length ≤ y := h1
          have h2' : y < s.2.lim := h2
          refine ⟨hout y h1', ?_⟩
          show mu2 m S.σ s.2.lim y = none
          unfold mu2
          cases e : atOf S.σ y with
          | some b => have := atOf_lt _ _ _ e; omega
          | none => dsimp only; rw [if_neg (by omega)]
    · cases e
  · cases e

/-! ## Rows that are kept outside of the memory that is reckoned with -/
/-- What an object holds. -/
def HoldsO (P : Program) (m : Mu) (l : Loc) (o : Obj) (ob : AObj) : Prop := ∀ w : World, w.heap[l.blk]? = some o → OKObj P m l w ob
theorem holds_of {m : Mu} {l : Loc} {o : Obj} {ob : AObj} {w : World} (h : OKObj P m l w ob) (ho : w.heap[l.blk]? = some o) : HoldsO P m l o ob :=
  fun w' hw' => h.congr (Mu.le_refl m) (hw'.trans ho.symm)
theorem okRow_map {m m' : Mu} {l : Loc} {w : World} {c c' : Row} {t : TypeId} (hlen : c'.len = c.len) (h : ∀ i v, c'.get? i = some v → ∃ u, c.get? i = some u ∧ ∀ v', VRel m u v' → VRel m' v v') (hok : OKObj P m l w (.cells c t)) : OKObj P m' l w (.cells c' t) := by
  obtain ⟨C, fr, h1, h2, h3, h4, h5⟩ := hok
  refine ⟨C, fr, h1, h2, by rw [hlen]; exact h3, fun i v hv => ?_, h5⟩
  obtain ⟨u, q1, q2⟩ := h i v hv
  obtain ⟨v', p1, p2⟩ := h4 i u q1
  exact ⟨v', p1, q2 v' p2⟩
theorem okRow_ro {m m' : Mu} {l : Loc} {w : World} {c c' : Row} {t t' : TypeId} (hlen : c'.len = c.len) (h : ∀ i v, c'.get? i = some v → ∃ u, c.get? i = some u ∧ ∀ v', VRel m u v' → VRel m' v v') (hok : OKObj P m l w (.cells c t)) : OKObj P m' l w (.ro c' t') := by
  obtain ⟨C, fr, h1, h2, h3, h4, h5⟩ := hok
  refine ⟨C, t, fr, h1, by rw [hlen]; exact h3, fun i v hv => ?_⟩
  obtain ⟨u, q1, q2⟩ := h i v hv
  obtain ⟨v', p1, p2⟩ := h4 i u q1
  exact ⟨v', p1, q2 v' p2⟩
/-- Another word for what a block holds. -/
theorem Rel.reobj {m : Mu} {h : AHeap} {w : World} (hr : Rel P B m h w) {b : Nat} {o : AObj} (hb : h.get b ≠ .dead) (hro : isRo o = isRo (h.get b)) (hok : ∀ l, m b = some l → OKObj P m l w (h.get b) → OKObj P m l w o) : Rel P B m (h.put b o) w := by
  have live : ∀ c, (h.put b o).get c ≠ .dead → h.get c ≠ .dead := by
    intro c hc
    rw [AHeap.get_put] at hc
    split at hc
    · rename_i e; rw [e]; exact hb
    · exact hc
  refine ⟨hr.os, hr.tape, hr.output, hr.prot, fun c hc => ?_, fun c c' l1 l2 hc hc' hr2 h1 h2 e => ?_, fun c h1 h2 => ?_⟩
  · obtain ⟨l, h1, h2, h3⟩ := hr.obj c (live c hc)
    rw [AHeap.get_put]
    split
    · rename_i e
      subst e
      exact ⟨l, h1, protOf_same hro h2, hok l h1 h3⟩
    · exact ⟨l, h1, h2, h3⟩
  · refine hr.sep c c' l1 l2 (live c hc) (live c' hc') ?_ h1 h2 e
    rw [AHeap.get_put] at hr2
    split at hr2
    · rename_i e; rw [e, ← hro]; exact hr2
    · exact hr2
  · have h1' : h.next ≤ c := h1
    have h2' : c < h.lim := h2
    have hf := hr.fresh c h1' h2'
    refine ⟨?_, hf.2⟩
    rw [AHeap.get_put, if_neg]
    · exact hf.1
    · rintro rfl; exact hb hf.1
/-- A row that the base keeps is laid, to be read, under a number that is named. -/
theorem Rel.putRo {m : Mu} {h : AHeap} {w : World} (hr : Rel P B m h w) {b : Nat} {l : Loc} {c : Row} {t : TypeId} (hd : h.get b = .dead) (hb : b < h.next) (hl : m b = some l) (hp : B.prot l.blk ≠ none) (hok : OKObj P m l w (.ro c t)) : Rel P B m (h.put b (.ro c t)) w := by
  refine ⟨hr.os, hr.tape, hr.output, hr.prot, fun c' hc => ?_, fun c1 c2 l1 l2 hc hc' hr2 h1 h2 e => ?_, fun c' h1 h2 => ?_⟩
  · by_cases e : c' = b
    · subst e
      rw [AHeap.get_put, if_pos rfl]
      exact ⟨l, hl, hp, hok⟩
    · rw [AHeap.get_put, if_neg e] at hc ⊢
      exact hr.obj c' hc
  · by_cases e2 : c2 = b
    · subst e2
      rw [AHeap.get_put, if_pos rfl] at hr2
      cases hr2
    · rw [AHeap.get_put, if_neg e2] at hc' hr2
      by_cases e1 : c1 = b
      · subst e1
        rw [hl] at h1
        obtain rfl := Option.some.inj h1
        obtain ⟨l3, q1, q2, _⟩ := hr.obj c2 hc'
        rw [h2] at q1
        obtain rfl := Option.some.inj q1
        exact absurd (protOf_none q2 hr2) (by rw [← e]; exact hp)
      · rw [AHeap.get_put, if_neg e1] at hc
        exact hr.sep c1 c2 l1 l2 hc hc' hr2 h1 h2 e
  · have h1' : h.next ≤ c' := h1
    have h2' : c' < h.lim := h2
    rw [AHeap.get_put, if_neg (by omega)]
    exact hr.fresh c' h1' h2'
def Base.without (B : Base) (k : Nat) : Base := { B with prot := fun x => if x = k then none else B.prot x }
/-- A row that the base kept is taken up under its number. -/
theorem Rel.takeUp {m : Mu} {h : AHeap} {w : World} (hr : Rel P B m h w) {b : Nat} {l : Loc} {ob : AObj} (hd : h.get b = .dead) (hb : b < h.next) (hl : m b = some l) (hne : ∀ c, h.get c ≠ .dead → ∀ l', m c = some l' → l'.blk ≠ l.blk) (hno : isRo ob = false) (hok : OKObj P m l w ob) : Rel P (B.without l.blk) m (h.put b ob) w := by
  refine ⟨hr.os, hr.tape, hr.output, fun k o hk => ?_, fun c hc => ?_, fun c1 c2 l1 l2 hc hc' hr2 h1 h2 e => ?_, fun c h1 h2 => ?_⟩
  · have hk' : (if k = l.blk then none else B.prot k) = some o := hk
    split at hk'
    · cases hk'
    · exact hr.prot k o hk'
  · by_cases e : c = b
    · subst e
      rw [AHeap.get_put, if_pos rfl]
      refine ⟨l, hl, protOf_mk (fun q => by rw [hno] at q; cases q) (fun _ => ?_), hok⟩
      show (if l.blk = l.blk then none else B.prot l.blk) = none
      rw [if_pos rfl]
    · rw [AHeap.get_put, if_neg e] at hc ⊢
      obtain ⟨l', h1, h2, h3⟩ := hr.obj c hc
      refine ⟨l', h1, ?_, h3⟩
      show protOf (h.get c) (if l'.blk = l.blk then none else B.prot l'.blk)
      rw [if_neg (hne c hc l' h1)]
      exact h2
  · by_cases e1 : c1 = b
    · by_cases e2 : c2 = b
      · rw [e1, e2]
      · rw [AHeap.get_put, if_neg e2] at hc'
        subst e1
        rw [hl] at h1
        obtain rfl := Option.some.inj h1
        exact absurd e.symm (hne c2 hc' l2 h2)
    · rw [AHeap.get_put, if_neg e1] at hc
      by_cases e2 : c2 = b
      · subst e2
        rw [hl] at h2
        obtain rfl := Option.some.inj h2
        exact absurd e (hne c1 hc l1 h1)
      · rw [AHeap.get_put, if_neg e2] at hc' hr2
        exact hr.sep c1 c2 l1 l2 hc hc' hr2 h1 h2 e
  · have h1' : h.next ≤ c := h1
    have h2' : c < h.lim := h2
    rw [AHeap.get_put, if_neg (by omega)]
    exact hr.fresh c h1' h2'
/-- A number that names nothing names a block from now on. -/
theorem Rel.nameAt {m : Mu} {h : AHeap} {w : World} (hr : Rel P B m h w) {b : Nat} (hm : m b = none) (hb : b < h.next) (l : Loc) : Rel P B (m.add b l) h w := by
  have hle : Mu.le m (m.add b l) := Mu.le_add hm
  have old : ∀ c l', h.get c ≠ .dead → (m.add b l) c = some l' → m c = some l' := by
    intro c l' hc hl'
    obtain ⟨l2, h1, _⟩ := hr.obj c hc
    have hne : c ≠ b := by rintro rfl; rw [hm] at h1; cases h1
    unfold Mu.add at hl'
    rwa [if_neg hne] at hl'
  refine ⟨hr.os, hr.tape, hr.output, hr.prot, fun c hc => ?_, fun c c' l1 l2 h1 h2 h3 m1 m2 e => hr.sep c c' l1 l2 h1 h2 h3 (old c l1 h1 m1) (old c' l2 h2 m2) e, fun c h1 h2 => ?_⟩
  · obtain ⟨l2, h1, h2, h3⟩ := hr.obj c hc
    exact ⟨l2, hle _ _ h1, h2, h3.congr hle rfl⟩
  · refine ⟨(hr.fresh c h1 h2).1, ?_⟩
    have h1' : h.next ≤ c := h1
    unfold Mu.add
    rw [if_neg (by omega)]
    exact (hr.fresh c h1 h2).2
end
/-! ## Parts that tell what names what -/
section
variable {P : Program} {G n : Nat} {enters : FuncId → FKind} {CB : CallB} {CC : CallC} {DB : DrawB} {DC : DrawC}
theorem oneE_wp (hE : Enters P enters) (hz : ZF P) (hC : CallSound P G (callOf CB)) (hCC : CallEq CB CC) (hDC : DrawEq DB DC) (hD : DrawGood P G (fun ops T h => (DB ops).un T h)) {mk : Mk} {K : Nat} {c : Code} {s s' : Tree Value × AHeap} {tp tp' : Tape} {lg : Noted} {e : AExit} {B : Base} {m : Mu} {a : Act} {w : World} {Q : Exit → Act → World → Prop}
    (hp : plansOk P c = true) (hok : codeOk G n c = true) (hx : (codeC P enters CB CC DC mk K c).un s.1 s.2 tp [] = (match e with | .normal => .normal s'.1 s'.2 tp' lg | .exit id => .exit id s'.1 s'.2 tp' lg | .ret => .ret s'.1 s'.2 tp' lg)) (hl : NotedOk lg) (hT : TRel m n s.1 a.tmps) (hr : Rel P B m s.2 w) (hG : GRel G m)
    (hk : ∀ m' a' w', Ext s.2 m m' → GRel G m' → TRel m' n s'.1 a'.tmps → a'.defers = a.defers → Rel P B m' s'.2 w' → Q e.toExit a' w') : c.wp P Q a w := by
  have q := codeC_eq (P := P) (enters := enters) (DB := DB) hCC hDC mk K c s.1 s.2 tp []
  rw [hx] at q
  cases e with
  | normal =>
    obtain ⟨_, q2⟩ := codeB_sound (n := n) hE hz hC hD K c hp _ _ .normal _ _ (q hl).2
    exact q2 B m a w Q hok hT hr hG fun m' a' w' d1 d2 d3 d4 => hk m' a' w' d1 (hG.mono d1.1) d2 d3 d4
  | exit id =>
    obtain ⟨_, q2⟩ := codeB_sound (n := n) hE hz hC hD K c hp _ _ (.exit id) _ _ (q hl).2
    exact q2 B m a w Q hok hT hr hG fun m' a' w' d1 d2 d3 d4 => hk m' a' w' d1 (hG.mono d1.1) d2 d3 d4
  | ret =>
    obtain ⟨_, q2⟩ := codeB_sound (n := n) hE hz hC hD K c hp _ _ .ret _ _ (q hl).2
    exact q2 B m a w Q hok hT hr hG fun m' a' w' d1 d2 d3 d4 => hk m' a' w' d1 (hG.mono d1.1) d2 d3 d4
/-- The end, where the base keeps more than the caller's memory. -/
theorem lastB_wp (hE : Enters P enters) (hz : ZF P) (hC : CallSound P G (callOf CB)) (hCC : CallEq CB CC) (hDC : DrawEq DB DC) (hD : DrawGood P G (fun ops T h => (DB ops).un T h)) {mk : Mk} {K : Nat} {r : Code} {s : Tree Value × AHeap} {tp : Tape} {fn : Func} {W : World} {B : Base} {m : Mu} {a : Act} {w : World} {v : Value} {x : OutC}
    (hB : ∀ m h w, Rel P B m h w → Below W.heap.size W w)
    (hp : plansOk P r = true) (hok : codeOk G n r = true) (hv : vflat 8 v = true) (hx : lastC P enters CB CC DC mk K fn r s tp = some x) (hxv : x.v = v) (hl : NotedOk x.lg) (hT : TRel m n s.1 a.tmps) (hr : Rel P B m s.2 w) (hG : GRel G m) (hd : a.defers = []) :
    r.wp P (bodyPost P fn fun e w' => e = .returned v ∧ Below W.heap.size W w') a w := by
  subst hxv
  have q := codeC_eq (P := P) (enters := enters) (DB := DB) hCC hDC mk K r s.1 s.2 tp []
  unfold lastC at hx
  revert q hx
  cases (codeC P enters CB CC DC mk K r).un s.1 s.2 tp [] with
  | ret T' h' tp' lg' =>
    intro hx q
    dsimp only at hx
    split at hx
    · rename_i vs hvs
      cases hx
      obtain ⟨_, q2⟩ := codeB_sound (n := n) hE hz hC hD K r hp _ _ .ret _ _ (q hl).2
      refine q2 B m a w _ hok hT hr hG ?_
      intro m' a' w' c1 c2 c3 c4
      obtain ⟨v', r1, r2⟩ := results_sound c4 c2 (resB_some hvs)
      exact ⟨c3.trans hd, v', r1, by rw [r2.of_flat 8 hv], hB _ _ _ c4⟩
    · cases hx
  | _ => intro hx; cases hx
end
end Go.Ab
namespace Go.Ab
open Go Go.RowKit
section
variable {P : Program} {G : Nat}

/-! ## Functions of plain values that leave the memory as it is -/
def pureK (f : FuncId) (g : List Value → Option Value) : Known := fun f' => match Nat.beq f f' with
  | true => some (fun args h => match g (listOf args) with | some v => some (v, h) | none => none)
  | false => none
theorem pureK_sound {f : FuncId} {g : List Value → Option Value} (hg : ∀ l v, g l = some v → MemoOk P ⟨f, l, v⟩) : CallSound P G (pureK f g).call := by
  intro f' args h v h' e
  unfold Known.call pureK at e
  cases hb : Nat.beq f f' with
  | false => rw [hb] at e; cases e
  | true =>
    rw [hb] at e
    dsimp only at e
    obtain rfl := Nat.eq_of_beq_eq_true hb
    cases hv : g (listOf args) with
    | none => rw [hv] at e; cases e
    | some u =>
      rw [hv] at e
      simp only [Option.some.injEq, Prod.mk.injEq] at e
      obtain ⟨rfl, rfl⟩ := e
      obtain ⟨k1, k2, k3⟩ := hg _ _ hv
      rw [listOf_eq] at k1 k3
      refine ⟨Nx.refl _, fun B m args' w ha hr hG => ?_⟩
      have e2 : args' = args := by
        refine Array.ext ha.1.symm fun i a b => ?_
        exact (ha.2 i b a).of_flat 8 (List.all_eq_true.1 k1 _ (by simp))
      rw [e2]
      refine (k3 w).mono ?_
      rintro e w' ⟨rfl, hb⟩
      exact ⟨_, m, rfl, Ext.refl _ m, hr.below hb, vflat_rel m 8 _ k2⟩
/-- By the function's text. -/
theorem pure_of_wp {f : FuncId} {fn : Func} {body : Code} {l : List Value} {v : Value} {n : Nat} (hf : P.funcs[f]? = some fn) (hb : fn.body = some body) (hn : fn.ntmps = n) (hl : l.length ≤ n) (ha : l.all (vflat 8) = true) (hv : vflat 8 v = true)
    (h : ∀ (W : World) (a : Act), TRel (muG G) n (initT l 0 .leaf) a.tmps → a.defers = [] → body.wp P (bodyPost P fn fun e w' => e = .returned v ∧ Below W.heap.size W w') a W) : MemoOk P ⟨f, l, v⟩ := by
  subst hn
  refine ⟨ha, hv, fun W => calls_of_wp hf hb (h W _ ?_ rfl)⟩
  exact initT_rel (args := l.toArray) (args' := l.toArray) ⟨rfl, fun i h1 _ => vflat_rel _ 8 _ (List.all_eq_true.1 ha _ (by simp))⟩ (by simpa using hl)
/-- Two that are known. -/
theorem orK_pure {k1 k2 : Known} (h1 : CallSound P G k1.call) (h2 : CallSound P G k2.call) : CallSound P G (orK k1 k2).call := orK_sound h1 h2
/-! ## The same where one read-only row of plain values is laid -/
/-- Block 'k' of the world holds the row. -/
def TblW (P : Program) (G k : Nat) (ob : AObj) (W : World) : Prop := OKObj P (muG G) ⟨k, 0, 0⟩ W ob
/-- The first memory, with the row. -/
def tblOf (G k : Nat) (ob : AObj) : AHeap := (bareOf G).put k ob
structure PlainRo (ob : AObj) : Prop where
  row : ∃ c t, ob = .ro c t
  flat : ∀ c t, ob = .ro c t → ∀ i v, c.get? i = some v → vflat 8 v = true
theorem ro_okobj {m m' : Mu} {l l' : Loc} {w : World} {ob : AObj} (hp : PlainRo ob) (hb : l.blk = l'.blk) (ho : l.off = l'.off) (h : OKObj P m l w ob) : OKObj P m' l' w ob := by
  obtain ⟨c, t, rfl⟩ := hp.row
  obtain ⟨C, te, fr, h1, h2, h3⟩ := h
  refine ⟨C, te, fr, by rw [← hb]; exact h1, by rw [← ho]; exact h2, fun i v hv => ?_⟩
  obtain ⟨v', q1, q2⟩ := h3 i v hv
  refine ⟨v', by rw [← ho]; exact q1, ?_⟩
  rw [q2.of_flat 8 (hp.flat c t rfl i v hv)]
  exact vflat_rel m' 8 v (hp.flat c t rfl i v hv)
/-- What a function of plain values gives, in every world that holds the row. -/
def MemoT (P : Program) (G k : Nat) (ob : AObj) (x : Memo) : Prop := x.args.all (vflat 8) = true ∧ vflat 8 x.v = true ∧ ∀ W, TblW P G k ob W → Calls P x.f x.args.toArray W fun e w' => e = .returned x.v ∧ Below W.heap.size W w'
open Classical in
noncomputable def pureT (f : FuncId) (k : Nat) (ob : AObj) (g : List Value → Option Value) : Known := fun f' => match Nat.beq f f' with
  | true => some (fun args h => if heapGet h k = ob then (match g (listOf args) with | some v => some (v, h) | none => none) else none)
  | false => none
theorem pureT_sound {f : FuncId} {k : Nat} {ob : AObj} {g : List Value → Option Value} (hk : k < G) (hp : PlainRo ob) (hg : ∀ l v, g l = some v → MemoT P G k ob ⟨f, l, v⟩) : CallSound P G (pureT f k ob g).call := by
  intro f' args h v h' e
  unfold Known.call pureT at e
  cases hb : Nat.beq f f' with
  | false => rw [hb] at e; cases e
  | true =>
    rw [hb] at e
    dsimp only at e
    obtain rfl := Nat.eq_of_beq_eq_true hb
    split at e
    · rename_i hob
      cases hv : g (listOf args) with
      | none => rw [hv] at e; cases e
      | some u =>
        rw [hv] at e
        simp only [Option.some.injEq, Prod.mk.injEq] at e
        obtain ⟨rfl, rfl⟩ := e
        obtain ⟨k1, k2, k3⟩ := hg _ _ hv
        rw [listOf_eq] at k1 k3
        refine ⟨Nx.refl _, fun B m args' w ha hr hG => ?_⟩
        have e2 : args' = args := by
          refine Array.ext ha.1.symm fun i a b => ?_
          exact (ha.2 i b a).of_flat 8 (List.all_eq_true.1 k1 _ (by simp))
        rw [e2]
        have hget : h.get k = ob := (heapGet_eq h k).symm.trans hob
        have hne : h.get k ≠ .dead := by
          rw [hget]
          obtain ⟨c, t, rfl⟩ := hp.row
          exact fun q => by cases q
        obtain ⟨l, q1, _, q3⟩ := hr.obj k hne
        obtain ⟨l2, q4, q5, q6⟩ := hG k hk
        rw [q1] at q4
        obtain rfl := Option.some.inj q4
        rw [hget] at q3
        refine (k3 w (ro_okobj (l' := ⟨k, 0, 0⟩) hp q5 q6 q3)).mono ?_
        rintro e w' ⟨rfl, hb⟩
        exact ⟨_, m, rfl, Ext.refl _ m, hr.below hb, vflat_rel m 8 _ k2⟩
    · cases e
/-- The first memory stands for every world that holds the row. -/
theorem tblRel {k : Nat} {ob : AObj} (hk : k < G) (hp : PlainRo ob) {W : World} (hW : TblW P G k ob W) (hW2 : k < W.heap.size) : Rel P (baseOf W) (muG G) (tblOf G k ob) W := by
  obtain ⟨c, t, rfl⟩ := hp.row
  refine (initRel G W).putRo (l := ⟨k, 0, 0⟩) (by simp [bareOf, AHeap.get, Tree.get_leaf]) (by show k < G + 8; omega) (by simp [muG, hk]) ?_ hW
  show W.heap[k]? ≠ none
  rw [Array.getElem?_eq_getElem hW2]
  exact fun q => by cases q
theorem tblW_lt {k : Nat} {ob : AObj} (hp : PlainRo ob) {W : World} (hW : TblW P G k ob W) : k < W.heap.size := by
  obtain ⟨c, t, rfl⟩ := hp.row
  obtain ⟨C, te, fr, h1, _⟩ := hW
  rcases Nat.lt_or_ge k W.heap.size with h | h
  · exact h
  · rw [Array.getElem?_eq_none h] at h1; cases h1
/-- By a run. -/
theorem memoT_of_run {CB : CallB} {k : Nat} {ob : AObj} (hk : k < G) (hp : PlainRo ob) (hs : CallSound P G (callOf CB)) {x : Memo} (ha : x.args.all (vflat 8) = true) (hv : vflat 8 x.v = true) (h : ((CB x.f).un x.args.toArray (tblOf G k ob)).map (·.1) = some x.v) : MemoT P G k ob x := by
  refine ⟨ha, hv, fun W hW => ?_⟩
  obtain ⟨⟨v', h'⟩, h1, h2⟩ := Option.map_eq_some_iff.1 h
  subst h2
  refine ((hs x.f x.args.toArray (tblOf G k ob) _ h' h1).2 (baseOf W) (muG G) x.args.toArray W ⟨rfl, fun i h1 _ => vflat_rel _ 8 _ (List.all_eq_true.1 ha _ (by simp))⟩ (tblRel hk hp hW (tblW_lt hp hW)) (muG_rel G)).mono ?_
  rintro e w' ⟨u, m', rfl, _, hr, hu⟩
  exact ⟨by rw [hu.of_flat 8 hv], below_of_rel hr⟩
/-- By the function's text. -/
theorem memoT_of_wp {f : FuncId} {fn : Func} {body : Code} {l : List Value} {v : Value} {n k : Nat} {ob : AObj} (hk : k < G) (hp : PlainRo ob) (hf : P.funcs[f]? = some fn) (hb : fn.body = some body) (hn : fn.ntmps = n) (hl : l.length ≤ n) (ha : l.all (vflat 8) = true) (hv : vflat 8 v = true)
    (h : ∀ (W : World) (a : Act), Rel P (baseOf W) (muG G) (tblOf G k ob) W → TRel (muG G) n (initT l 0 .leaf) a.tmps → a.defers = [] → body.wp P (bodyPost P fn fun e w' => e = .returned v ∧ Below W.heap.size W w') a W) : MemoT P G k ob ⟨f, l, v⟩ := by
  subst hn
  refine ⟨ha, hv, fun W hW => calls_of_wp hf hb (h W _ (tblRel hk hp hW (tblW_lt hp hW)) ?_ rfl)⟩
  exact initT_rel (args := l.toArray) (args' := l.toArray) ⟨rfl, fun i h1 _ => vflat_rel _ 8 _ (List.all_eq_true.1 ha _ (by simp))⟩ (by simpa using hl)
end
/-- 10: a call told where block 'k' is looked at. -/
def with10 (l : List (Nat × List Nat)) (k : Nat) (mk : Marks) (g : Nat) (t : Nat) : Nat := match Nat.beq t 1000000 with
  | true => k
  | false => match l.any (fun x => Nat.beq x.1 g && inL x.2 t) with
    | true => 10
    | false => mk g t
def with9 (l : List (Nat × List Nat)) (mk : Marks) (g : Nat) (t : Nat) : Nat := match l.any (fun x => Nat.beq x.1 g && inL x.2 t) with
  | true => 9
  | false => mk g t
/-- 7: the next character of a text; 8: a text as bytes. -/
def with7 (l : List (Nat × List Nat)) (mk : Marks) (g : Nat) (t : Nat) : Nat := match l.any (fun x => Nat.beq x.1 g && inL x.2 t) with
  | true => 7
  | false => mk g t
def with8 (l : List (Nat × List Nat)) (mk : Marks) (g : Nat) (t : Nat) : Nat := match l.any (fun x => Nat.beq x.1 g && inL x.2 t) with
  | true => 8
  | false => mk g t
/-! ### Texts in bytes -/
theorem nthL_get (l : List UInt8) (i : Nat) : nthL l i = (l[i]?).map u8n := by
  rw [nthL_eq]
  cases l[i]? <;> rfl
end Go.Ab
namespace Go.Ab
open Go Go.RowKit
section
variable {P : Program}

/-! ## Told runs through functions that defer -/
structure OutD where
  T : Tree Value
  h : AHeap
  ds : List DCall
  tp : Tape
  lg : Noted
noncomputable def opsDC (P : Program) (enters : FuncId → FKind) (CB : CallB) (CC : CallC) (mk : Mk) (ops : Array Oper) : List Oper → Tree Value → AHeap → List DCall → Tape → Noted → Option OutD
  | [], T, h, ds, tp, lg => some ⟨T, h, ds, tp, lg⟩
  | o :: rest, T, h, ds, tp, lg => match deferOf o with
    | some (f, as) => match (rdB f).un T with
      | .func (.func g) first cap => opsDC P enters CB CC mk ops rest ((putB o.dst).un T undef) h (⟨g, cap, appV first ((argsB as).un T)⟩ :: ds) tp lg
      | _ => none
    | none => match (stepC P enters CB CC mk ops o).un T h tp lg with
      | some ⟨v, h', tp', lg'⟩ => opsDC P enters CB CC mk ops rest ((putB o.dst).un T v) h' ds tp' lg'
      | none => none
theorem opsDC_eq {enters : FuncId → FKind} {CB : CallB} {CC : CallC} (hC : CallEq CB CC) {mk : Mk} {ops : Array Oper} : ∀ (l : List Oper) (T : Tree Value) (h : AHeap) (ds : List DCall) (tp : Tape) (lg : Noted) (r : OutD), opsDC P enters CB CC mk ops l T h ds tp lg = some r → NotedOk r.lg →
    NotedOk lg ∧ opsD P enters CB ops l T h ds = some (r.T, r.h, r.ds) := by
  intro l
  induction l with
  | nil => intro T h ds tp lg r e hl; simp only [opsDC, Option.some.injEq] at e; subst e; exact ⟨hl, rfl⟩
  | cons o l ih =>
    intro T h ds tp lg r e hl
    simp only [opsDC] at e
    simp only [opsD]
    split at e
    · rename_i f as hd
      rw [hd]
      dsimp only
      split at e
      · rename_i g first cap hf
        rw [hf]
        exact ih _ _ _ _ _ _ e hl
      · cases e
    · rename_i hd
      rw [hd]
      dsimp only
      split at e
      · rename_i v h' tp' lg' h1
        obtain ⟨q1, q2⟩ := ih _ _ _ _ _ _ e hl
        obtain ⟨p1, p2⟩ := stepC_eq hC h1 q1
        exact ⟨p1, by rw [p2]; exact q2⟩
      · cases e
inductive RDC where
  | none
  | normal (T : Tree Value) (h : AHeap) (ds : List DCall) (tp : Tape) (lg : Noted)
  | exit (id : Nat) (T : Tree Value) (h : AHeap) (ds : List DCall) (tp : Tape) (lg : Noted)
  | ret (T : Tree Value) (h : AHeap) (ds : List DCall) (tp : Tape) (lg : Noted)
def RDC.is (lg : Noted) (y : RD) : RDC → Prop
  | .none => True
  | .normal T h ds _ lg' => NotedOk lg' → NotedOk lg ∧ y = .normal T h ds
  | .exit id T h ds _ lg' => NotedOk lg' → NotedOk lg ∧ y = .exit id T h ds
  | .ret T h ds _ lg' => NotedOk lg' → NotedOk lg ∧ y = .ret T h ds
def rdcOf (x : RCC) (ds : List DCall) : RDC := match x with
  | .none => .none
  | .normal T h tp lg => .normal T h ds tp lg
  | .exit id T h tp lg => .exit id T h ds tp lg
  | .ret T h tp lg => .ret T h ds tp lg
def rdcOf3 (x : Option OutD) : RDC := match x with | some ⟨T, h, ds, tp, lg⟩ => .normal T h ds tp lg | none => .none
noncomputable def codeDC (P : Program) (enters : FuncId → FKind) (CB : CallB) (CC : CallC) (DC : DrawC) (mk : Mk) (K : Nat) : Code → Box (Tree Value → AHeap → List DCall → Tape → Noted → RDC)
  | .region _ ops false => ⟨fun T h ds tp lg => rdcOf3 (opsDC P enters CB CC mk ops ops.toList T h ds tp lg)⟩
  | .seq a b => ⟨fun T h ds tp lg => match (codeDC P enters CB CC DC mk K a).un T h ds tp lg with | .normal T' h' ds' tp' lg' => (codeDC P enters CB CC DC mk K b).un T' h' ds' tp' lg' | .none => .none | .exit id T' h' ds' tp' lg' => .exit id T' h' ds' tp' lg' | .ret T' h' ds' tp' lg' => .ret T' h' ds' tp' lg'⟩
  | .cond c a b => ⟨fun T h ds tp lg => match (rdB c).un T with | .bool true => (codeDC P enters CB CC DC mk K a).un T h ds tp lg | .bool false => (codeDC P enters CB CC DC mk K b).un T h ds tp lg | _ => .none⟩
  | c => ⟨fun T h ds tp lg => rdcOf ((codeC P enters CB CC DC mk K c).un T h tp lg) ds⟩
theorem codeDC_eq {enters : FuncId → FKind} {CB : CallB} {CC : CallC} {DB : DrawB} {DC : DrawC} (hC : CallEq CB CC) (hDC : DrawEq DB DC) (mk : Mk) (K : Nat) : ∀ (c : Code) (T : Tree Value) (h : AHeap) (ds : List DCall) (tp : Tape) (lg : Noted),
    RDC.is lg ((codeD P enters CB DB K c).un T h ds) ((codeDC P enters CB CC DC mk K c).un T h ds tp lg) := by
  have plain : ∀ (c : Code) (T : Tree Value) (h : AHeap) (ds : List DCall) (tp : Tape) (lg : Noted), RDC.is lg (rdOf ((codeB P enters CB DB K c).un T h) ds) (rdcOf ((codeC P enters CB CC DC mk K c).un T h tp lg) ds) := by
    intro c T h ds tp lg
    have q := codeC_eq (P := P) (enters := enters) (DB := DB) hC hDC mk K c T h tp lg
    revert q
    cases (codeC P enters CB CC DC mk K c).un T h tp lg with
    | none => intro _; exact trivial
    | normal T' h' tp' lg' => intro q hl; obtain ⟨p1, p2⟩ := q hl; exact ⟨p1, by rw [p2]; rfl⟩
    | exit id T' h' tp' lg' => intro q hl; obtain ⟨p1, p2⟩ := q hl; exact ⟨p1, by rw [p2]; rfl⟩
    | ret T' h' tp' lg' => intro q hl; obtain ⟨p1, p2⟩ := q hl; exact ⟨p1, by rw [p2]; rfl⟩
  intro c
  induction c with
  | region id ops d =>
    cases d with
    | true => exact plain _
    | false =>
      intro T h ds tp lg
      simp only [codeDC, codeD]
      cases hx : opsDC P enters CB CC mk ops ops.toList T h ds tp lg with
      | none => exact trivial
      | some r =>
        obtain ⟨T', h', ds', tp', lg'⟩ := r
        intro hl
        obtain ⟨p1, p2⟩ := opsDC_eq hC _ _ _ _ _ _ _ hx hl
        exact ⟨p1, by rw [p2]; rfl⟩
  | seq x y ihx ihy =>
    intro T h ds tp lg
    simp only [codeDC, codeD]
    have q := ihx T h ds tp lg
    revert q
    cases (codeDC P enters CB CC DC mk K x).un T h ds tp lg with
    | none => intro _; exact trivial
    | normal T' h' ds' tp' lg' =>
      intro q
      dsimp only
      have q2 := ihy T' h' ds' tp' lg'
      have fin : ∀ z, NotedOk lg' ∧ (codeD P enters CB DB K y).un T' h' ds' = z → NotedOk lg ∧ (match (codeD P enters CB DB K x).un T h ds with | .normal T' h' ds' => (codeD P enters CB DB K y).un T' h' ds' | .none => .none | .exit id T' h' ds' => .exit id T' h' ds' | .ret T' h' ds' => .ret T' h' ds') = z := by
        intro z hz
        obtain ⟨p1, p2⟩ := q hz.1
        exact ⟨p1, by rw [p2]; exact hz.2⟩
      revert q2
      cases (codeDC P enters CB CC DC mk K y).un T' h' ds' tp' lg' with
      | none => intro _; exact trivial
      | normal T2 h2 ds2 tp2 lg2 => intro q2 hl; exact fin _ (q2 hl)
      | exit id T2 h2 ds2 tp2 lg2 => intro q2 hl; exact fin _ (q2 hl)
      | ret T2 h2 ds2 tp2 lg2 => intro q2 hl; exact fin _ (q2 hl)
    | exit id T' h' ds' tp' lg' => intro q hl; obtain ⟨p1, p2⟩ := q hl; exact ⟨p1, by rw [p2]⟩
    | ret T' h' ds' tp' lg' => intro q hl; obtain ⟨p1, p2⟩ := q hl; exact ⟨p1, by rw [p2]⟩
  | cond c0 x y ihx ihy =>
    intro T h ds tp lg
    simp only [codeDC, codeD]
    cases (rdB c0).un T with
    | bool b => cases b with
      | true => exact ihx T h ds tp lg
      | false => exact ihy T h ds tp lg
    | _ => exact trivial
  | _ => intro T h ds tp lg; simp only [codeDC, codeD]; exact plain _ T h ds tp lg
/-- A function that defers calls, told. -/
noncomputable def deferC (P : Program) (FT : FuncId → Option Func) (enters : FuncId → FKind) (CB : CallB) (DB : DrawB) (CC : CallC) (DC : DrawC) (mk : Mk) (K : Nat) (fn : Func) (c : Code) : Array Value → AHeap → Tape → Noted → Option OutC := fun args h tp lg =>
  match Nat.ble (lenV (listOf args)) fn.ntmps with
  | true => match (codeDC P enters CB CC DC mk K c).un (treeOfB (listOf args) 0 .leaf) h [] tp lg with
    | .normal T1 h1 ds tp1 lg1 => (match runDs P FT enters CB DB K ds h1 with
      | some h2 => (match (resB P fn.results.toList).un h2 T1 with | some vs => some ⟨oneA vs, h2, tp1, lg1⟩ | none => none)
      | none => none)
    | .ret T1 h1 ds tp1 lg1 => (match runDs P FT enters CB DB K ds h1 with
      | some h2 => (match (resB P fn.results.toList).un h2 T1 with | some vs => some ⟨oneA vs, h2, tp1, lg1⟩ | none => none)
      | none => none)
    | _ => none
  | false => none
theorem deferC_eq {FT : FuncId → Option Func} {enters : FuncId → FKind} {CB : CallB} {CC : CallC} {DB : DrawB} {DC : DrawC} (hC : CallEq CB CC) (hDC : DrawEq DB DC) {mk : Mk} {K : Nat} {fn : Func} {c : Code} {args : Array Value} {h : AHeap} {tp : Tape} {lg : Noted} {r : OutC}
    (e : deferC P FT enters CB DB CC DC mk K fn c args h tp lg = some r) (hl : NotedOk r.lg) : NotedOk lg ∧ deferG P FT enters CB DB K fn c args h = some (r.v, r.h) := by
  unfold deferC at e
  unfold deferG
  cases hb : Nat.ble (lenV (listOf args)) fn.ntmps with
  | false => rw [hb] at e; cases e
  | true =>
    rw [hb] at e
    dsimp only at e ⊢
    have q := codeDC_eq (P := P) (enters := enters) hC hDC mk K c (treeOfB (listOf args) 0 .leaf) h [] tp lg
    revert q e
    cases (codeDC P enters CB CC DC mk K c).un (treeOfB (listOf args) 0 .leaf) h [] tp lg with
    | none => intro e; cases e
    | exit => intro e; cases e
    | normal T1 h1 ds tp1 lg1 =>
      intro e q
      dsimp only at e
      split at e <;> try (cases e; done)
      rename_i h2 hr
      split at e <;> try (cases e; done)
      rename_i vs hvs
      obtain rfl := Option.some.inj e
      obtain ⟨p1, p2⟩ := q hl
      refine ⟨p1, ?_⟩
      rw [p2]
      dsimp only
      rw [hr]
      dsimp only
      rw [hvs]
    | ret T1 h1 ds tp1 lg1 =>
      intro e q
      dsimp only at e
      split at e <;> try (cases e; done)
      rename_i h2 hr
      split at e <;> try (cases e; done)
      rename_i vs hvs
      obtain rfl := Option.some.inj e
      obtain ⟨p1, p2⟩ := q hl
      refine ⟨p1, ?_⟩
      rw [p2]
      dsimp only
      rw [hr]
      dsimp only
      rw [hvs]
/-! ## Calls whose effect is told, with what it asks for -/
abbrev Told := Nat → Option (Array Value → AHeap → Option (Prop × Value × AHeap))
open Classical in
/-- What is known where what it asks for holds. -/
noncomputable def toldK (kx : Told) : Known := fun f => match kx f with
  | some k => some fun args h => match k args h with | some (p, v, h') => if p then some (v, h') else none | none => none
  | none => none
abbrev ToldC := Nat → Option (Array Value → AHeap → Tape → Noted → Option OutC)
/-- What is told of a function is what is known of it. -/
def ToldEq (sp : Known) (tk : ToldC) : Prop := ∀ f k args h tp lg r, tk f = some k → k args h tp lg = some r → NotedOk r.lg → NotedOk lg ∧ ∃ g, sp f = some g ∧ g args h = some (r.v, r.h)
noncomputable def callE (P : Program) (enters : FuncId → FKind) (FT : FuncId → Option Func) (sp : Known) (tk : ToldC) (draw : CallB → DrawB) (drawc : CallB → CallC → DrawC) (mk : Marks) (K : Nat) : Nat → CallC
  | 0, _ => ⟨fun _ _ _ _ => none⟩
  | d + 1, f => match tk f with
    | some k => ⟨k⟩
    | none => match sp f with
      | some g => ⟨fun args h tp lg => withC (g args h) tp lg⟩
      | none => bodyC P enters (callB P enters FT sp draw K d) (callE P enters FT sp tk draw drawc mk K d) (drawc (callB P enters FT sp draw K d) (callE P enters FT sp tk draw drawc mk K d)) (mk f) K (FT f)
/-- A body, told, is that body. -/
theorem bodyC_eq {enters : FuncId → FKind} {CB : CallB} {CC : CallC} {DB : DrawB} {DC : DrawC} (hC : CallEq CB CC) (hDC : DrawEq DB DC) {mk : Mk} {K : Nat} {fo : Option Func} {args : Array Value} {h : AHeap} {tp : Tape} {lg : Noted} {r : OutC}
    (e0 : (bodyC P enters CB CC DC mk K fo).un args h tp lg = some r) (hl : NotedOk r.lg) : NotedOk lg ∧ (bodyB P enters CB DB K fo).un args h = some (r.v, r.h) := by
  unfold bodyC at e0
  unfold bodyB
  cases fo with
  | none => cases e0
  | some fn =>
    dsimp only at e0 ⊢
    cases hb : fn.body with
    | none => rw [hb] at e0; cases e0
    | some c =>
      rw [hb] at e0
      dsimp only at e0 ⊢
      cases hs : Nat.ble (lenV (listOf args)) fn.ntmps with
      | false => rw [hs] at e0; cases e0
      | true =>
        rw [hs] at e0
        dsimp only at e0 ⊢
        have q := codeC_eq (P := P) (enters := enters) (DB := DB) hC hDC mk K c (treeOfB (listOf args) 0 .leaf) h tp lg
        revert q e0
        cases (codeC P enters CB CC DC mk K c).un (treeOfB (listOf args) 0 .leaf) h tp lg with
        | none => intro e0; cases e0
        | exit => intro e0; cases e0
        | normal T' h' tp' lg' =>
          intro e0 q
          simp only [endC] at e0
          split at e0
          · rename_i vs hvs
            cases e0
            obtain ⟨p1, p2⟩ := q hl
            refine ⟨p1, ?_⟩
            rw [p2]
            simp only [endB, hvs]
          · cases e0
        | ret T' h' tp' lg' =>
          intro e0 q
          simp only [endC] at e0
          split at e0
          · rename_i vs hvs
            cases e0
            obtain ⟨p1, p2⟩ := q hl
            refine ⟨p1, ?_⟩
            rw [p2]
            simp only [endB, hvs]
          · cases e0
theorem callE_eq {enters : FuncId → FKind} {FT : FuncId → Option Func} {sp : Known} {tk : ToldC} (hk : ToldEq sp tk) {draw : CallB → DrawB} {drawc : CallB → CallC → DrawC} (hdc : ∀ CB CC, CallEq CB CC → DrawEq (draw CB) (drawc CB CC)) (mk : Marks) (K : Nat) : ∀ d, CallEq (callB P enters FT sp draw K d) (callE P enters FT sp tk draw drawc mk K d) := by
  intro d
  induction d with
  | zero => intro f args h tp lg r e; cases e
  | succ d ih =>
    intro f args h tp lg r e hl
    have e0 : (match tk f with
      | some k => (⟨k⟩ : Box (Array Value → AHeap → Tape → Noted → Option OutC))
      | none => match sp f with
        | some g => ⟨fun args h tp lg => withC (g args h) tp lg⟩
        | none => bodyC P enters (callB P enters FT sp draw K d) (callE P enters FT sp tk draw drawc mk K d) (drawc (callB P enters FT sp draw K d) (callE P enters FT sp tk draw drawc mk K d)) (mk f) K (FT f)).un args h tp lg = some r := e
    show NotedOk lg ∧ (match sp f with
      | some g => (⟨g⟩ : Box (Array Value → AHeap → Option (Value × AHeap)))
      | none => bodyB P enters (callB P enters FT sp draw K d) (draw (callB P enters FT sp draw K d)) K (FT f)).un args h = some (r.v, r.h)
    clear e
    cases htk : tk f with
    | some k =>
      rw [htk] at e0
      obtain ⟨q1, g, q2, q3⟩ := hk f k args h tp lg r htk e0 hl
      rw [q2]
      exact ⟨q1, q3⟩
    | none =>
      rw [htk] at e0
      dsimp only at e0
      cases hsp : sp f with
      | some g =>
        rw [hsp] at e0
        obtain ⟨q1, q2⟩ := withC_some (x := g args h) e0
        exact ⟨q2 ▸ hl, q1⟩
      | none =>
        rw [hsp] at e0
        dsimp only at e0 ⊢
        exact bodyC_eq ih (hdc _ _ ih) e0 hl
/-! ## Layers, told -/
noncomputable def toldC (kx : Told) : ToldC := fun f => match kx f with
  | some k => some fun args h tp lg => match k args h with | some (p, v, h') => some ⟨v, h', tp, p :: lg⟩ | none => none
  | none => none
/-- Functions that defer, told. -/
noncomputable def defC (P : Program) (FT : FuncId → Option Func) (enters : FuncId → FKind) (sp : Known) (CB : CallB) (CC : CallC) (mk : Marks) (K : Nat) : ToldC := fun f => match sp f with
  | some _ => none
  | none => match FT f with
    | some fn => match fn.body with
      | some c => match hasDefer c with
        | true => some (deferC P FT enters CB (drawB P enters CB) CC (drawC P enters CB CC) (mk f) K fn c)
        | false => none
      | none => none
    | none => none
noncomputable def orC (a b : ToldC) : ToldC := fun f => match a f with | some k => some k | none => b f
noncomputable def layerE (P : Program) (G : Nat) (FT : FuncId → Option Func) (enters : FuncId → FKind) (kx : Told) (sp : Known) (mk : Marks) (K d : Nat) : Nat → CallC
  | 0 => callE P enters FT (orK (toldK kx) sp) (toldC kx) (drawB P enters) (drawC P enters) mk K d
  | n + 1 => callE P enters FT (orK (orK (toldK kx) sp) (richP P G FT enters (layerQ P G FT enters (orK (toldK kx) sp) K d n) (drawB P enters (layerQ P G FT enters (orK (toldK kx) sp) K d n)) K d)) (orC (toldC kx) (defC P FT enters (orK (toldK kx) sp) (layerQ P G FT enters (orK (toldK kx) sp) K d n) (layerE P G FT enters kx sp mk K d n) mk K)) (drawB P enters) (drawC P enters) mk K d
theorem told_eq {kx : Told} {f : Nat} {k : Array Value → AHeap → Tape → Noted → Option OutC} {args : Array Value} {h : AHeap} {tp : Tape} {lg : Noted} {r : OutC} (hk : toldC kx f = some k) (e : k args h tp lg = some r) (hl : NotedOk r.lg) :
    NotedOk lg ∧ ∃ g, toldK kx f = some g ∧ g args h = some (r.v, r.h) := by
  unfold toldC at hk
  unfold toldK
  cases hx : kx f with
  | none => rw [hx] at hk; cases hk
  | some k0 =>
    rw [hx] at hk
    obtain rfl := Option.some.inj hk
    dsimp only at e ⊢
    cases hq : k0 args h with
    | none => rw [hq] at e; cases e
    | some q =>
      obtain ⟨p, v, h'⟩ := q
      rw [hq] at e
      obtain rfl := Option.some.inj e
      refine ⟨fun x hx => hl x (List.mem_cons_of_mem _ hx), _, rfl, ?_⟩
      rw [hq]
      dsimp only
      rw [if_pos (hl p List.mem_cons_self)]
theorem orK_left {a b : Known} {f : Nat} {g : Array Value → AHeap → Option (Value × AHeap)} (h : a f = some g) : orK a b f = some g := by
  unfold orK
  rw [h]
theorem orK_right {a b : Known} {f : Nat} (h : a f = none) : orK a b f = b f := by
  unfold orK
  rw [h]
theorem layerE_eq {G : Nat} {FT : FuncId → Option Func} {enters : FuncId → FKind} (kx : Told) (sp : Known) (mk : Marks) (K d : Nat) : ∀ n, CallEq (layerQ P G FT enters (orK (toldK kx) sp) K d n) (layerE P G FT enters kx sp mk K d n) := by
  have hdc : ∀ CB CC, CallEq CB CC → DrawEq (drawB P enters CB) (drawC P enters CB CC) := fun _ _ h => drawC_eq h
  intro n
  induction n with
  | zero =>
    refine callE_eq (fun f k args h tp lg r hk e hl => ?_) hdc mk K d
    obtain ⟨q1, g, q2, q3⟩ := told_eq hk e hl
    exact ⟨q1, g, orK_left q2, q3⟩
  | succ n ih =>
    refine callE_eq (fun f k args h tp lg r hk e hl => ?_) hdc mk K d
    unfold orC at hk
    cases ht : toldC kx f with
    | some k0 =>
      rw [ht] at hk
      obtain rfl := Option.some.inj hk
      obtain ⟨q1, g, q2, q3⟩ := told_eq ht e hl
      exact ⟨q1, g, orK_left (orK_left q2), q3⟩
    | none =>
      rw [ht] at hk
      dsimp only at hk
      unfold defC at hk
      split at hk
      · cases hk
      · rename_i hsp
        split at hk <;> try (cases hk; done)
        rename_i fn hfn
        split at hk <;> try (cases hk; done)
        rename_i c hc
        split at hk <;> try (cases hk; done)
        rename_i hd
        obtain rfl := Option.some.inj hk
        obtain ⟨q1, q2⟩ := deferC_eq ih (hdc _ _ ih) e hl
        refine ⟨q1, _, (orK_right hsp).trans (by unfold richP; rw [hfn]; dsimp only; rw [hc]; dsimp only; rw [hd]), ?_⟩
        simp only [q2]
end
end Go.Ab
namespace Go.Ab
open Go Go.RowKit
section
variable {P : Program}

/-! ## A call from a small memory, wherever its blocks lie -/
/-- Which numbers a call's blocks bear in the caller's memory: those that it is given ('bs', from 'N0' on in the small one), and those of its new ones that are kept ('ns'). -/
structure Fr where
  N0 : Nat
  bs : List Nat
  ns : List Nat
def Fr.at (x : Fr) (i : Nat) : Nat := x.bs.getD i 0
def Fr.new (x : Fr) (j : Nat) : Nat := x.ns.getD j 0
/-- The numbers of both memories name the same. -/
def Fr.Link (x : Fr) (h : AHeap) (m m1 : Mu) : Prop := (∀ i, i < x.bs.length → m (x.at i) = m1 (x.N0 + i)) ∧ ∀ j, j < x.ns.length → m (h.next + j) = m1 (x.new j)
/-- What the small memory and the caller's one have to do with one another. -/
structure FrOk (P : Program) (G : Nat) (x : Fr) (s s' h h' : AHeap) : Prop where
  big : G ≤ x.N0
  sn : s.next = x.N0 + x.bs.length
  sd : ∀ c, s.get c ≠ .dead → ∃ i, i < x.bs.length ∧ c = x.N0 + i
  sr : ∀ c, isRo (s.get c) = false
  room : h.next + x.ns.length ≤ h.lim
  diff : ∀ i j, i < x.bs.length → j < x.bs.length → x.at i = x.at j → i = j
  live : ∀ i, i < x.bs.length → x.at i < h.next ∧ h.get (x.at i) ≠ .dead ∧ isRo (h.get (x.at i)) = false
  took : ∀ i, i < x.bs.length → ∀ (m m1 : Mu) (l : Loc) (w : World), (∀ i, i < x.bs.length → m (x.at i) = m1 (x.N0 + i)) → OKObj P m l w (h.get (x.at i)) → OKObj P m1 l w (s.get (x.N0 + i))
  next : h'.next = h.next + x.ns.length ∧ h'.lim = h.lim
  keep : ∀ c, c < h.next ∨ h.lim ≤ c → (∀ i, i < x.bs.length → c ≠ x.at i) → h'.get c = h.get c
  rest : ∀ c, h'.next ≤ c → c < h.lim → h'.get c = h.get c
  olds : ∀ i, i < x.bs.length → h'.get (x.at i) ≠ .dead → s'.get (x.N0 + i) ≠ .dead ∧ isRo (s'.get (x.N0 + i)) = false ∧ isRo (h'.get (x.at i)) = false
  give : ∀ i, i < x.bs.length → ∀ (m m1 : Mu) (l : Loc) (w : World), x.Link h m m1 → OKObj P m1 l w (s'.get (x.N0 + i)) → OKObj P m l w (h'.get (x.at i))
  fresh : ∀ j, j < x.ns.length → x.N0 + x.bs.length ≤ x.new j ∧ s'.get (x.new j) ≠ .dead ∧ isRo (s'.get (x.new j)) = false ∧ isRo (h'.get (h.next + j)) = false
  diffN : ∀ i j, i < x.ns.length → j < x.ns.length → x.new i = x.new j → i = j
  giveN : ∀ j, j < x.ns.length → ∀ (m m1 : Mu) (l : Loc) (w : World), x.Link h m m1 → OKObj P m1 l w (s'.get (x.new j)) → OKObj P m l w (h'.get (h.next + j))
theorem ok_some {m : Mu} {l : Loc} {w : World} {o : AObj} (h : OKObj P m l w o) (hd : o ≠ .dead) : ∃ x, w.heap[l.blk]? = some x := by
  cases o with
  | dead => exact absurd rfl hd
  | cells c t => obtain ⟨C, fr, h1, _⟩ := h; exact ⟨_, h1⟩
  | map es k => obtain ⟨es', h1, _⟩ := h; exact ⟨_, h1⟩
  | iter s p => exact ⟨_, h.1⟩
  | ro c t => obtain ⟨C, t', fr, h1, _⟩ := h; exact ⟨_, h1⟩
  | miter x s sn l => obtain ⟨⟨x', h1, _⟩, _⟩ := h; exact ⟨_, h1⟩
open Classical in
theorem frame_call {G : Nat} {CB : CallB} (hC : CallSound P G (callOf CB)) {x : Fr} {s s' h h' : AHeap} {f : FuncId} {args0 : Array Value} {v0 : Value} (e : (CB f).un args0 s = some (v0, s')) (hx : FrOk P G x s s' h h')
    {B : Base} {m : Mu} {args' : Array Value} {w : World} {v : Value} (ha : ∀ m1 : Mu, (∀ i, i < x.bs.length → m (x.at i) = m1 (x.N0 + i)) → ARel m1 args0 args') (hv : ∀ (m m1 : Mu) v', x.Link h m m1 → VRel m1 v0 v' → VRel m v v') (hr : Rel P B m h w) (hG : GRel G m) :
    Calls P f args' w (fun e w' => ∃ v' m', e = .returned v' ∧ Ext h m m' ∧ Rel P B m' h' w' ∧ VRel m' v v') := by
  let m0 : Mu := fun c => if c < G then m c else if x.N0 ≤ c ∧ c < x.N0 + x.bs.length then m (x.at (c - x.N0)) else none
  have m0b : ∀ i, i < x.bs.length → m0 (x.N0 + i) = m (x.at i) := by
    intro i hi
    have hb := hx.big
    show (if x.N0 + i < G then m (x.N0 + i) else if x.N0 ≤ x.N0 + i ∧ x.N0 + i < x.N0 + x.bs.length then m (x.at (x.N0 + i - x.N0)) else none) = _
    rw [if_neg (by omega), if_pos ⟨by omega, by omega⟩, Nat.add_sub_cancel_left]
  let own : Nat → Prop := fun k => ∃ i l, i < x.bs.length ∧ m (x.at i) = some l ∧ l.blk = k
  let B2 : Base := ⟨fun k => if own k then none else w.heap[k]?, w.os, w.tape, w.output⟩
  have b2own : ∀ k, own k → B2.prot k = none := fun k hk => if_pos hk
  have b2not : ∀ k, ¬ own k → B2.prot k = w.heap[k]? := fun k hk => if_neg hk
  have locB : ∀ i, i < x.bs.length → ∃ l, m (x.at i) = some l ∧ B.prot l.blk = none ∧ OKObj P m l w (h.get (x.at i)) := by
    intro i hi
    obtain ⟨_, h1, h2⟩ := hx.live i hi
    obtain ⟨l, q1, q2, q3⟩ := hr.obj _ h1
    exact ⟨l, q1, protOf_none q2 h2, q3⟩
  have r0 : Rel P B2 m0 s w := by
    refine ⟨rfl, rfl, rfl, fun k o hk => ?_, fun c hc => ?_, fun c c' l l' h1 h2 h3 e1 e2 he => ?_, fun c h1 h2 => ?_⟩
    · by_cases ho : own k
      · rw [b2own k ho] at hk; cases hk
      · rw [b2not k ho] at hk; exact hk
    · obtain ⟨i, hi, rfl⟩ := hx.sd c hc
      obtain ⟨l, q1, q2, q3⟩ := locB i hi
      exact ⟨l, (m0b i hi).trans q1, protOf_mk (fun q => by rw [hx.sr] at q; cases q) (fun _ => b2own _ ⟨i, l, hi, q1, rfl⟩), hx.took i hi m m0 l w (fun i hi => (m0b i hi).symm) q3⟩
    · obtain ⟨i, hi, rfl⟩ := hx.sd c h1
      obtain ⟨j, hj, rfl⟩ := hx.sd c' h2
      rw [m0b i hi] at e1
      rw [m0b j hj] at e2
      obtain ⟨_, i1, i2⟩ := hx.live i hi
      obtain ⟨_, j1, j2⟩ := hx.live j hj
      rw [hx.diff i j hi hj (hr.sep _ _ _ _ i1 j1 j2 e1 e2 he)]
    · have h1' : s.next ≤ c := h1
      rw [hx.sn] at h1'
      refine ⟨?_, ?_⟩
      · cases hd : s.get c with
        | dead => rfl
        | _ =>
          exfalso
          obtain ⟨i, hi, rfl⟩ := hx.sd c (by rw [hd]; intro q; cases q)
          omega
      · have hb := hx.big
        show (if c < G then m c else if x.N0 ≤ c ∧ c < x.N0 + x.bs.length then m (x.at (c - x.N0)) else none) = _
        rw [if_neg (by omega), if_neg (by omega)]
  have g0 : GRel G m0 := fun g hg => by
    obtain ⟨l, p1, p2⟩ := hG g hg
    exact ⟨l, (if_pos hg).trans p1, p2⟩
  refine ((hC f args0 s v0 s' e).2 B2 m0 args' w (ha m0 fun i hi => (m0b i hi).symm) r0 g0).mono ?_
  rintro e w' ⟨v', m1, rfl, x1, r1, hv1⟩
  have m1b : ∀ i, i < x.bs.length → m1 (x.N0 + i) = m (x.at i) := fun i hi => (x1.2 _ (.inl (by rw [hx.sn]; omega))).trans (m0b i hi)
  let m' : Mu := fun c => if h.next ≤ c ∧ c < h.next + x.ns.length then m1 (x.new (c - h.next)) else m c
  have mo : ∀ c, c < h.next ∨ h.next + x.ns.length ≤ c → m' c = m c := fun c hc => if_neg (by omega)
  have mn : ∀ j, j < x.ns.length → m' (h.next + j) = m1 (x.new j) := fun j hj => by
    show (if h.next ≤ h.next + j ∧ h.next + j < h.next + x.ns.length then m1 (x.new (h.next + j - h.next)) else m (h.next + j)) = _
    rw [if_pos ⟨by omega, by omega⟩, Nat.add_sub_cancel_left]
  have hle : Mu.le m m' := by
    intro c l hc
    by_cases hn : h.next ≤ c ∧ c < h.next + x.ns.length
    · have := (hr.fresh c hn.1 (Nat.lt_of_lt_of_le hn.2 hx.room)).2
      rw [this] at hc; cases hc
    · exact (if_neg hn).trans hc
  have hext : Ext h m m' := ⟨hle, fun c hc => mo c (by have := hx.room; omega)⟩
  have hlink : x.Link h m' m1 := ⟨fun i hi => (mo _ (.inl (hx.live i hi).1)).trans (m1b i hi).symm, fun j hj => mn j hj⟩
  have hpk : ∀ k, ¬ own k → ∀ o, w.heap[k]? = some o → w'.heap[k]? = some o := fun k hk o ho => r1.prot k o ((b2not k hk).trans ho)
  have newP : ∀ j l, j < x.ns.length → m1 (x.new j) = some l → B2.prot l.blk = none := by
    intro j l hj hl
    obtain ⟨_, d1, d2, _⟩ := hx.fresh j hj
    obtain ⟨l2, q1, q2, _⟩ := r1.obj _ d1
    rw [hl] at q1
    obtain rfl := Option.some.inj q1
    exact protOf_none q2 d2
  -- an old block that the call was not given
  have oldP : ∀ c l, (∀ i, i < x.bs.length → c ≠ x.at i) → h.get c ≠ .dead → m c = some l → ¬ own l.blk ∧ ∃ o, w.heap[l.blk]? = some o := by
    intro c l hne hd hl
    obtain ⟨l2, q1, _, q3⟩ := hr.obj c hd
    rw [hl] at q1
    obtain rfl := Option.some.inj q1
    refine ⟨?_, ok_some q3 hd⟩
    rintro ⟨i, li, hi, hli, hb⟩
    obtain ⟨_, i1, i2⟩ := hx.live i hi
    exact hne i hi (hr.sep c _ l li hd i1 i2 hl hli hb.symm)
  have kinds : ∀ c, h'.get c ≠ .dead → (∃ i, i < x.bs.length ∧ c = x.at i) ∨ ((c < h.next ∨ h.lim ≤ c) ∧ (∀ i, i < x.bs.length → c ≠ x.at i)) ∨ (∃ j, j < x.ns.length ∧ c = h.next + j) := by
    intro c hc
    by_cases h1 : ∃ i, i < x.bs.length ∧ c = x.at i
    · exact .inl h1
    have h1' : ∀ i, i < x.bs.length → c ≠ x.at i := fun i hi q => h1 ⟨i, hi, q⟩
    by_cases h2 : c < h.next
    · exact .inr (.inl ⟨.inl h2, h1'⟩)
    by_cases h3 : c < h.next + x.ns.length
    · exact .inr (.inr ⟨c - h.next, by omega, by omega⟩)
    by_cases h4 : c < h.lim
    · exact absurd ((hx.rest c (by rw [hx.next.1]; omega) h4).trans (hr.fresh c (by show h.next ≤ c; omega) h4).1) hc
    · exact .inr (.inl ⟨.inr (by omega), h1'⟩)
  -- where each live block lies
  have place : ∀ c, h'.get c ≠ .dead → ∃ l, m' c = some l ∧ protOf (h'.get c) (B.prot l.blk) ∧ OKObj P m' l w' (h'.get c) ∧
      ((∃ i, i < x.bs.length ∧ c = x.at i ∧ m c = some l ∧ m1 (x.N0 + i) = some l ∧ s'.get (x.N0 + i) ≠ .dead ∧ isRo (s'.get (x.N0 + i)) = false) ∨
        ((∀ i, i < x.bs.length → c ≠ x.at i) ∧ h.get c ≠ .dead ∧ h'.get c = h.get c ∧ m c = some l) ∨
        ∃ j, j < x.ns.length ∧ c = h.next + j ∧ m1 (x.new j) = some l) := by
    intro c hc
    rcases kinds c hc with ⟨i, hi, rfl⟩ | ⟨hlt, hne⟩ | ⟨j, hj, rfl⟩
    · obtain ⟨d1, d2, d3⟩ := hx.olds i hi hc
      obtain ⟨l, q1, q2, _⟩ := locB i hi
      obtain ⟨l2, p1, _, p3⟩ := r1.obj _ d1
      rw [m1b i hi, q1] at p1
      obtain rfl := Option.some.inj p1
      refine ⟨l, (mo _ (.inl (hx.live i hi).1)).trans q1, protOf_mk (fun q => by rw [d3] at q; cases q) (fun _ => q2), hx.give i hi m' m1 l w' hlink p3, .inl ⟨i, hi, rfl, q1, (m1b i hi).trans q1, d1, d2⟩⟩
    · have hk := hx.keep c hlt hne
      have hd : h.get c ≠ .dead := by rw [← hk]; exact hc
      obtain ⟨l, q1, q2, q3⟩ := hr.obj c hd
      obtain ⟨n1, o, ho⟩ := oldP c l hne hd q1
      refine ⟨l, hle _ _ q1, by rw [hk]; exact q2, ?_, .inr (.inl ⟨hne, hd, hk, q1⟩)⟩
      rw [hk]
      exact (q3.congr hle rfl).of_block fun y hy => hpk _ n1 y hy
    · obtain ⟨_, d1, d2, d3⟩ := hx.fresh j hj
      obtain ⟨l, p1, p2, p3⟩ := r1.obj _ d1
      have pn : B.prot l.blk = none := by
        have p4 := protOf_none p2 d2
        by_cases ho : own l.blk
        · obtain ⟨i, li, hi, hli, hb⟩ := ho
          obtain ⟨l3, q1, q2, _⟩ := locB i hi
          rw [hli] at q1
          obtain rfl := Option.some.inj q1
          rw [← hb]; exact q2
        · rw [b2not _ ho] at p4
          cases hb : B.prot l.blk with
          | none => rfl
          | some o => rw [hr.prot _ _ hb] at p4; cases p4
      exact ⟨l, (mn j hj).trans p1, protOf_mk (fun q => by rw [d3] at q; cases q) (fun _ => pn), hx.giveN j hj m' m1 l w' hlink p3, .inr (.inr ⟨j, hj, rfl, p1⟩)⟩
  have wos : w'.os = w.os := r1.os
  have wtape : w'.tape = w.tape := r1.tape
  have wout : w'.output = w.output := r1.output
  refine ⟨v', m', rfl, hext, ?_, hv m' m1 v' hlink hv1⟩
  refine ⟨wos.trans hr.os, wtape.trans hr.tape, wout.trans hr.output, fun k o hk => ?_, fun c hc => ?_, fun c c' l l' h1 h2 h3 e1 e2 he => ?_, fun c h1 h2 => ?_⟩
  · refine hpk k ?_ o (hr.prot k o hk)
    rintro ⟨i, li, hi, hli, hb⟩
    obtain ⟨l3, q1, q2, _⟩ := locB i hi
    rw [hli] at q1
    obtain rfl := Option.some.inj q1
    rw [hb, hk] at q2
    cases q2
  · obtain ⟨l, p1, p2, p3, _⟩ := place c hc
    exact ⟨l, p1, p2, p3⟩
  · obtain ⟨a, p1, _, _, pc⟩ := place c h1
    obtain ⟨b, q1, _, _, qc⟩ := place c' h2
    rw [e1] at p1
    obtain rfl := Option.some.inj p1
    rw [e2] at q1
    obtain rfl := Option.some.inj q1
    -- what lies in a block of the call's own, and what does not
    have apartN : ∀ (c : Nat) (l : Loc) (j : Nat) (l2 : Loc), (∀ i, i < x.bs.length → c ≠ x.at i) → h.get c ≠ .dead → m c = some l → j < x.ns.length → m1 (x.new j) = some l2 → l.blk ≠ l2.blk := by
      intro c l j l2 hne hd hm hj hn hbe
      obtain ⟨n1, o, ho⟩ := oldP c l hne hd hm
      have := newP j l2 hj hn
      rw [← hbe, b2not _ n1, ho] at this
      cases this
    rcases pc with ⟨i, hi, rfl, pm, pm1, pd, pr⟩ | ⟨hne, hd, hk, pm⟩ | ⟨j, hj, rfl, pm⟩
    · rcases qc with ⟨i2, hi2, rfl, qm, qm1, qd, qr⟩ | ⟨hne2, hd2, hk2, qm⟩ | ⟨j2, hj2, rfl, qm⟩
      · obtain ⟨_, i1, _⟩ := hx.live i hi
        obtain ⟨_, j1, j2⟩ := hx.live i2 hi2
        exact hr.sep _ _ _ _ i1 j1 j2 pm qm he
      · obtain ⟨_, i1, _⟩ := hx.live i hi
        exact hr.sep _ _ _ _ i1 hd2 (by rw [← hk2]; exact h3) pm qm he
      · exfalso
        obtain ⟨f1, f2, f3, _⟩ := hx.fresh j2 hj2
        have := r1.sep _ _ _ _ pd f2 f3 pm1 qm he
        omega
    · rcases qc with ⟨i2, hi2, rfl, qm, qm1, qd, qr⟩ | ⟨hne2, hd2, hk2, qm⟩ | ⟨j2, hj2, rfl, qm⟩
      · obtain ⟨_, j1, j2⟩ := hx.live i2 hi2
        exact hr.sep _ _ _ _ hd j1 j2 pm qm he
      · exact hr.sep _ _ _ _ hd hd2 (by rw [← hk2]; exact h3) pm qm he
      · exact absurd he (apartN _ _ _ _ hne hd pm hj2 qm)
    · obtain ⟨f1, f2, f3, _⟩ := hx.fresh j hj
      rcases qc with ⟨i2, hi2, rfl, qm, qm1, qd, qr⟩ | ⟨hne2, hd2, hk2, qm⟩ | ⟨j2, hj2, rfl, qm⟩
      · exfalso
        have := r1.sep _ _ _ _ f2 qd qr pm qm1 he
        omega
      · exact absurd he.symm (apartN _ _ _ _ hne2 hd2 qm hj pm)
      · obtain ⟨_, f4, f5, _⟩ := hx.fresh j2 hj2
        rw [hx.diffN j j2 hj hj2 (r1.sep _ _ _ _ f2 f4 f5 pm qm he)]
  · have h1' : h'.next ≤ c := h1
    have h2' : c < h'.lim := h2
    rw [hx.next.2] at h2'
    have h1'' := h1'
    rw [hx.next.1] at h1'
    refine ⟨(hx.rest c h1'' h2').trans (hr.fresh c (by show h.next ≤ c; omega) h2').1, ?_⟩
    rw [mo c (.inr h1')]
    exact (hr.fresh c (show h.next ≤ c by omega) h2').2
/-- And what it leaves behind is as it asks for. -/
theorem FrOk.nx {G : Nat} {x : Fr} {s s' h h' : AHeap} (hx : FrOk P G x s s' h h') : Nx h h' := by
  refine ⟨by rw [hx.next.1]; omega, hx.next.2, fun b hb hd => ?_, fun b hb => ?_⟩
  · rw [hx.keep b hb fun i hi q => (hx.live i hi).2.1 (by rw [← q]; exact hd)]
    exact hd
  · by_cases h1 : ∃ i, i < x.bs.length ∧ b = x.at i
    · obtain ⟨i, hi, rfl⟩ := h1
      exfalso
      have hd : h'.get (x.at i) ≠ .dead := by intro q; rw [q] at hb; cases hb
      rw [(hx.olds i hi hd).2.2] at hb
      cases hb
    have h1' : ∀ i, i < x.bs.length → b ≠ x.at i := fun i hi q => h1 ⟨i, hi, q⟩
    by_cases h2 : b < h.next ∨ h.lim ≤ b
    · exact hx.keep b h2 h1'
    by_cases h3 : b < h.next + x.ns.length
    · exfalso
      have := (hx.fresh (b - h.next) (by omega)).2.2.2
      rw [show h.next + (b - h.next) = b by omega, hb] at this
      cases this
    · exact hx.rest b (by rw [hx.next.1]; omega) (by omega)
end
end Go.Ab
