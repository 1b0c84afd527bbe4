import Derived.Test.YthapjgecggdliaaGreatDoorAbFu
namespace Go.Ab
open Go Go.RowKit
section
variable {P : Program}

/-! ## Functions that defer calls -/
/-- A deferred call. -/
structure DCall where
  g : FuncId
  cap : Array Value
  args : Array Value
def DOne (m : Mu) (d : DCall) (d' : Deferred) : Prop := ∃ cap' args', d' = { target := .fn (.func d.g) cap', args := args' } ∧ ARel m d.cap cap' ∧ ARel m d.args args'
def DRel (m : Mu) : List DCall → List Deferred → Prop
  | [], [] => True
  | d :: ds, e :: es => DOne m d e ∧ DRel m ds es
  | _, _ => False
theorem DRel.mono {m m' : Mu} (hm : Mu.le m m') : ∀ {ds : List DCall} {es : List Deferred}, DRel m ds es → DRel m' ds es := by
  intro ds
  induction ds with
  | nil => intro es h; cases es with | nil => exact h | cons => exact h.elim
  | cons d ds ih =>
    intro es h
    cases es with
    | nil => exact h.elim
    | cons e es => obtain ⟨⟨c, a, h1, h2, h3⟩, h4⟩ := h; exact ⟨⟨c, a, h1, h2.mono hm, h3.mono hm⟩, ih h4⟩
def appV (a : Array Value) (l : List Value) : Array Value := match a with | ⟨x⟩ => ⟨appL x l⟩
  where appL : List Value → List Value → List Value
  | [], l => l
  | v :: x, l => v :: appL x l
theorem appV_eq (a : Array Value) (l : List Value) : appV a l = a ++ l.toArray := by
  obtain ⟨x⟩ := a
  have : ∀ x, appV.appL x l = x ++ l := by
    intro x
    induction x with
    | nil => rfl
    | cons v x ih => simp [appV.appL, ih]
  simp [appV, this]
/-- The deferred call that an operation makes. -/
def deferOf (o : Oper) : Option (Operand × List Operand) := match o.guard with
  | some _ => none
  | none => match o.op with
    | .defer c => (match c.callee with | .value f => some (f, c.args.toList) | _ => none)
    | _ => none
noncomputable def opsD (P : Program) (enters : FuncId → FKind) (CB : CallB) (ops : Array Oper) : List Oper → Tree Value → AHeap → List DCall → Option (Tree Value × AHeap × List DCall)
  | [], T, h, ds => some (T, h, ds)
  | o :: rest, T, h, ds => match deferOf o with
    | some (f, as) => match (rdB f).un T with
      | .func (.func g) first cap => opsD P enters CB ops rest ((putB o.dst).un T undef) h (⟨g, cap, appV first ((argsB as).un T)⟩ :: ds)
      | _ => none
    | none => match (stepB P enters CB ops o).un T h with
      | some (v, h') => opsD P enters CB ops rest ((putB o.dst).un T v) h' ds
      | none => none
theorem opsD_next {G : Nat} {enters : FuncId → FKind} {CB : CallB} (hC : CallSound P G (callOf CB)) {ops : Array Oper} : ∀ (L : List Oper) (T : Tree Value) (h : AHeap) (ds : List DCall) (T' : Tree Value) (h' : AHeap) (ds' : List DCall),
    opsD P enters CB ops L T h ds = some (T', h', ds') → Nx h h' := by
  intro L
  induction L with
  | nil => intro T h ds T' h' ds' e; simp only [opsD, Option.some.injEq, Prod.mk.injEq] at e; obtain ⟨_, rfl, _⟩ := e; exact Nx.refl _
  | cons o L ih =>
    intro T h ds T' h' ds' e
    simp only [opsD] at e
    split at e
    · split at e
      · exact ih _ _ _ _ _ _ e
      · cases e
    · split at e
      · rename_i v h2 h1
        exact (stepA_next hC (stepB_some h1)).trans (ih _ _ _ _ _ _ e)
      · cases e
theorem opsD_sound {B : Base} {G n : Nat} {enters : FuncId → FKind} {CB : CallB} (hE : Enters P enters) (hz : ZF P) (hC : CallSound P G (callOf CB)) {ops : Array Oper}
    (hd : ∀ (j : Nat) (d : Nat), (ops[j]?).bind (·.dst) = some d → d < n) {Q : Exit → Act → World → Prop} : ∀ (L : List Oper) (T : Tree Value) (h : AHeap) (ds : List DCall) (T' : Tree Value) (h' : AHeap) (ds' : List DCall) (m : Mu) (a : Act) (w : World),
    L.all (opOk G n) = true → opsD P enters CB ops L T h ds = some (T', h', ds') → TRel m n T a.tmps → Rel P B m h w → GRel G m → DRel m ds a.defers →
    (∀ m' a' w', Ext h m m' → TRel m' n T' a'.tmps → DRel m' ds' a'.defers → Rel P B m' h' w' → Q .normal a' w') → wpList P ops Q L a w := by
  intro L
  induction L with
  | nil =>
    intro T h ds T' h' ds' m a w _ e hT hr hG hds hQ
    simp only [opsD, Option.some.injEq, Prod.mk.injEq] at e
    obtain ⟨rfl, rfl, rfl⟩ := e
    exact hQ m a w (Ext.refl _ m) hT hds hr
  | cons o L ih =>
    intro T h ds T' h' ds' m a w hl e hT hr hG hds hQ
    simp only [List.all_cons, Bool.and_eq_true] at hl
    have hdo : ∀ d, o.dst = some d → d < n := by
      intro d e
      have := hl.1
      unfold opOk at this
      rw [e] at this
      simp only [Bool.and_eq_true, Nat.blt_eq] at this
      exact this.2
    have hρ : ∀ x ∈ o.op.operands.toList, VRel m (rhoA T x) (a.eval x) := fun x hx => by
      have := hl.1
      unfold opOk at this
      simp only [Bool.and_eq_true] at this
      exact rho_rel hT hG (List.all_eq_true.1 this.1 x hx)
    simp only [opsD] at e
    split at e
    · rename_i f as hdf
      have hk2 : ∃ c, o.guard = none ∧ o.op = .defer c ∧ c.callee = .value f ∧ as = c.args.toList := by
        unfold deferOf at hdf
        split at hdf
        · cases hdf
        rename_i hg
        split at hdf
        · rename_i c ho
          split at hdf
          · rename_i f' hc
            simp only [Option.some.injEq, Prod.mk.injEq] at hdf
            obtain ⟨rfl, rfl⟩ := hdf
            exact ⟨c, hg, ho, hc, rfl⟩
          · cases hdf
        · cases hdf
      obtain ⟨c, g1, g2, g3, rfl⟩ := hk2
      split at e
      · rename_i g first cap hv
        rw [rdB_eq] at hv
        have hf := hρ f (by rw [g2]; simp [Op.operands, Call.operands, g3])
        rw [hv] at hf
        obtain ⟨first', cap', hev, hfi, hca⟩ : ∃ first' cap', a.eval f = .func (.func g) first' cap' ∧ ARel m first first' ∧ ARel m cap cap' := by
          generalize a.eval f = z at hf
          cases hf with
          | func f a a' c c' h1 h2 h3 h4 => exact ⟨_, _, rfl, ⟨h1, h2⟩, ⟨h3, h4⟩⟩
        have ha : ARel m (appV first ((argsB c.args.toList).un T)) (first' ++ c.args.map a.eval) := by
          rw [appV_eq, argsB_eq]
          refine ⟨by simp [hfi.1], fun i hi hi' => ?_⟩
          rw [Array.getElem_append, Array.getElem_append]
          by_cases hlt : i < first.size
          · rw [dif_pos hlt, dif_pos (by rw [← hfi.1]; exact hlt)]
            exact hfi.2 i _ _
          · rw [dif_neg hlt, dif_neg (by rw [← hfi.1]; exact hlt)]
            simp only [List.getElem_toArray, List.getElem_map, Array.getElem_map, Array.getElem_toList, hfi.1]
            refine hρ _ ?_
            rw [g2]
            simp only [Op.operands, Call.operands, Array.toList_append, List.mem_append]
            exact .inr (Array.mem_toList_iff.2 (Array.getElem_mem _))
        unfold wpList
        rw [if_pos (by unfold Region.wanted; rw [g1])]
        refine .inl ?_
        unfold Oper.wp
        have hrun : (execOp a.eval o).run P w = .ok (.defer { target := .fn (.func g) cap', args := first' ++ c.args.map a.eval }) w := by
          unfold execOp
          rw [g2]
          simp only [resolve, g3, hev, Deferred.ofValue, pure_bind, Sem.run_pure]
        rw [hrun, Oper.upon_defer]
        refine ih _ _ _ _ _ _ m _ w hl.2 e ?_ hr hG ?_ ?_
        · rw [putB_eq]
          exact TRel.put (a := { a with defers := { target := .fn (.func g) cap', args := first' ++ c.args.map a.eval } :: a.defers }) hT hdo (undef_rel m)
        · have : ({ a with defers := { target := .fn (.func g) cap', args := first' ++ c.args.map a.eval } :: a.defers }.put o.dst undef : Act).defers = { target := .fn (.func g) cap', args := first' ++ c.args.map a.eval } :: a.defers := by
            cases o.dst <;> rfl
          rw [this]
          exact ⟨⟨cap', _, rfl, hca, ha⟩, hds⟩
        · exact hQ
      · cases e
    · split at e
      · rename_i v h2 h1
        have h1 := stepB_some h1
        have q := stepA_next hC h1
        have hs := stepA_sound (B := B) hE hz hC h1 hT hr hG hl.1 hd (Q := Q) (K := wpList P ops Q L) (fun m' v' w' c1 c2 c3 => by
          refine ih _ _ _ _ _ _ m' (a.put o.dst v') w' hl.2 e ?_ c2 (hG.mono c1.1) ?_ ?_
          · rw [putB_eq]; exact (hT.mono c1.1).put hdo c3
          · have : (a.put o.dst v').defers = a.defers := by cases o.dst <;> rfl
            rw [this]
            exact hds.mono c1.1
          · intro m2 a2 w2 d1 d2 d3 d4
            exact hQ m2 a2 w2 (c1.trans d1 q.1 q.2.1) d2 d3 d4)
        unfold wpList
        split
        · rename_i hw; rw [if_pos hw] at hs; exact .inl hs
        · rename_i hw; rw [if_neg hw] at hs; exact hs
      · cases e

inductive RD where
  | none
  | normal (T : Tree Value) (h : AHeap) (ds : List DCall)
  | exit (id : Nat) (T : Tree Value) (h : AHeap) (ds : List DCall)
  | ret (T : Tree Value) (h : AHeap) (ds : List DCall)
def RD.of : AExit → Tree Value → AHeap → List DCall → RD
  | .normal, T, h, ds => .normal T h ds
  | .exit id, T, h, ds => .exit id T h ds
  | .ret, T, h, ds => .ret T h ds
def rdOf (x : RC) (ds : List DCall) : RD := match x with
  | .none => .none
  | .normal T h => .normal T h ds
  | .exit id T h => .exit id T h ds
  | .ret T h => .ret T h ds
def rdOf3 (x : Option (Tree Value × AHeap × List DCall)) : RD := match x with | some (T, h, ds) => .normal T h ds | none => .none
noncomputable def codeD (P : Program) (enters : FuncId → FKind) (CB : CallB) (DB : DrawB) (K : Nat) : Code → Box (Tree Value → AHeap → List DCall → RD)
  | .region _ ops false => ⟨fun T h ds => rdOf3 (opsD P enters CB ops ops.toList T h ds)⟩
  | .seq a b => ⟨fun T h ds => match (codeD P enters CB DB K a).un T h ds with | .normal T' h' ds' => (codeD P enters CB DB K b).un T' h' ds' | .none => .none | .exit id T' h' ds' => .exit id T' h' ds' | .ret T' h' ds' => .ret T' h' ds'⟩
  | .cond c a b => ⟨fun T h ds => match (rdB c).un T with | .bool true => (codeD P enters CB DB K a).un T h ds | .bool false => (codeD P enters CB DB K b).un T h ds | _ => .none⟩
  | c => ⟨fun T h ds => rdOf ((codeB P enters CB DB K c).un T h) ds⟩
def GoodD (P : Program) (G n : Nat) (c : Code) (T : Tree Value) (h : AHeap) (ds : List DCall) (e : AExit) (T' : Tree Value) (h' : AHeap) (ds' : List DCall) : Prop := Nx h h' ∧
  ∀ (B : Base) (m : Mu) (a : Act) (w : World) (Q : Exit → Act → World → Prop), codeOk G n c = true → TRel m n T a.tmps → Rel P B m h w → GRel G m → DRel m ds a.defers →
    (∀ m' a' w', Ext h m m' → TRel m' n T' a'.tmps → DRel m' ds' a'.defers → Rel P B m' h' w' → Q e.toExit a' w') → c.wp P Q a w
theorem rdOf_some {x : RC} {ds ds' : List DCall} {e : AExit} {T : Tree Value} {h : AHeap} (q : rdOf x ds = RD.of e T h ds') : ds' = ds ∧ x = RC.of e T h := by
  cases x <;> cases e <;> cases q <;> exact ⟨rfl, rfl⟩
theorem codeD_sound {G n : Nat} {enters : FuncId → FKind} {CB : CallB} {DB : DrawB} (hE : Enters P enters) (hz : ZF P) (hC : CallSound P G (callOf CB)) (hD : DrawGood P G (fun ops T h => (DB ops).un T h)) (K : Nat) :
    ∀ (c : Code), plansOk P c = true → ∀ (T : Tree Value) (h : AHeap) (ds : List DCall) (e : AExit) (T' : Tree Value) (h' : AHeap) (ds' : List DCall), (codeD P enters CB DB K c).un T h ds = RD.of e T' h' ds' → GoodD P G n c T h ds e T' h' ds' := by
  have plain : ∀ (c : Code), plansOk P c = true → ∀ (T : Tree Value) (h : AHeap) (ds : List DCall) (e : AExit) (T' : Tree Value) (h' : AHeap) (ds' : List DCall), rdOf ((codeB P enters CB DB K c).un T h) ds = RD.of e T' h' ds' → GoodD P G n c T h ds e T' h' ds' := by
    intro c hpl T h ds e T' h' ds' q
    obtain ⟨rfl, q3⟩ := rdOf_some q
    obtain ⟨q1, q2⟩ := codeB_sound (n := n) hE hz hC hD K c hpl _ _ _ _ _ q3
    refine ⟨q1, fun B m a w Q hok hT hr hG hds hQ => q2 B m a w Q hok hT hr hG fun m' a' w' c1 c2 c3 c4 => hQ m' a' w' c1 c2 ?_ c4⟩
    rw [c3]
    exact hds.mono c1.1
  intro c
  induction c with
  | region id ops d =>
    intro hpl T h ds e T' h' ds' q
    cases d with
    | true => exact plain _ hpl _ _ _ _ _ _ _ q
    | false =>
      have q' : rdOf3 (opsD P enters CB ops ops.toList T h ds) = RD.of e T' h' ds' := q
      obtain ⟨rfl, h1⟩ : e = .normal ∧ opsD P enters CB ops ops.toList T h ds = some (T', h', ds') := by
        unfold rdOf3 at q'
        split at q'
        · rename_i hx; rw [hx]; cases e <;> cases q'; exact ⟨rfl, rfl⟩
        · cases e <;> cases q'
      exact ⟨opsD_next hC _ _ _ _ _ _ _ h1, fun B m a w Q hok hT hr hG hds hQ => wp_region_list (opsD_sound hE hz hC (dst_of_ok hok) _ _ _ _ _ _ _ m a w hok h1 hT hr hG hds hQ)⟩
  | seq x y ihx ihy =>
    intro hpl T h ds e T' h' ds' q
    simp only [plansOk, Bool.and_eq_true] at hpl
    replace ihx := ihx hpl.1
    replace ihy := ihy hpl.2
    simp only [codeD] at q
    have other : ∀ (e : AExit) (T' : Tree Value) (h' : AHeap) (ds' : List DCall), e ≠ .normal → GoodD P G n x T h ds e T' h' ds' → GoodD P G n (.seq x y) T h ds e T' h' ds' := by
      intro e T' h' ds' hne ⟨q1, q2⟩
      refine ⟨q1, fun B m a w Q hok hT hr hG hds hQ => wp_seq ?_⟩
      simp only [codeOk, Bool.and_eq_true] at hok
      refine q2 B m a w _ hok.1 hT hr hG hds ?_
      intro m' a' w' c1 c2 c3 c4
      have := hQ m' a' w' c1 c2 c3 c4
      cases e with
      | normal => exact absurd rfl hne
      | exit id => exact this
      | ret => exact this
    split at q
    · rename_i T2 h2 ds2 h1
      obtain ⟨q1, q2⟩ := ihx _ _ _ .normal _ _ _ h1
      obtain ⟨r1, r2⟩ := ihy _ _ _ _ _ _ _ q
      refine ⟨q1.trans r1, fun B m a w Q hok hT hr hG hds hQ => wp_seq ?_⟩
      simp only [codeOk, Bool.and_eq_true] at hok
      refine q2 B m a w _ hok.1 hT hr hG hds ?_
      intro m' a' w' c1 c2 c3 c4
      refine r2 B m' a' w' Q hok.2 c2 c4 (hG.mono c1.1) c3 ?_
      intro m2 a2 w2 d1 d2 d3 d4
      exact hQ m2 a2 w2 (c1.trans d1 q1.1 q1.2.1) d2 d3 d4
    · cases e <;> cases q
    · rename_i id T2 h2 ds2 h1
      cases e <;> cases q
      exact other (.exit id) _ _ _ (fun h => by cases h) (ihx _ _ _ (.exit id) _ _ _ h1)
    · rename_i T2 h2 ds2 h1
      cases e <;> cases q
      exact other .ret _ _ _ (fun h => by cases h) (ihx _ _ _ .ret _ _ _ h1)
  | cond c0 x y ihx ihy =>
    intro hpl T h ds e T' h' ds' q
    simp only [plansOk, Bool.and_eq_true] at hpl
    replace ihx := ihx hpl.1
    replace ihy := ihy hpl.2
    simp only [codeD] at q
    split at q
    · rename_i hb0
      rw [rdB_eq] at hb0
      obtain ⟨q1, q2⟩ := ihx _ _ _ _ _ _ _ q
      refine ⟨q1, fun B m a w Q hok hT hr hG hds hQ => ?_⟩
      simp only [codeOk, Bool.and_eq_true] at hok
      have hb := rho_rel (a := a) hT hG hok.1.1
      rw [hb0] at hb
      refine wp_cond_true ?_ (q2 B m a w Q hok.1.2 hT hr hG hds hQ)
      generalize a.eval c0 = z at hb ⊢
      cases hb; rfl
    · rename_i hb0
      rw [rdB_eq] at hb0
      obtain ⟨q1, q2⟩ := ihy _ _ _ _ _ _ _ q
      refine ⟨q1, fun B m a w Q hok hT hr hG hds hQ => ?_⟩
      simp only [codeOk, Bool.and_eq_true] at hok
      have hb := rho_rel (a := a) hT hG hok.1.1
      rw [hb0] at hb
      refine wp_cond_false ?_ (q2 B m a w Q hok.2 hT hr hG hds hQ)
      generalize a.eval c0 = z at hb ⊢
      cases hb; rfl
    · cases e <;> cases q
  | _ => intro hpl T h ds e T' h' ds' q; exact plain _ hpl _ _ _ _ _ _ _ q

/-! ## The deferred calls -/
def isRec (o : Oper) : Bool := match o.guard with
  | some _ => false
  | none => match o.op with
    | .call c => (match c.callee with | .builtin .recover => c.args.isEmpty | _ => false)
    | _ => false
/-- Operations that may ask what there is to recover: nothing. -/
noncomputable def opsR (P : Program) (enters : FuncId → FKind) (CB : CallB) (ops : Array Oper) : List Oper → Tree Value → AHeap → Option (Tree Value × AHeap)
  | [], T, h => some (T, h)
  | o :: rest, T, h => match isRec o with
    | true => opsR P enters CB ops rest ((putB o.dst).un T .nilIface) h
    | false => match (stepB P enters CB ops o).un T h with
      | some (v, h') => opsR P enters CB ops rest ((putB o.dst).un T v) h'
      | none => none
theorem opsR_next {G : Nat} {enters : FuncId → FKind} {CB : CallB} (hC : CallSound P G (callOf CB)) {ops : Array Oper} : ∀ (L : List Oper) (T : Tree Value) (h : AHeap) (T' : Tree Value) (h' : AHeap),
    opsR P enters CB ops L T h = some (T', h') → Nx h h' := by
  intro L
  induction L with
  | nil => intro T h T' h' e; simp only [opsR, Option.some.injEq, Prod.mk.injEq] at e; obtain ⟨_, rfl⟩ := e; exact Nx.refl _
  | cons o L ih =>
    intro T h T' h' e
    simp only [opsR] at e
    split at e
    · exact ih _ _ _ _ e
    · split at e
      · rename_i v h2 h1
        exact (stepA_next hC (stepB_some h1)).trans (ih _ _ _ _ e)
      · cases e
theorem opsR_sound {B : Base} {G n : Nat} {enters : FuncId → FKind} {CB : CallB} (hE : Enters P enters) (hz : ZF P) (hC : CallSound P G (callOf CB)) {ops : Array Oper} {cs : List Frame} (hcs : recoverD cs = none)
    (hd : ∀ (j : Nat) (d : Nat), (ops[j]?).bind (·.dst) = some d → d < n) {Q : Exit → Act → List Frame → World → Prop} : ∀ (L : List Oper) (i : Nat) (T : Tree Value) (h : AHeap) (T' : Tree Value) (h' : AHeap) (m : Mu) (a : Act) (w : World),
    (∀ j, L[j]? = ops[i + j]?) → L.all (opOk G n) = true → opsR P enters CB ops L T h = some (T', h') → TRel m n T a.tmps → Rel P B m h w → GRel G m →
    (∀ m' a' w', Ext h m m' → TRel m' n T' a'.tmps → a'.defers = a.defers → Rel P B m' h' w' → Q .normal a' cs w') → wpOpsS P ops Q (List.range' i L.length) a cs w := by
  intro L
  induction L with
  | nil =>
    intro i T h T' h' m a w _ _ e hT hr hG hQ
    simp only [opsR, Option.some.injEq, Prod.mk.injEq] at e
    obtain ⟨rfl, rfl⟩ := e
    exact hQ m a w (Ext.refl _ m) hT rfl hr
  | cons o L ih =>
    intro i T h T' h' m a w hj hl e hT hr hG hQ
    simp only [List.all_cons, Bool.and_eq_true] at hl
    have hdo : ∀ d, o.dst = some d → d < n := by
      intro d e
      have := hl.1
      unfold opOk at this
      rw [e] at this
      simp only [Bool.and_eq_true, Nat.blt_eq] at this
      exact this.2
    have hoi : ops[i]? = some o := by have := hj 0; simpa using this.symm
    have hj' : ∀ j, L[j]? = ops[(i + 1) + j]? := fun j => by have := hj (j + 1); simp at this; rw [this]; congr 1; omega
    have defs : ∀ (v : Value), (a.put o.dst v).defers = a.defers := fun v => by cases o.dst <;> rfl
    rw [List.length_cons, List.range'_succ]
    simp only [wpOpsS, hoi]
    simp only [opsR] at e
    split at e
    · rename_i hrec
      have hk2 : ∃ c, o.guard = none ∧ o.op = .call c ∧ c.callee = .builtin .recover ∧ c.args = #[] := by
        unfold isRec at hrec
        split at hrec
        · cases hrec
        rename_i hg
        split at hrec
        · rename_i c ho
          split at hrec
          · rename_i hc
            exact ⟨c, hg, ho, hc, Array.isEmpty_iff.1 hrec⟩
          · cases hrec
        · cases hrec
      obtain ⟨c, g1, g2, g3, g4⟩ := hk2
      rw [if_pos (by unfold Region.wanted; rw [g1])]
      have hrun : (execOp a.eval o).run P w = .ok .recover w := by
        unfold execOp
        rw [g2]
        simp only [resolve, g3, pure_bind, invoke, builtin, Sem.run_pure]
      rw [hrun]
      dsimp only
      rw [hcs]
      dsimp only
      refine ih _ _ _ _ _ m _ w hj' hl.2 e ?_ hr hG ?_
      · rw [putB_eq]; exact hT.put hdo .nilIface
      · intro m' a' w' c1 c2 c3 c4
        exact hQ m' a' w' c1 c2 (c3.trans (defs _)) c4
    · split at e
      · rename_i v h2 h1
        have h1 := stepB_some h1
        have q := stepA_next hC h1
        have fin : ∀ (m' : Mu) (v' : Value) (w' : World), Ext h m m' → Rel P B m' h2 w' → VRel m' v v' → wpOpsS P ops Q (List.range' (i + 1) L.length) (a.put o.dst v') cs w' := fun m' v' w' c1 c2 c3 => by
          refine ih _ _ _ _ _ m' (a.put o.dst v') w' hj' hl.2 e ?_ c2 (hG.mono c1.1) ?_
          · rw [putB_eq]; exact (hT.mono c1.1).put hdo c3
          · intro m2 a2 w2 d1 d2 d3 d4
            exact hQ m2 a2 w2 (c1.trans d1 q.1 q.2.1) d2 (d3.trans (defs _)) d4
        have hw := wanted_eq hT ops o hd
        have hok := hl.1
        unfold opOk at hok
        simp only [Bool.and_eq_true] at hok
        have hρ : ∀ x ∈ o.op.operands.toList, VRel m (rhoA T x) (a.eval x) := fun x hx => rho_rel hT hG (List.all_eq_true.1 hok.1 x hx)
        unfold stepA at h1
        split at h1
        · rename_i h0
          rw [hw, h0, if_pos rfl]
          have hs := opA_sound hE hz (o := o) (ρ := rhoA T) (ρ' := a.eval) hr hρ
          split at h1
          · rename_i x hx h3
            simp only [Option.some.injEq, Prod.mk.injEq] at h1
            obtain ⟨rfl, rfl⟩ := h1
            obtain ⟨nx, w', m', e1, e2, e3, e4⟩ := hs _ _ h3
            rw [e1]
            cases nx <;> first | exact e4.elim | skip
            exact fin m' _ w' e2 e3 e4
          · rename_i hx h3
            simp only [Option.some.injEq, Prod.mk.injEq] at h1
            obtain ⟨rfl, rfl⟩ := h1
            obtain ⟨nx, w', m', e1, e2, e3, e4⟩ := hs _ _ h3
            rw [e1]
            cases nx <;> first | exact e4.elim | skip
            exact fin m' _ w' e2 e3 (undef_rel m')
          · rename_i f args h4 h3
            obtain ⟨nx, w', m', e1, e2, e3, e4⟩ := hs _ _ h3
            rw [e1]
            cases nx <;> first | exact e4.elim | skip
            obtain ⟨rfl, e5⟩ := e4
            obtain ⟨_, hcs2⟩ := hC _ _ _ _ _ h1
            have q := opA_next h3
            refine (hcs2 B m' _ w' e5 e3 (hG.mono e2.1)).mono ?_
            rintro e w2 ⟨v', m2, rfl, c2, c3, c4⟩
            exact fin m2 v' w2 (e2.trans c2 q.1 q.2.1) c3 c4
          · cases h1
        · rename_i h0
          rw [hw, h0]
          simp only [Option.some.injEq, Prod.mk.injEq] at h1
          obtain ⟨rfl, rfl⟩ := h1
          simp only [Bool.false_eq_true, if_false]
          exact fin m undef w (Ext.refl _ m) hr (undef_rel m)
      · cases e
def recOf : Code → Option (Nat × Array Oper × Code)
  | .seq (.region id ops false) r => (match ops.toList.any isRec with | true => some (id, ops, r) | false => none)
  | _ => none
theorem recOf_some {c : Code} {id : Nat} {ops : Array Oper} {r : Code} (h : recOf c = some (id, ops, r)) : c = .seq (.region id ops false) r := by
  unfold recOf at h
  split at h
  · split at h
    · cases h; rfl
    · cases h
  · cases h
noncomputable def endK (P : Program) (rs : List ResultVar) (x : RC) : Option AHeap := match x with
  | .normal T h => (match (resB P rs).un h T with | some _ => some h | none => none)
  | .ret T h => (match (resB P rs).un h T with | some _ => some h | none => none)
  | _ => none
noncomputable def dcallF (P : Program) (FT : FuncId → Option Func) (enters : FuncId → FKind) (CB : CallB) (DB : DrawB) (K : Nat) (d : DCall) (h : AHeap) : Option AHeap := match enters d.g with
  | .enter => match FT d.g with
    | some gn => match gn.body with
      | some gc => match Nat.ble (lenV (listOf (appV d.args (listOf d.cap)))) gn.ntmps with
        | true => match recOf gc with
          | some (_, ops, r) => (match opsR P enters CB ops ops.toList (treeOfB (listOf (appV d.args (listOf d.cap))) 0 .leaf) h with
            | some (T1, h1) => endK P gn.results.toList ((codeB P enters CB DB K r).un T1 h1)
            | none => none)
          | none => endK P gn.results.toList ((codeB P enters CB DB K gc).un (treeOfB (listOf (appV d.args (listOf d.cap))) 0 .leaf) h)
        | false => none
      | none => none
    | none => none
  | _ => none
noncomputable def runDs (P : Program) (FT : FuncId → Option Func) (enters : FuncId → FKind) (CB : CallB) (DB : DrawB) (K : Nat) : List DCall → AHeap → Option AHeap
  | [], h => some h
  | d :: ds, h => match dcallF P FT enters CB DB K d h with
    | some h' => runDs P FT enters CB DB K ds h'
    | none => none
theorem endK_some {rs : List ResultVar} {x : RC} {h' : AHeap} (e : endK P rs x = some h') : ∃ (k : AExit) (T : Tree Value) (us : List Value), (k = .normal ∨ k = .ret) ∧ x = RC.of k T h' ∧ (resB P rs).un h' T = some us := by
  unfold endK at e
  split at e
  · split at e
    · rename_i us hus; cases e; exact ⟨.normal, _, us, .inl rfl, rfl, hus⟩
    · cases e
  · split at e
    · rename_i us hus; cases e; exact ⟨.ret, _, us, .inr rfl, rfl, hus⟩
    · cases e
  · cases e
theorem dcallF_sound {G : Nat} {enters : FuncId → FKind} {FT : FuncId → Option Func} {CB : CallB} {DB : DrawB} (hE : Enters P enters) (hz : ZF P) (hC : CallSound P G (callOf CB)) (hD : DrawGood P G (fun ops T h => (DB ops).un T h)) (hTb : Table P G enters FT)
    (hpl : ∀ f fn c, FT f = some fn → fn.body = some c → plansOk P c = true) {K : Nat} {d : DCall} {h h' : AHeap} (e : dcallF P FT enters CB DB K d h = some h') : Nx h h' ∧
    ∀ (B : Base) (m : Mu) (d' : Deferred) (w : World), DOne m d d' → Rel P B m h w → GRel G m → ∃ cap' args'', d'.target = .fn (.func d.g) cap' ∧ (invoke d'.target d'.args).run P w = .ok (.enter d.g args'') w ∧
      CallsD P d.g args'' .returning w (fun e u' w' => u' = .returning ∧ ∃ v m', e = .returned v ∧ Ext h m m' ∧ Rel P B m' h' w') := by
  unfold dcallF at e
  split at e <;> try (cases e; done)
  rename_i hen
  split at e <;> try (cases e; done)
  rename_i gn hgn
  split at e <;> try (cases e; done)
  rename_i gc hgc
  split at e <;> try (cases e; done)
  rename_i hsz
  rw [Nat.ble_eq, lenV_eq, listOf_eq, listOf_eq, appV_eq] at hsz
  have hf := hTb.has d.g gn hgn
  have hok := hTb.code d.g gn gc hgn hgc
  have hp := hpl d.g gn gc hgn hgc
  have hent := (hE d.g).1 hen
  have hin : ∀ {m : Mu} {cap' args' : Array Value}, ARel m d.cap cap' → ARel m d.args args' → TRel m gn.ntmps (treeOfB (listOf (appV d.args (listOf d.cap))) 0 .leaf) ((args' ++ cap') ++ Array.replicate (gn.ntmps - (args' ++ cap').size) undef) := by
    intro m cap' args' h1 h2
    rw [listOf_eq, listOf_eq, appV_eq, initT_self]
    refine initT_rel (args := d.args ++ d.cap.toList.toArray) ?_ (by simpa using hsz)
    refine ⟨by simp [h1.1, h2.1], fun i hi hi' => ?_⟩
    rw [Array.getElem_append, Array.getElem_append]
    by_cases hlt : i < d.args.size
    · rw [dif_pos hlt, dif_pos (by rw [← h2.1]; exact hlt)]
      exact h2.2 i _ _
    · rw [dif_neg hlt, dif_neg (by rw [← h2.1]; exact hlt)]
      simp only [← h2.1]
      exact h1.2 _ _ _
  split at e
  · rename_i id ops r hrec
    obtain rfl := recOf_some hrec
    split at e <;> try (cases e; done)
    rename_i T1 h1 q1
    obtain ⟨k, T2, us, hk, q2, hus⟩ := endK_some e
    simp only [codeOk, Bool.and_eq_true] at hok
    simp only [plansOk, Bool.and_eq_true] at hp
    obtain ⟨n2, c2⟩ := codeB_sound (n := gn.ntmps) hE hz hC hD K r hp.2 _ _ _ _ _ q2
    have n1 := opsR_next hC _ _ _ _ _ q1
    refine ⟨n1.trans n2, fun B m d' w hd' hr hG => ?_⟩
    obtain ⟨cap', args', rfl, hcap, hargs⟩ := hd'
    refine ⟨cap', args' ++ cap', rfl, hent _ _, ?_⟩
    refine callsD_of_wpS hf hgc fun c0 cs hmode => wpS_seq (wpS_region ?_)
    have hnone : recoverD (c0 :: cs) = none := by
      unfold recoverD
      simp only [hmode]
    have hlen : ops.size = ops.toList.length := by simp
    rw [List.range_eq_range', hlen]
    refine opsR_sound hE hz hC hnone (dst_of_ok hok.1) ops.toList 0 _ _ _ _ m _ w (fun j => by simp) hok.1 q1 (hin hcap hargs) hr hG ?_
    intro m1 a1 w1 x1 t1 d1 r1
    show Code.wpS P r _ _ _ _
    refine wpS_of_wp (c2 B m1 a1 w1 _ hok.2 t1 r1 (hG.mono x1.1) ?_)
    intro m4 a4 w4 x4 t4 d4 r4
    obtain ⟨u', hu1, _⟩ := results_sound r4 t4 (resB_some hus)
    have fin : a4.defers = [] ∧ ∃ u', c0 :: cs = { c0 with mode := u' } :: cs ∧ ∃ v, (results gn a4.tmps).run P w4 = .ok v w4 ∧ (u' = .returning ∧ ∃ v' m', Ending.returned v = .returned v' ∧ Ext h m m' ∧ Rel P B m' h' w4) :=
      ⟨by rw [d4, d1], .returning, by rw [← hmode], u', hu1, rfl, u', m4, rfl, x1.trans x4 n1.1 n1.2.1, r4⟩
    rcases hk with rfl | rfl
    · exact fin
    · exact fin
  · obtain ⟨k, T2, us, hk, q2, hus⟩ := endK_some e
    obtain ⟨n2, c2⟩ := codeB_sound (n := gn.ntmps) hE hz hC hD K gc hp _ _ _ _ _ q2
    refine ⟨n2, fun B m d' w hd' hr hG => ?_⟩
    obtain ⟨cap', args', rfl, hcap, hargs⟩ := hd'
    refine ⟨cap', args' ++ cap', rfl, hent _ _, ?_⟩
    refine (callsD_of_wp (u := .returning) (R := fun e w' => ∃ v m', e = .returned v ∧ Ext h m m' ∧ Rel P B m' h' w') hf hgc ?_).mono fun e u' w' hx => hx
    refine c2 B m _ w _ hok (hin hcap hargs) hr hG ?_
    intro m4 a4 w4 x4 t4 d4 r4
    obtain ⟨u', hu1, _⟩ := results_sound r4 t4 (resB_some hus)
    have fin : a4.defers = [] ∧ ∃ v, (results gn a4.tmps).run P w4 = .ok v w4 ∧ (∃ v' m', Ending.returned v = .returned v' ∧ Ext h m m' ∧ Rel P B m' h' w4) := ⟨d4, u', hu1, u', m4, rfl, x4, r4⟩
    rcases hk with rfl | rfl
    · exact fin
    · exact fin
theorem runDs_sound {G : Nat} {enters : FuncId → FKind} {FT : FuncId → Option Func} {CB : CallB} {DB : DrawB} (hE : Enters P enters) (hz : ZF P) (hC : CallSound P G (callOf CB)) (hD : DrawGood P G (fun ops T h => (DB ops).un T h)) (hTb : Table P G enters FT)
    (hpl : ∀ f fn c, FT f = some fn → fn.body = some c → plansOk P c = true) {K : Nat} : ∀ (ds : List DCall) (h h' : AHeap), runDs P FT enters CB DB K ds h = some h' → Nx h h' ∧
    ∀ (B : Base) (m : Mu) (es : List Deferred) (w : World) (fn : Func) (tmps : Array Value) (R : Ending → World → Prop), DRel m ds es → Rel P B m h w → GRel G m →
      (∀ m' w', Ext h m m' → Rel P B m' h' w' → ∃ v, (results fn tmps).run P w' = .ok v w' ∧ R (.returned v) w') → Leaves P fn tmps R es .returning w := by
  intro ds
  induction ds with
  | nil =>
    intro h h' e
    cases e
    refine ⟨Nx.refl _, fun B m es w fn tmps R hds hr hG hR => ?_⟩
    cases es with
    | nil => exact hR m w (Ext.refl _ m) hr
    | cons => exact hds.elim
  | cons d ds ih =>
    intro h h' e
    simp only [runDs] at e
    split at e
    · rename_i h1 q1
      obtain ⟨n1, c1⟩ := dcallF_sound hE hz hC hD hTb hpl q1
      obtain ⟨n2, c2⟩ := ih _ _ e
      refine ⟨n1.trans n2, fun B m es w fn tmps R hds hr hG hR => ?_⟩
      cases es with
      | nil => exact hds.elim
      | cons e0 es =>
        obtain ⟨cap', args'', ht, hinv, hcall⟩ := c1 B m e0 w hds.1 hr hG
        obtain ⟨t, as⟩ := e0
        dsimp only at ht hinv
        subst ht
        refine leaves_cons (by intro q; cases q) hinv (hcall.mono ?_)
        rintro e u' w' ⟨rfl, v, m', rfl, x1, r1⟩
        show Leaves P fn tmps R es .returning w'
        exact c2 B m' es w' fn tmps R (hds.2.mono x1.1) r1 (hG.mono x1.1) fun m2 w2 x2 r2 => hR m2 w2 (x1.trans x2 n1.1 n1.2.1) r2
    · cases e
/-- A function that defers calls. -/
noncomputable def deferG (P : Program) (FT : FuncId → Option Func) (enters : FuncId → FKind) (CB : CallB) (DB : DrawB) (K : Nat) (fn : Func) (c : Code) : Array Value → AHeap → Option (Value × AHeap) := fun args h =>
  match Nat.ble (lenV (listOf args)) fn.ntmps with
  | true => match (codeD P enters CB DB K c).un (treeOfB (listOf args) 0 .leaf) h [] with
    | .normal T1 h1 ds => (match runDs P FT enters CB DB K ds h1 with
      | some h2 => (match (resB P fn.results.toList).un h2 T1 with | some vs => some (oneA vs, h2) | none => none)
      | none => none)
    | .ret T1 h1 ds => (match runDs P FT enters CB DB K ds h1 with
      | some h2 => (match (resB P fn.results.toList).un h2 T1 with | some vs => some (oneA vs, h2) | none => none)
      | none => none)
    | _ => none
  | false => none
theorem deferG_sound {G : Nat} {enters : FuncId → FKind} {FT : FuncId → Option Func} {CB : CallB} {DB : DrawB} (hE : Enters P enters) (hz : ZF P) (hC : CallSound P G (callOf CB)) (hD : DrawGood P G (fun ops T h => (DB ops).un T h)) (hTb : Table P G enters FT)
    (hpl : ∀ f fn c, FT f = some fn → fn.body = some c → plansOk P c = true) {K : Nat} {f : FuncId} {fn : Func} {c : Code} (hf : FT f = some fn) (hb : fn.body = some c)
    {args : Array Value} {h : AHeap} {v : Value} {h' : AHeap} (e : deferG P FT enters CB DB K fn c args h = some (v, h')) : Nx h h' ∧
    ∀ (B : Base) m args' w, ARel m args args' → Rel P B m h w → GRel G m →
      Calls P f args' w (fun e w' => ∃ v' m', e = .returned v' ∧ Ext h m m' ∧ Rel P B m' h' w' ∧ VRel m' v v') := by
  unfold deferG at e
  split at e <;> try (cases e; done)
  rename_i hsz
  rw [Nat.ble_eq, lenV_eq, listOf_eq] at hsz
  rw [listOf_eq, initT_self] at e
  have hf' := hTb.has f fn hf
  have hok := hTb.code f fn c hf hb
  have hp := hpl f fn c hf hb
  have main : ∀ (k : AExit) (T1 : Tree Value) (h1 : AHeap) (ds : List DCall) (vs : List Value), (k = .normal ∨ k = .ret) → (codeD P enters CB DB K c).un (initT args.toList 0 .leaf) h [] = RD.of k T1 h1 ds → runDs P FT enters CB DB K ds h1 = some h' → (resB P fn.results.toList).un h' T1 = some vs → Nx h h' ∧
      ∀ (B : Base) m args' w, ARel m args args' → Rel P B m h w → GRel G m →
        Calls P f args' w (fun e w' => ∃ v' m', e = .returned v' ∧ Ext h m m' ∧ Rel P B m' h' w' ∧ VRel m' (oneA vs) v') := by
    intro k T1 h1 ds vs hk q1 q2 hvs
    obtain ⟨n1, c1⟩ := codeD_sound (n := fn.ntmps) hE hz hC hD K c hp _ _ _ _ _ _ _ q1
    obtain ⟨n2, c2⟩ := runDs_sound hE hz hC hD hTb hpl _ _ _ q2
    refine ⟨n1.trans n2, fun B m args' w ha hr hG => ?_⟩
    refine calls_of_wp_defers hf' hb (c1 B m _ w _ hok (initT_rel ha hsz) hr hG trivial ?_)
    intro m1 a1 w1 x1 t1 d1 r1
    have fin := c2 B m1 a1.defers w1 fn a1.tmps (fun e w' => ∃ v' m', e = .returned v' ∧ Ext h m m' ∧ Rel P B m' h' w' ∧ VRel m' (oneA vs) v') d1 r1 (hG.mono x1.1) fun m2 w2 x2 r2 => by
      obtain ⟨v', hv1, hv2⟩ := results_sound r2 (t1.mono x2.1) (resB_some hvs)
      exact ⟨v', hv1, v', m2, rfl, x1.trans x2 n1.1 n1.2.1, r2, hv2⟩
    rcases hk with rfl | rfl
    · exact fin
    · exact fin
  split at e
  · rename_i T1 h1 ds q1
    split at e
    · rename_i h2 q2
      split at e
      · rename_i vs hvs
        simp only [Option.some.injEq, Prod.mk.injEq] at e
        obtain ⟨rfl, rfl⟩ := e
        exact main .normal T1 h1 ds vs (.inl rfl) q1 q2 hvs
      · cases e
    · cases e
  · rename_i T1 h1 ds q1
    split at e
    · rename_i h2 q2
      split at e
      · rename_i vs hvs
        simp only [Option.some.injEq, Prod.mk.injEq] at e
        obtain ⟨rfl, rfl⟩ := e
        exact main .ret T1 h1 ds vs (.inr rfl) q1 q2 hvs
      · cases e
    · cases e
  · cases e
end
end Go.Ab
