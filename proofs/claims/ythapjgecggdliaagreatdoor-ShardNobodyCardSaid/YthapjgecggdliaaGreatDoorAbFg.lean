import Derived.Test.YthapjgecggdliaaGreatDoorAbFf
namespace Go.Ab
open Go
section
variable {P : Program}

/-! ## Code -/
inductive RC where
  | none
  | normal (T : Tree Value) (h : AHeap)
  | exit (id : Nat) (T : Tree Value) (h : AHeap)
  | ret (T : Tree Value) (h : AHeap)
def RC.of : AExit → Tree Value → AHeap → RC
  | .normal, T, h => .normal T h
  | .exit id, T, h => .exit id T h
  | .ret, T, h => .ret T h
abbrev DrawB := Array Oper → Box (Tree Value → AHeap → Option (Tree Value × AHeap))
def rcOf (x : Option (Tree Value × AHeap)) : RC := match x with | some (T, h) => .normal T h | none => .none
noncomputable def loopB (f : Tree Value → AHeap → RC) (K : Nat) : Tree Value → AHeap → RC :=
  Nat.rec (motive := fun _ => Tree Value → AHeap → RC) (fun _ _ => .none) (fun _ ih T h => match f T h with | .normal T' h' => ih T' h' | .none => .none | .exit id T' h' => .exit id T' h' | .ret T' h' => .ret T' h') K
noncomputable def codeB (P : Program) (enters : FuncId → FKind) (CB : CallB) (DB : DrawB) (K : Nat) : Code → Box (Tree Value → AHeap → RC)
  | .skip => ⟨fun T h => .normal T h⟩
  | .label _ => ⟨fun T h => .normal T h⟩
  | .exit id => ⟨fun T h => .exit id T h⟩
  | .ret => ⟨fun T h => .ret T h⟩
  | .region _ ops false => ⟨fun T h => rcOf ((opsB P enters CB ops ops.toList).un T h)⟩
  | .region _ ops true => ⟨fun T h => rcOf ((DB ops).un T h)⟩
  | .seq a b => ⟨fun T h => match (codeB P enters CB DB K a).un T h with | .normal T' h' => (codeB P enters CB DB K b).un T' h' | .none => .none | .exit id T' h' => .exit id T' h' | .ret T' h' => .ret T' h'⟩
  | .cond c a b => ⟨fun T h => vBool ((rdB c).un T) (fun t => match t with | true => (codeB P enters CB DB K a).un T h | false => (codeB P enters CB DB K b).un T h) .none⟩
  | .block id c => ⟨fun T h => match (codeB P enters CB DB K c).un T h with | .exit id' T' h' => (match Nat.beq id' id with | true => .normal T' h' | false => .exit id' T' h') | .none => .none | .normal T' h' => .normal T' h' | .ret T' h' => .ret T' h'⟩
  | .loop c => ⟨fun T h => loopB (codeB P enters CB DB K c).un K T h⟩
  | .scope c => codeB P enters CB DB K c
  | _ => ⟨fun _ _ => .none⟩
theorem rcOf_some {x : Option (Tree Value × AHeap)} {e : AExit} {T : Tree Value} {h : AHeap} (q : rcOf x = RC.of e T h) : e = .normal ∧ x = some (T, h) := by
  cases x with
  | none => cases e <;> cases q
  | some r => obtain ⟨a, b⟩ := r; cases e <;> first | (cases q; exact ⟨rfl, rfl⟩) | cases q
theorem vBool_rc {v : Value} {f : Bool → RC} {e : AExit} {T : Tree Value} {h : AHeap} (q : vBool v f .none = RC.of e T h) : ∃ b, v = .bool b ∧ f b = RC.of e T h := by
  cases v <;> first | exact ⟨_, rfl, q⟩ | (cases e <;> cases q)

/-- All regions that draw their order have a plan. -/
def plansOk (P : Program) : Code → Bool
  | .region _ ops true => planOk P ops (masksGo ops.toList []) ops.size
  | .seq a b => plansOk P a && plansOk P b
  | .cond _ a b => plansOk P a && plansOk P b
  | .block _ c | .loop c | .scope c => plansOk P c
  | _ => true
def DrawGood (P : Program) (G : Nat) (draw : DrawF) : Prop :=
  ∀ ops T h T' h', planOk P ops (masksGo ops.toList []) ops.size = true → draw ops T h = some (T', h') → Nx h h' ∧
    ∀ (B : Base) m n id a w (Q : Exit → Act → World → Prop), ops.toList.all (opOk G n) = true → TRel m n T a.tmps → Rel P B m h w → GRel G m →
      (∀ m' a' w', Ext h m m' → TRel m' n T' a'.tmps → a'.defers = a.defers → Rel P B m' h' w' → Q .normal a' w') → (Code.region id ops true).wp P Q a w
def CodeGood (P : Program) (G n : Nat) (c : Code) (T : Tree Value) (h : AHeap) (e : AExit) (T' : Tree Value) (h' : AHeap) : Prop := Nx h h' ∧
  ∀ (B : Base) (m : Mu) (a : Act) (w : World) (Q : Exit → Act → World → Prop), codeOk G n c = true → TRel m n T a.tmps → Rel P B m h w → GRel G m →
    (∀ m' a' w', Ext h m m' → TRel m' n T' a'.tmps → a'.defers = a.defers → Rel P B m' h' w' → Q e.toExit a' w') → c.wp P Q a w
def RoundsGood (P : Program) (G n : Nat) (c : Code) (k : Nat) (T : Tree Value) (h : AHeap) (e : AExit) (T' : Tree Value) (h' : AHeap) : Prop := Nx h h' ∧
  ∀ (B : Base) (m : Mu) (a : Act) (w : World) (Q : Exit → Act → World → Prop), codeOk G n c = true → TRel m n T a.tmps → Rel P B m h w → GRel G m →
    (∀ m' a' w', Ext h m m' → TRel m' n T' a'.tmps → a'.defers = a.defers → Rel P B m' h' w' → Q e.toExit a' w') → Code.rounds P c Q k a w

theorem codeB_sound {G n : Nat} {enters : FuncId → FKind} {CB : CallB} {DB : DrawB} (hE : Enters P enters) (hz : ZF P) (hC : CallSound P G (callOf CB)) (hD : DrawGood P G (fun ops T h => (DB ops).un T h)) (K : Nat) :
    ∀ (c : Code), plansOk P c = true → ∀ (T : Tree Value) (h : AHeap) (e : AExit) (T' : Tree Value) (h' : AHeap), (codeB P enters CB DB K c).un T h = RC.of e T' h' → CodeGood P G n c T h e T' h' := by
  intro c
  induction c with
  | skip =>
    intro _ T h e T' h' q
    cases e <;> cases q
    exact ⟨Nx.refl _, fun B m a w Q _ hT hr hG hQ => wp_skip (hQ m a w (Ext.refl _ m) hT rfl hr)⟩
  | label _ =>
    intro _ T h e T' h' q
    cases e <;> cases q
    exact ⟨Nx.refl _, fun B m a w Q _ hT hr hG hQ => wp_label (hQ m a w (Ext.refl _ m) hT rfl hr)⟩
  | exit id =>
    intro _ T h e T' h' q
    cases e <;> cases q
    exact ⟨Nx.refl _, fun B m a w Q _ hT hr hG hQ => wp_exit (hQ m a w (Ext.refl _ m) hT rfl hr)⟩
  | ret =>
    intro _ T h e T' h' q
    cases e <;> cases q
    exact ⟨Nx.refl _, fun B m a w Q _ hT hr hG hQ => wp_ret (hQ m a w (Ext.refl _ m) hT rfl hr)⟩
  | region id ops d =>
    intro hpl T h e T' h' q
    cases d with
    | false =>
      obtain ⟨rfl, h1⟩ := rcOf_some q
      have h2 := opsB_some h1
      exact ⟨runOps_next hC _ _ _ _ _ h2, fun B m a w Q hok hT hr hG hQ => wp_region_list (runOps_sound hE hz hC (dst_of_ok hok) _ _ _ _ _ m a w hok h2 hT hr hG hQ)⟩
    | true =>
      obtain ⟨rfl, h1⟩ := rcOf_some q
      obtain ⟨q1, q2⟩ := hD _ _ _ _ _ hpl h1
      exact ⟨q1, fun B m a w Q hok hT hr hG hQ => q2 B m n id a w Q hok hT hr hG hQ⟩
  | seq x y ihx ihy =>
    intro hpl T h e T' h' q
    simp only [plansOk, Bool.and_eq_true] at hpl
    replace ihx := ihx hpl.1
    replace ihy := ihy hpl.2
    simp only [codeB] at q
    have other : ∀ (e : AExit) (T' : Tree Value) (h' : AHeap), e ≠ .normal → CodeGood P G n x T h e T' h' → CodeGood P G n (.seq x y) T h e T' h' := by
      intro e T' h' hne ⟨q1, q2⟩
      refine ⟨q1, fun B m a w Q hok hT hr hG hQ => wp_seq ?_⟩
      simp only [codeOk, Bool.and_eq_true] at hok
      refine q2 B m a w _ hok.1 hT hr hG ?_
      intro m' a' w' c1 c2 c3 c4
      have := hQ m' a' w' c1 c2 c3 c4
      cases e with
      | normal => exact absurd rfl hne
      | exit id => exact this
      | ret => exact this
    split at q
    · rename_i T2 h2 h1
      obtain ⟨q1, q2⟩ := ihx _ _ .normal _ _ h1
      obtain ⟨r1, r2⟩ := ihy _ _ _ _ _ q
      refine ⟨q1.trans r1, fun B m a w Q hok hT hr hG hQ => wp_seq ?_⟩
      simp only [codeOk, Bool.and_eq_true] at hok
      refine q2 B m a w _ hok.1 hT hr hG ?_
      intro m' a' w' c1 c2 c3 c4
      refine r2 B m' a' w' Q hok.2 c2 c4 (hG.mono c1.1) ?_
      intro m2 a2 w2 d1 d2 d3 d4
      exact hQ m2 a2 w2 (c1.trans d1 q1.1 q1.2.1) d2 (d3.trans c3) d4
    · cases e <;> cases q
    · rename_i id T2 h2 h1
      cases e <;> cases q
      exact other (.exit id) _ _ (fun h => by cases h) (ihx _ _ (.exit id) _ _ h1)
    · rename_i T2 h2 h1
      cases e <;> cases q
      exact other .ret _ _ (fun h => by cases h) (ihx _ _ .ret _ _ h1)
  | cond c0 x y ihx ihy =>
    intro hpl T h e T' h' q
    simp only [plansOk, Bool.and_eq_true] at hpl
    replace ihx := ihx hpl.1
    replace ihy := ihy hpl.2
    simp only [codeB] at q
    obtain ⟨b, hb0, h1⟩ := vBool_rc q
    rw [rdB_eq] at hb0
    cases b with
    | true =>
      obtain ⟨q1, q2⟩ := ihx _ _ _ _ _ h1
      refine ⟨q1, fun B m a w Q hok hT hr hG hQ => ?_⟩
      simp only [codeOk, Bool.and_eq_true] at hok
      have hb := rho_rel (a := a) hT hG hok.1.1
      rw [hb0] at hb
      refine wp_cond_true ?_ (q2 B m a w Q hok.1.2 hT hr hG hQ)
      generalize a.eval c0 = z at hb ⊢
      cases hb; rfl
    | false =>
      obtain ⟨q1, q2⟩ := ihy _ _ _ _ _ h1
      refine ⟨q1, fun B m a w Q hok hT hr hG hQ => ?_⟩
      simp only [codeOk, Bool.and_eq_true] at hok
      have hb := rho_rel (a := a) hT hG hok.1.1
      rw [hb0] at hb
      refine wp_cond_false ?_ (q2 B m a w Q hok.2 hT hr hG hQ)
      generalize a.eval c0 = z at hb ⊢
      cases hb; rfl
  | block id c0 ih =>
    intro hpl T h e T' h' q
    replace ih := ih hpl
    simp only [codeB] at q
    split at q
    · rename_i id' T2 h2 h1
      obtain ⟨q1, q2⟩ := ih _ _ (.exit id') _ _ h1
      split at q
      · rename_i hid
        rw [Nat.beq_eq] at hid
        cases e <;> cases q
        refine ⟨q1, fun B m a w Q hok hT hr hG hQ => wp_block (q2 B m a w _ hok hT hr hG ?_)⟩
        intro m' a' w' c1 c2 c3 c4
        simp only [AExit.toExit, Exit.inBlock, hid, if_true]
        exact hQ m' a' w' c1 c2 c3 c4
      · rename_i hid
        have hid' : id' ≠ id := by intro h; rw [h] at hid; simp at hid
        cases e <;> cases q
        refine ⟨q1, fun B m a w Q hok hT hr hG hQ => wp_block (q2 B m a w _ hok hT hr hG ?_)⟩
        intro m' a' w' c1 c2 c3 c4
        simp only [AExit.toExit, Exit.inBlock, hid', if_false]
        exact hQ m' a' w' c1 c2 c3 c4
    · cases e <;> cases q
    · rename_i T2 h2 h1
      cases e <;> cases q
      obtain ⟨q1, q2⟩ := ih _ _ .normal _ _ h1
      refine ⟨q1, fun B m a w Q hok hT hr hG hQ => wp_block (q2 B m a w _ hok hT hr hG ?_)⟩
      intro m' a' w' c1 c2 c3 c4
      exact hQ m' a' w' c1 c2 c3 c4
    · rename_i T2 h2 h1
      cases e <;> cases q
      obtain ⟨q1, q2⟩ := ih _ _ .ret _ _ h1
      refine ⟨q1, fun B m a w Q hok hT hr hG hQ => wp_block (q2 B m a w _ hok hT hr hG ?_)⟩
      intro m' a' w' c1 c2 c3 c4
      exact hQ m' a' w' c1 c2 c3 c4
  | loop c0 ih =>
    intro hpl T h e T' h' q
    replace ih := ih hpl
    have key : ∀ (k : Nat) (T : Tree Value) (h : AHeap) (e : AExit) (T' : Tree Value) (h' : AHeap), loopB (codeB P enters CB DB K c0).un k T h = RC.of e T' h' → RoundsGood P G n c0 k T h e T' h' := by
      intro k
      induction k with
      | zero => intro T h e T' h' q; cases e <;> cases q
      | succ k ihk =>
        intro T h e T' h' q
        have other : ∀ (e : AExit) (T' : Tree Value) (h' : AHeap), e ≠ .normal → CodeGood P G n c0 T h e T' h' → RoundsGood P G n c0 (k + 1) T h e T' h' := by
          intro e T' h' hne ⟨q1, q2⟩
          refine ⟨q1, fun B m a w Q hok hT hr hG hQ => ?_⟩
          rw [rounds_succ]
          refine q2 B m a w _ hok hT hr hG ?_
          intro m' a' w' c1 c2 c3 c4
          have := hQ m' a' w' c1 c2 c3 c4
          cases e with
          | normal => exact absurd rfl hne
          | exit id => exact this
          | ret => exact this
        have q' : (match (codeB P enters CB DB K c0).un T h with | .normal T' h' => loopB (codeB P enters CB DB K c0).un k T' h' | .none => .none | .exit id T' h' => .exit id T' h' | .ret T' h' => .ret T' h') = RC.of e T' h' := q
        split at q'
        · rename_i T2 h2 h1
          obtain ⟨q1, q2⟩ := ih _ _ .normal _ _ h1
          obtain ⟨r1, r2⟩ := ihk _ _ _ _ _ q'
          refine ⟨q1.trans r1, fun B m a w Q hok hT hr hG hQ => ?_⟩
          rw [rounds_succ]
          refine q2 B m a w _ hok hT hr hG ?_
          intro m' a' w' c1 c2 c3 c4
          refine r2 B m' a' w' Q hok c2 c4 (hG.mono c1.1) ?_
          intro m2 a2 w2 d1 d2 d3 d4
          exact hQ m2 a2 w2 (c1.trans d1 q1.1 q1.2.1) d2 (d3.trans c3) d4
        · cases e <;> cases q'
        · rename_i id T2 h2 h1
          cases e <;> cases q'
          exact other (.exit id) _ _ (fun h => by cases h) (ih _ _ (.exit id) _ _ h1)
        · rename_i T2 h2 h1
          cases e <;> cases q'
          exact other .ret _ _ (fun h => by cases h) (ih _ _ .ret _ _ h1)
    obtain ⟨q1, q2⟩ := key K T h e T' h' q
    exact ⟨q1, fun B m a w Q hok hT hr hG hQ => wp_loop_rounds K (q2 B m a w Q hok hT hr hG hQ)⟩
  | scope c0 ih =>
    intro hpl T h e T' h' q
    replace ih := ih hpl
    obtain ⟨q1, q2⟩ := ih _ _ _ _ _ q
    refine ⟨q1, fun B m a w Q hok hT hr hG hQ => wp_scope_straight (q2 B m a w _ hok hT hr hG ?_)⟩
    intro m' a' w' c1 c2 c3 c4
    have := hQ m' a' w' c1 c2 c3 c4
    cases e <;> exact this
  | _ =>
    intro _ T h e T' h' q
    cases e <;> cases q

/-! ## Calls -/
noncomputable def resB (P : Program) : List ResultVar → Box (AHeap → Tree Value → Option (List Value))
  | [] => ⟨fun _ _ => some []⟩
  | .tmp t :: rest => ⟨fun h T => match (resB P rest).un h T with | some l => some ((getB undef (Path.of t)).un T :: l) | none => none⟩
  | .cell a t :: rest => ⟨fun h T => match (ldB P t).un ((getB undef (Path.of a)).un T) h with
    | some v => (match (resB P rest).un h T with | some l => some (v :: l) | none => none)
    | none => none⟩
theorem ldB_loadA {t : TypeId} {v r : Value} {h : AHeap} (e : (ldB P t).un v h = some r) : loadA P h t v = some r := by
  unfold ldB at e
  split at e
  · rename_i d i hd hi
    split at e
    · rename_i hag
      dsimp only at e
      obtain ⟨b, o, rfl, e2⟩ := vPtr_some e
      rw [heapGet_eq] at e2
      split at e2
      · rename_i c hb
        rw [rowGet_eq] at e2
        unfold loadA
        dsimp only
        rw [hb, hd, hi]
        dsimp only
        rw [hag]
        exact e2
      · cases e2
    · rename_i hag
      dsimp only at e
      obtain ⟨b, o, rfl, e2⟩ := vPtr_some e
      rw [heapGet_eq] at e2
      split at e2
      · rename_i c hb
        obtain ⟨n, tr⟩ := c
        dsimp only at e2
        split at e2
        · rename_i hl
          obtain rfl := Option.some.inj e2
          unfold loadA
          dsimp only
          rw [hb, hd, hi]
          dsimp only
          rw [hag]
          have hl' : Nat.ble (o + i.size) n = true := hl
          simp only [if_true, hl']
          have := partB_eq ⟨n, tr⟩ i.size o
          dsimp only at this
          rw [this]
        · cases e2
      · cases e2
  · cases e
theorem resB_some {h : AHeap} {T : Tree Value} : ∀ {rs : List ResultVar} {l : List Value}, (resB P rs).un h T = some l → resA P h T rs = some l := by
  intro rs
  induction rs with
  | nil => intro l e; exact e
  | cons r rs ih =>
    intro l e
    cases r with
    | tmp t =>
      simp only [resB] at e
      split at e
      · rename_i l0 h0
        obtain rfl := Option.some.inj e
        simp only [resA, ih h0, getB_eq]; rfl
      · cases e
    | cell a t =>
      simp only [resB] at e
      split at e
      · rename_i v hv
        split at e
        · rename_i l0 h0
          obtain rfl := Option.some.inj e
          have hg : (getB undef (Path.of a)).un T = Tget T a := getB_eq undef _ T
          rw [hg] at hv
          simp only [resA, ih h0, ldB_loadA hv]
        · cases e
      · cases e
abbrev Known := FuncId → Option (Array Value → AHeap → Option (Value × AHeap))
def Known.call (sp : Known) : CallF := fun f args h => match sp f with | some g => g args h | none => none
theorem initT_treeOf : ∀ (l : List Value) (i : Nat) (T : Tree Value), initT l i T = treeOf l i T := by
  intro l
  induction l with
  | nil => intro i T; rfl
  | cons v l ih => intro i T; exact ih _ _
noncomputable def endB (P : Program) (rs : List ResultVar) (x : RC) : Option (Value × AHeap) := match x with
  | .normal T h => (match (resB P rs).un h T with | some vs => some (oneA vs, h) | none => none)
  | .ret T h => (match (resB P rs).un h T with | some vs => some (oneA vs, h) | none => none)
  | _ => none
noncomputable def bodyB (P : Program) (enters : FuncId → FKind) (CB : CallB) (DB : DrawB) (K : Nat) (fn : Option Func) : Box (Array Value → AHeap → Option (Value × AHeap)) :=
  match fn with
  | some fn => match fn.body with
    | some c => ⟨fun args h => match Nat.ble (lenV (listOf args)) fn.ntmps with
      | true => endB P fn.results.toList ((codeB P enters CB DB K c).un (treeOfB (listOf args) 0 .leaf) h)
      | false => none⟩
    | none => ⟨fun _ _ => none⟩
  | none => ⟨fun _ _ => none⟩
noncomputable def callB (P : Program) (enters : FuncId → FKind) (FT : FuncId → Option Func) (sp : Known) (draw : CallB → DrawB) (K : Nat) : Nat → CallB
  | 0, _ => ⟨fun _ _ => none⟩
  | d + 1, f => match sp f with
    | some g => ⟨g⟩
    | none => bodyB P enters (callB P enters FT sp draw K d) (draw (callB P enters FT sp draw K d)) K (FT f)
theorem callB_sound {G : Nat} {enters : FuncId → FKind} {FT : FuncId → Option Func} {sp : Known} {draw : CallB → DrawB} (hE : Enters P enters) (hz : ZF P) (hT : Table P G enters FT) (hS : CallSound P G sp.call)
    (hPl : ∀ f fn c, FT f = some fn → fn.body = some c → plansOk P c = true) (hD : ∀ CB, CallSound P G (callOf CB) → DrawGood P G (fun ops T h => (draw CB ops).un T h)) (K : Nat) : ∀ d, CallSound P G (callOf (callB P enters FT sp draw K d)) := by
  intro d
  induction d with
  | zero => intro f args h v h' e; cases e
  | succ d ih =>
    intro f args h v h' e
    have e0 : (match sp f with
      | some g => (⟨g⟩ : Box (Array Value → AHeap → Option (Value × AHeap)))
      | none => bodyB P enters (callB P enters FT sp draw K d) (draw (callB P enters FT sp draw K d)) K (FT f)).un args h = some (v, h') := e
    clear e
    split at e0
    · rename_i g hg
      exact hS f args h v h' (by unfold Known.call; rw [hg]; exact e0)
    · unfold bodyB at e0
      split at e0 <;> try (cases e0; done)
      rename_i fn hfn
      split at e0 <;> try (cases e0; done)
      rename_i c hb
      dsimp only at e0
      split at e0 <;> try (cases e0; done)
      rename_i hsz
      rw [Nat.ble_eq, lenV_eq, listOf_eq, Array.length_toList] at hsz
      have hinit : treeOfB (listOf args) 0 .leaf = initT args.toList 0 .leaf := by rw [treeOfB_eq, initT_treeOf, listOf_eq]
      rw [hinit] at e0
      have fin : ∀ (x : AExit) (T' : Tree Value) (h2 : AHeap), (x = .normal ∨ x = .ret) → (codeB P enters (callB P enters FT sp draw K d) (draw (callB P enters FT sp draw K d)) K c).un (initT args.toList 0 .leaf) h = RC.of x T' h2 →
          (match (resB P fn.results.toList).un h2 T' with | some vs => some (oneA vs, h2) | none => none) = some (v, h') → Nx h h' ∧
          ∀ (B : Base) m args' w, ARel m args args' → Rel P B m h w → GRel G m →
            Calls P f args' w (fun e w' => ∃ v' m', e = .returned v' ∧ Ext h m m' ∧ Rel P B m' h' w' ∧ VRel m' v v') := by
        intro x T' h2 hx hc he
        split at he <;> try (cases he; done)
        rename_i vs hvs
        simp only [Option.some.injEq, Prod.mk.injEq] at he
        obtain ⟨rfl, rfl⟩ := he
        obtain ⟨q1, q2⟩ := codeB_sound (n := fn.ntmps) hE hz ih (hD _ ih) K c (hPl f fn c hfn hb) _ _ _ _ _ hc
        refine ⟨q1, fun B m args' w ha hr hG => ?_⟩
        refine calls_of_wp (hT.has f fn hfn) hb (q2 B m { tmps := args' ++ Array.replicate (fn.ntmps - args'.size) undef, defers := [] } w _ (hT.code f fn c hfn hb) (initT_rel ha hsz) hr hG ?_)
        intro m' a' w' c1 c2 c3 c4
        obtain ⟨v', r1, r2⟩ := results_sound c4 c2 (resB_some hvs)
        have : bodyPost P fn (fun e w' => ∃ v' m', e = .returned v' ∧ Ext h m m' ∧ Rel P B m' h2 w' ∧ VRel m' (oneA vs) v') .ret a' w' := ⟨c3, v', r1, v', m', rfl, c1, c4, r2⟩
        rcases hx with rfl | rfl <;> exact this
      unfold endB at e0
      split at e0
      · rename_i T' h2 hc; exact fin .normal _ _ (.inl rfl) hc e0
      · rename_i T' h2 hc; exact fin .ret _ _ (.inr rfl) hc e0
      · cases e0
end
end Go.Ab
