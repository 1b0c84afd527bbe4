import Derived.Test.YthapjgecggdliaaGreatDoorAbFt
namespace Go.Ab
open Go Go.RowKit
section
variable {P : Program}

/-! ## Blocks of the machine's own among those that are kept -/
def Base.with (B : Base) (l : Nat) (o : Obj) : Base := { B with prot := fun k => if k = l then some o else B.prot k }
theorem Rel.own {B B' : Base} {m : Mu} {h : AHeap} {w w' : World} (hr : Rel P B m h w) (l : Nat) (hos : B'.os = B.os) (htape : B'.tape = B.tape) (hout : B'.output = B.output) (wos : w'.os = w.os) (wtape : w'.tape = w.tape) (wout : w'.output = w.output)
    (hl : ∀ b, h.get b ≠ .dead → ∀ l', m b = some l' → l'.blk ≠ l) (hw : ∀ k, k ≠ l → ∀ o, w.heap[k]? = some o → w'.heap[k]? = some o) (hB : ∀ k, k ≠ l → B'.prot k = B.prot k) (hB2 : ∀ o, B'.prot l = some o → w'.heap[l]? = some o) : Rel P B' m h w' := by
  refine ⟨by rw [wos, hos, hr.os], by rw [wtape, htape, hr.tape], by rw [wout, hout, hr.output], fun k o hk => ?_, fun b hb => ?_, hr.sep, hr.fresh⟩
  · by_cases e : k = l
    · subst e; exact hB2 o hk
    · rw [hB k e] at hk; exact hw k e o (hr.prot k o hk)
  · obtain ⟨l', h1, h2, h3⟩ := hr.obj b hb
    have hne := hl b hb l' h1
    exact ⟨l', h1, by rw [hB _ hne]; exact h2, h3.of_block (fun x hx => hw _ hne x hx)⟩
/-- No block that is named is one that holds no cells and is kept. -/
theorem Rel.ne_kept {B : Base} {m : Mu} {h : AHeap} {w : World} (hr : Rel P B m h w) {l : Nat} {o : Obj} (ho : B.prot l = some o) (hc : ∀ C t fr, o ≠ .cells C t fr) : ∀ b, h.get b ≠ .dead → ∀ l', m b = some l' → l'.blk ≠ l := by
  intro b hb l' hl' e
  obtain ⟨l2, h1, h2, h3⟩ := hr.obj b hb
  rw [hl'] at h1
  cases h1
  rw [e, ho] at h2
  have hw := hr.prot l o ho
  have no : isRo (h.get b) = true := by
    cases hx : isRo (h.get b) with
    | true => rfl
    | false => have := protOf_none h2 hx; cases this
  cases hg : h.get b with
  | ro c t =>
    rw [hg] at h3
    obtain ⟨C, te, fr, q, _⟩ := h3
    rw [e, hw] at q
    cases q
    exact hc _ _ _ rfl
  | _ => rw [hg] at no; cases no
theorem with_prot (B : Base) (l : Nat) (o : Obj) : (B.with l o).prot l = some o := by simp [Base.with]
/-- A new block that is kept. -/
theorem Rel.keep {B : Base} {m : Mu} {h : AHeap} {w : World} (hr : Rel P B m h w) (o : Obj) : Rel P (B.with w.heap.size o) m h (w.alloc o) :=
  hr.own w.heap.size rfl rfl rfl rfl rfl rfl (fun b hb l' hl' e => by have := hr.lt_size hb hl'; omega)
    (fun k _ x hx => (Below.heap_alloc w o k (Array.getElem?_eq_some_iff.1 hx).1).trans hx) (fun k hk => by simp [Base.with, hk]) (fun x hx => by rw [with_prot] at hx; cases hx; exact World.alloc_heap_new w o)
/-- It turns. -/
theorem Rel.turn {B : Base} {m : Mu} {h : AHeap} {w : World} {l : Nat} {o : Obj} (hr : Rel P (B.with l o) m h w) (hc : ∀ C t fr, o ≠ .cells C t fr) (o' : Obj) : Rel P (B.with l o') m h (w.putObj l o') := by
  have hlt : l < w.heap.size := (Array.getElem?_eq_some_iff.1 (hr.prot l o (with_prot B l o))).1
  refine hr.own l rfl rfl rfl rfl rfl rfl (hr.ne_kept (with_prot B l o) hc) (fun k hk x hx => (World.putObj_heap_other hk).trans hx) (fun k hk => by simp [Base.with, hk]) (fun x hx => ?_)
  rw [with_prot] at hx
  cases hx
  exact World.putObj_heap_same hlt
/-- It is kept no longer. -/
theorem Rel.loose {B : Base} {m : Mu} {h : AHeap} {w : World} {l : Nat} {o : Obj} (hr : Rel P (B.with l o) m h w) (hc : ∀ C t fr, o ≠ .cells C t fr) (hB : B.prot l = none) : Rel P B m h w :=
  hr.own l rfl rfl rfl rfl rfl rfl (hr.ne_kept (with_prot B l o) hc) (fun _ _ _ hx => hx) (fun k hk => by simp [Base.with, hk]) (fun x hx => by rw [hB] at hx; cases hx)

/-! ## A round -/
noncomputable def roundF (P : Program) (enters : FuncId → FKind) (CB : CallB) (K : Nat) (T1 : Tree Value) (p : Tmp) (asg bd : Code) : YF := fun args h => match args with
  | [v] => match (codeY P enters CB (fun _ _ => none) K [] asg).un ((putB (some p)).un T1 v) h with
    | .normal T2 h2 => match (codeY P enters CB (fun _ _ => none) K [] bd).un T2 h2 with
      | .normal _ h3 => some h3
      | _ => none
    | _ => none
  | _ => none
theorem noTok {a : Act} {l : Nat} : ∀ k, hasT [] k = true → a.tmps[k]? = some (yv l) := fun k h => by cases h
/-- No memory is of this base. -/
def Base.bad : Base := ⟨fun _ => some (.deferred none), default, fun _ _ => 0, #[]⟩
theorem not_bad {m : Mu} {h : AHeap} {w : World} (hr : Rel P Base.bad m h w) : False := by
  have := hr.prot w.heap.size _ rfl
  simp at this
theorem roundF_nx {G : Nat} {enters : FuncId → FKind} {CB : CallB} (hE : Enters P enters) (hz : ZF P) (hC : CallSound P G (callOf CB)) {K : Nat} {T1 : Tree Value} {p : Tmp} {asg bd : Code} : YGood P Fence.wide G (fun _ => none) Base.bad 0 (roundF P enters CB K T1 p asg bd) := by
  intro args h h' e
  refine ⟨?_, fun _ _ _ _ _ _ hr _ => (not_bad hr).elim⟩
  unfold roundF at e
  split at e <;> try (cases e; done)
  split at e <;> try (cases e; done)
  rename_i T2 h2 q1
  split at e <;> try (cases e; done)
  rename_i T3 h3 q2
  obtain rfl := Option.some.inj e
  exact (codeY_sound (n := 0) (wideWide (P := P)) (nn := 0) hE hz hC (m1 := fun _ => none) (B := Base.bad) (l := 0) noY K asg _ _ .normal _ _ q1).1.trans (codeY_sound (n := 0) (wideWide (P := P)) (nn := 0) hE hz hC (m1 := fun _ => none) (B := Base.bad) (l := 0) noY K bd _ _ .normal _ _ q2).1
theorem roundF_good {G n : Nat} {enters : FuncId → FKind} {CB : CallB} (hE : Enters P enters) (hz : ZF P) (hC : CallSound P G (callOf CB)) {K : Nat} {T1 : Tree Value} {p : Tmp} {asg bd : Code} {m1 : Mu} {B : Base} {l D : Nat} {fn : FuncId} {tmps : Array Value}
    (hT : TRel m1 n T1 tmps) (hp : p < n) (oka : codeOk G n asg = true) (okb : codeOk G n bd = true) :
    YGood P Fence.wide G m1 (B.with l (.loop { state := .ready, pending := none, fn, tmps, params := #[p], assign := asg, body := bd, defers := D })) l (roundF P enters CB K T1 p asg bd) := by
  intro args h h' e
  unfold roundF at e
  split at e <;> try (cases e; done)
  rename_i v
  split at e <;> try (cases e; done)
  rename_i T2 h2 q1
  split at e <;> try (cases e; done)
  rename_i T3 h3 q2
  obtain rfl := Option.some.inj e
  have c1 := fun (l : Nat) (B : Base) => codeY_sound (n := n) (wideRound (P := P) l) (nn := 0) hE hz hC (Y := fun _ _ => none) (m1 := m1) (B := B) (l := l) noY K asg _ _ .normal _ _ q1
  refine ⟨(c1 l B).1.trans (codeY_sound (n := n) (wideRound (P := P) l) (nn := 0) hE hz hC (Y := fun _ _ => none) (m1 := m1) (B := B) (l := l) noY K bd _ _ .normal _ _ q2).1, fun nn m args' w hle ha hr hG => ?_⟩
  obtain ⟨v', rfl, hv⟩ : ∃ v', args' = #[v'] ∧ VRel m v v' := by
    obtain ⟨h1, h2⟩ := ha
    match args', h1, h2 with
    | ⟨[v']⟩, _, h2 => exact ⟨v', rfl, h2 0 (by simp) (by simp)⟩
  have hw := hr.prot l _ (with_prot B l _)
  have hy : (Instr.yield l #[v']).run P w = .ok (.round l fn (tmps.setIfInBounds p v') asg bd) w := by simpa using run_yield (P := P) (args := #[v']) hw rfl
  refine ⟨_, _, _, _, hy, ?_⟩
  refine roundIn_of_wpIn trivial ?_
  have hput : TRel m n ((putB (some p)).un T1 v) (tmps.setIfInBounds p v') := by
    rw [putB_eq]
    exact (hT.mono hle).put (a := { tmps := tmps, defers := [] }) (dst := some p) (fun d hd => by cases hd; exact hp) hv
  obtain ⟨n1, k1⟩ := codeY_sound (n := n) (wideRound (P := P) l) (nn := nn) hE hz hC (Y := fun _ _ => none) (m1 := m1) (B := B.with l (.loop { state := .ready, pending := none, fn, tmps, params := #[p], assign := asg, body := bd, defers := D })) (l := l) noY K asg _ _ .normal _ _ q1
  refine k1 m { tmps := tmps.setIfInBounds p v', defers := [] } w _ oka hle hput hr hG noTok ?_
  intro m2 a2 w2 x2 t2 d2 r2 _
  refine ⟨_, run_beginRound (r2.prot l _ (with_prot B l _)) rfl, ?_⟩
  have r3 := r2.turn (fun C t fr q => by cases q) (.loop { state := .busy, pending := none, fn, tmps, params := #[p], assign := asg, body := bd, defers := D })
  obtain ⟨n3, k3⟩ := codeY_sound (n := n) (wideRound (P := P) l) (nn := nn) hE hz hC (Y := fun _ _ => none) (m1 := m1) (B := B.with l (.loop { state := .busy, pending := none, fn, tmps, params := #[p], assign := asg, body := bd, defers := D })) (l := l) noY K bd _ _ .normal _ _ q2
  refine k3 m2 a2 _ _ okb (Mu.le_trans hle x2.1) t2 r3 (hG.mono x2.1) noTok ?_
  intro m4 a4 w4 x4 t4 d4 r4 _
  have r5 := r4.turn (fun C t fr q => by cases q) (.loop { state := .ready, pending := none, fn, tmps, params := #[p], assign := asg, body := bd, defers := D })
  exact ⟨_, _, run_endRound none (r4.prot l _ (with_prot B l _)), m4, rfl, x2.trans x4 n1.1 n1.2.1, r5⟩

/-! ## A function that ranges over one -/
structure RangeText where
  fn : Func
  c0 : Code
  c1 : Code
  id : Nat
  g : Operand
  p : Tmp
  asg : Code
  bd : Code
  rest : Code
structure RangeOk (P : Program) (G : Nat) (f : FuncId) (x : RangeText) : Prop where
  hf : P.funcs[f]? = some x.fn
  hb : x.fn.body = some (.seq x.c0 (.seq (.seq x.c1 (.block x.id (.rangeFunc x.g #[x.p] x.asg x.bd))) x.rest))
  hp : x.p < x.fn.ntmps
  hg : opndOk G x.g = true
  ok0 : codeOk G x.fn.ntmps x.c0 = true
  ok1 : codeOk G x.fn.ntmps x.c1 = true
  oka : codeOk G x.fn.ntmps x.asg = true
  okb : codeOk G x.fn.ntmps x.bd = true
  okr : codeOk G x.fn.ntmps x.rest = true
  pl0 : plansOk P x.c0 = true
  pl1 : plansOk P x.c1 = true
  plr : plansOk P x.rest = true
/-- What the iterator leaves. -/
noncomputable def iterF (P : Program) (FT : FuncId → Option Func) (enters : FuncId → FKind) (CB : CallB) (Y : YF) (K : Nat) (v : Value) (h : AHeap) : Option AHeap := match v with
  | .func (.func gi) ⟨[]⟩ lb => match enters gi with
    | .enter => match FT gi with
      | some gn => match gn.body with
        | some gc => match Nat.ble (lenV (tokA :: listOf lb)) gn.ntmps with
          | true => match (codeY P enters CB Y K [0] gc).un (treeOfB (tokA :: listOf lb) 0 .leaf) h with
            | .normal T2 h2 => (match (resB P gn.results.toList).un h2 T2 with | some _ => some h2 | none => none)
            | .ret T2 h2 => (match (resB P gn.results.toList).un h2 T2 with | some _ => some h2 | none => none)
            | _ => none
          | false => none
        | none => none
      | none => none
    | _ => none
  | _ => none
noncomputable def rangeF (P : Program) (FT : FuncId → Option Func) (enters : FuncId → FKind) (CB : CallB) (DB : DrawB) (K : Nat) (x : RangeText) : Array Value → AHeap → Option (Value × AHeap) := fun args h =>
  match Nat.ble (lenV (listOf args)) x.fn.ntmps with
  | true => match (codeB P enters CB DB K x.c0).un (treeOfB (listOf args) 0 .leaf) h with
    | .normal T0 h0 => match (codeB P enters CB DB K x.c1).un T0 h0 with
      | .normal T1 h1 => match iterF P FT enters CB (roundF P enters CB K T1 x.p x.asg x.bd) K ((rdB x.g).un T1) h1 with
        | some h2 => match (codeB P enters CB DB K x.rest).un T1 h2 with
          | .ret T3 h3 => match (resB P x.fn.results.toList).un h3 T3 with
            | some vs => some (oneA vs, h3)
            | none => none
          | _ => none
        | none => none
      | _ => none
    | _ => none
  | false => none
theorem iterF_sound {G : Nat} {enters : FuncId → FKind} {FT : FuncId → Option Func} {CB : CallB} (hE : Enters P enters) (hz : ZF P) (hC : CallSound P G (callOf CB)) (hT : Table P G enters FT) {K : Nat} {Y : YF} {v : Value} {h h' : AHeap} (e : iterF P FT enters CB Y K v h = some h') :
    (∀ {m1 : Mu} {B : Base} {l : Nat}, YGood P Fence.wide G m1 B l Y → Nx h h' ∧ ∀ (nn : Nat) (m : Mu) (v' : Value) (w : World), Mu.le m1 m → VRel m v v' → Rel P B m h w → GRel G m →
      ∃ gi lb', v' = .func (.func gi) #[] lb' ∧ (∀ args w, (callFunc gi args).run P w = .ok (.enter gi args) w) ∧
        CallsIn Fence.wide nn P gi (#[yv l] ++ lb') w (fun e w' => ∃ u m', e = .returned u ∧ Ext h m m' ∧ Rel P B m' h' w')) := by
  intro m1 B l hY
  unfold iterF at e
  split at e <;> try (cases e; done)
  rename_i gi lb
  split at e <;> try (cases e; done)
  rename_i hen
  split at e <;> try (cases e; done)
  rename_i gn hgn
  split at e <;> try (cases e; done)
  rename_i gc hgc
  split at e <;> try (cases e; done)
  rename_i hsz
  rw [Nat.ble_eq, lenV_eq, listOf_eq] at hsz
  rw [listOf_eq] at e
  have hf := hT.has gi gn hgn
  have hok := hT.code gi gn gc hgn hgc
  have hent := (hE gi).1 hen
  have main : ∀ (x : AExit) (T2 : Tree Value), (x = .normal ∨ x = .ret) → (codeY P enters CB Y K [0] gc).un (treeOfB (tokA :: lb.toList) 0 .leaf) h = RC.of x T2 h' → (∃ us, (resB P gn.results.toList).un h' T2 = some us) → Nx h h' ∧ ∀ (nn : Nat) (m : Mu) (v' : Value) (w : World), Mu.le m1 m → VRel m (.func (.func gi) #[] lb) v' → Rel P B m h w → GRel G m →
      ∃ gi lb', v' = .func (.func gi) #[] lb' ∧ (∀ args w, (callFunc gi args).run P w = .ok (.enter gi args) w) ∧
        CallsIn Fence.wide nn P gi (#[yv l] ++ lb') w (fun e w' => ∃ u m', e = .returned u ∧ Ext h m m' ∧ Rel P B m' h' w') := by
    intro x T2 hx q ⟨us, hus⟩
    refine ⟨(codeY_sound (n := gn.ntmps) (wideWide (P := P)) (nn := 0) hE hz hC hY K gc _ _ _ _ _ q).1, fun nn m v' w hle hv hr hG => ?_⟩
    obtain ⟨lb', rfl, hlb⟩ : ∃ lb', v' = .func (.func gi) #[] lb' ∧ ARel m lb lb' := by
      cases hv with
      | func f a a' c c' h1 _ h3 h4 =>
        obtain rfl : a' = #[] := by
          cases a' with | mk l => cases l with | nil => rfl | cons => cases h1
        exact ⟨_, rfl, h3, h4⟩
    refine ⟨gi, lb', rfl, hent, ?_⟩
    have hargs : ARel m ⟨tokA :: lb.toList⟩ (#[yv l] ++ lb') := by
      refine ⟨by simp [hlb.1]; omega, fun i hi hi' => ?_⟩
      cases i with
      | zero => simpa using tok_rel m l
      | succ i =>
        have h1 : i < lb.size := by simpa using hi
        have h2 : i < lb'.size := by rw [← hlb.1]; exact h1
        have := hlb.2 i h1 h2
        simpa [Array.getElem_append] using this
    have hin := initT_rel (n := gn.ntmps) hargs (by simpa using hsz)
    refine callsIn_of_wp hf hgc trivial ?_
    obtain ⟨n1, k1⟩ := codeY_sound (n := gn.ntmps) (wideWide (P := P)) (nn := nn) hE hz hC hY K gc _ _ _ _ _ q
    refine k1 m _ w _ hok hle (by rw [initT_self]; exact hin) hr hG (fun k hk => ?_) ?_
    · rcases hasT_cons hk with rfl | hk
      · simp [Array.getElem?_append]
      · cases hk
    · intro m' a' w' c1 c2 c3 c4 _
      obtain ⟨u, hu1, _⟩ := results_sound c4 c2 (resB_some hus)
      rcases hx with rfl | rfl
      · exact ⟨c3, u, hu1, _, m', rfl, c1, c4⟩
      · exact ⟨c3, u, hu1, _, m', rfl, c1, c4⟩
  split at e
  · rename_i T2 h2 q
    split at e
    · rename_i us hus
      obtain rfl := Option.some.inj e
      exact main .normal T2 (.inl rfl) q ⟨us, hus⟩
    · cases e
  · rename_i T2 h2 q
    split at e
    · rename_i us hus
      obtain rfl := Option.some.inj e
      exact main .ret T2 (.inr rfl) q ⟨us, hus⟩
    · cases e
  · cases e
theorem rangeF_sound {G : Nat} {enters : FuncId → FKind} {FT : FuncId → Option Func} {CB : CallB} {DB : DrawB} (hE : Enters P enters) (hz : ZF P) (hC : CallSound P G (callOf CB)) (hD : DrawGood P G (fun ops T h => (DB ops).un T h)) (hTb : Table P G enters FT) {K : Nat} {f : FuncId} {x : RangeText} (hx : RangeOk P G f x)
    {args : Array Value} {h : AHeap} {v : Value} {h' : AHeap} (e : rangeF P FT enters CB DB K x args h = some (v, h')) : Nx h h' ∧
    ∀ (B : Base) m args' w, ARel m args args' → Rel P B m h w → GRel G m →
      Calls P f args' w (fun e w' => ∃ v' m', e = .returned v' ∧ Ext h m m' ∧ Rel P B m' h' w' ∧ VRel m' v v') := by
  unfold rangeF at e
  split at e <;> try (cases e; done)
  rename_i hsz
  split at e <;> try (cases e; done)
  rename_i T0 h0 q0
  split at e <;> try (cases e; done)
  rename_i T1 h1 q1
  split at e <;> try (cases e; done)
  rename_i h2 q2
  split at e <;> try (cases e; done)
  rename_i T3 h3 q3
  split at e <;> try (cases e; done)
  rename_i vs hvs
  cases e
  rw [Nat.ble_eq, lenV_eq] at hsz
  rw [listOf_eq] at hsz
  rw [listOf_eq, initT_self] at q0
  rw [rdB_eq] at q2
  obtain ⟨n0, c0⟩ := codeB_sound (n := x.fn.ntmps) hE hz hC hD K x.c0 hx.pl0 _ _ .normal _ _ q0
  obtain ⟨n1, c1⟩ := codeB_sound (n := x.fn.ntmps) hE hz hC hD K x.c1 hx.pl1 _ _ .normal _ _ q1
  obtain ⟨n3, c3⟩ := codeB_sound (n := x.fn.ntmps) hE hz hC hD K x.rest hx.plr _ _ .ret _ _ q3
  have n2 : Nx h1 h2 := (iterF_sound hE hz hC hTb q2 (roundF_nx hE hz hC)).1
  refine ⟨((n0.trans n1).trans n2).trans n3, fun B m args' w ha hr hG => ?_⟩
  refine callsIn_wide (n := 0).1 (callsIn_of_wp_marks hx.hf hx.hb trivial ?_)
  refine wpIn_seq (wpIn_wide.2 (c0 B m _ w _ hx.ok0 (initT_rel ha hsz) hr hG ?_))
  intro m0 a0 w0 x0 t0 d0 r0
  show (Code.seq (Code.seq x.c1 _) x.rest).wpIn Fence.wide 0 P _ a0 w0
  refine wpIn_seq (wpIn_seq (wpIn_wide.2 (c1 B m0 _ w0 _ hx.ok1 t0 r0 (hG.mono x0.1) ?_)))
  intro m1 a1 w1 x1 t1 d1 r1
  show (Code.block x.id _).wpIn Fence.wide 0 P _ a1 w1
  have hG1 : GRel G m1 := (hG.mono x0.1).mono x1.1
  refine wpIn_block (wpIn_rangeFunc fun fn _ => ?_)
  have rD := r1.keep (.deferred (some []))
  have rL := rD.keep (.loop { state := .ready, pending := none, fn, tmps := a1.tmps, params := #[x.p], assign := x.asg, body := x.bd, defers := w1.heap.size })
  have hY := roundF_good (P := P) (enters := enters) (CB := CB) hE hz hC (K := K) (B := B.with w1.heap.size (.deferred (some []))) (l := (w1.alloc (.deferred (some []))).heap.size) (D := w1.heap.size) (fn := fn) t1 hx.hp hx.oka hx.okb
  obtain ⟨gi, lb', hv', hent, hcall⟩ := (iterF_sound hE hz hC hTb q2 hY).2 0 m1 _ _ (Mu.le_refl _) (rho_rel t1 hG1 hx.hg) rL hG1
  have hl : (w1.alloc (.deferred (some []))).heap.size = w1.heap.size + 1 := by simp
  rw [hl] at hcall rL hY
  have hres : (resolve a1.eval (rangeCall x.g (w1.heap.size + 1)) 0).run P ((w1.alloc (.deferred (some []))).alloc (.loop { state := .ready, pending := none, fn, tmps := a1.tmps, params := #[x.p], assign := x.asg, body := x.bd, defers := w1.heap.size })) =
      .ok { target := .fn (.func gi) lb', args := #[yv (w1.heap.size + 1)] } ((w1.alloc (.deferred (some []))).alloc (.loop { state := .ready, pending := none, fn, tmps := a1.tmps, params := #[x.p], assign := x.asg, body := x.bd, defers := w1.heap.size })) := by
    simp only [resolve, hv', Deferred.ofValue, Sem.run_pure]
    simp [yv, Act.eval]
  refine ⟨w1.heap.size + 1, [{ target := .collected w1.heap.size, args := #[] }], _, { target := .fn (.func gi) lb', args := #[yv (w1.heap.size + 1)] }, _, gi, #[yv (w1.heap.size + 1)] ++ lb', ((w1.alloc (.deferred (some []))).alloc (.loop { state := .ready, pending := none, fn, tmps := a1.tmps, params := #[x.p], assign := x.asg, body := x.bd, defers := w1.heap.size })), run_enterLoop_outer _ _ _ _ _, hres, fun _ _ => trivial, hent _ _, (fun h => by cases h), ?_⟩
  · refine hcall.mono ?_
    rintro e w2 ⟨u, m2, rfl, x2, r2⟩
    refine ⟨none, _, run_endLoop (r2.prot (w1.heap.size + 1) _ (with_prot _ _ _)) (by simp), ?_⟩
    have r3 := (r2.turn (fun C t fr q => by cases q) (.loop { state := .exhausted, pending := none, fn, tmps := a1.tmps, params := #[x.p], assign := x.asg, body := x.bd, defers := w1.heap.size })).loose (fun C t fr q => by cases q) (by
      show (if w1.heap.size + 1 = w1.heap.size then _ else B.prot (w1.heap.size + 1)) = none
      rw [if_neg (by omega)]
      cases hb : B.prot (w1.heap.size + 1) with
      | none => rfl
      | some o => have := (Array.getElem?_eq_some_iff.1 (r1.prot _ _ hb)).1; omega)
    have hG2 : GRel G m2 := hG1.mono x2.1
    show x.rest.wpIn Fence.wide 0 P _ _ _
    refine wpIn_wide.2 (c3 (B.with w1.heap.size (.deferred (some []))) m2 _ _ _ hx.okr (t1.mono x2.1) r3 hG2 ?_)
    intro m4 a4 w4 x4 t4 d4 r4
    obtain ⟨v', hv1, hv2⟩ := results_sound ((r4.turn (fun C t fr q => by cases q) (.deferred none)).loose (fun C t fr q => by cases q) (by
      cases hb : B.prot w1.heap.size with
      | none => rfl
      | some o => have := (Array.getElem?_eq_some_iff.1 (r1.prot _ _ hb)).1; omega)) t4 (resB_some hvs)
    have hdef : a4.defers = [{ target := .collected w1.heap.size, args := #[] }] := by
      rw [d4]
      show [_] ++ a1.defers = _
      rw [d1, d0]; rfl
    show LeavesInM Fence.wide 0 P x.fn a4.tmps _ a4.defers .returning w4
    rw [hdef]
    refine ⟨(by intro q; cases q), .inl ⟨w1.heap.size, _, rfl, run_takeDeferred (r4.prot _ _ (with_prot _ _ _)), ?_⟩⟩
    refine ⟨v', hv1, v', m4, rfl, ?_, ?_, hv2⟩
    · exact ((x0.trans x1 n0.1 n0.2.1).trans x2 (n0.trans n1).1 (n0.trans n1).2.1).trans x4 ((n0.trans n1).trans n2).1 ((n0.trans n1).trans n2).2.1
    · exact (r4.turn (fun C t fr q => by cases q) (.deferred none)).loose (fun C t fr q => by cases q) (by
        cases hb : B.prot w1.heap.size with
        | none => rfl
        | some o => have := (Array.getElem?_eq_some_iff.1 (r1.prot _ _ hb)).1; omega)
end
end Go.Ab
