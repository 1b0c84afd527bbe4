/- The evaluator over an abstract memory, proved sound: part 8. -/
import Derived.Test.YtgokkngepgnedaaGreatDoorEvG
namespace Go.Ab
open Go Go.RowKit
section
variable {P : Program}

/-! ## Blocks of the machine's own among those that are kept -/
def Base.with (B : Base) (l : Nat) (o : Obj) : Base := { B with prot := fun k => if k = l then some o else B.prot k }
theorem Rel.own {B B' : Base} {m : Mu} {h : AHeap} {w w' : World} (hr : Rel P B m h w) (l : Nat) (hos : B'.os = B.os) (htape : B'.tape = B.tape) (hout : B'.output = B.output) (wos : w'.os = w.os) (wtape : w'.tape = w.tape) (wout : w'.output = w.output)
    (hl : ∀ b, h.get b ≠ .dead → ∀ l', m b = some l' → l'.blk ≠ l) (hw : ∀ k, k ≠ l → ∀ o, w.heap[k]? = some o → w'.heap[k]? = some o) (hB : ∀ k, k ≠ l → B'.prot k = B.prot k) (hB2 : ∀ o, B'.prot l = some o → w'.heap[l]? = some o) : Rel P B' m h w' := by
  refine ⟨by rw [wos, hos, hr.os], by rw [wtape, htape, hr.tape], by rw [wout, hout, hr.output], fun k o hk => ?_, fun b hb => ?_, hr.sep, hr.fresh⟩
  · by_cases e : k = l
    · subst e; exact hB2 o hk
    · rw [hB k e] at hk; exact hw k e o (hr.prot k o hk)
  · obtain ⟨l', h1, h2, h3⟩ := hr.obj b hb
    have hne := hl b hb l' h1
    exact ⟨l', h1, by rw [hB _ hne]; exact h2, h3.of_block (fun x hx => hw _ hne x hx)⟩
/-- No block that is named is one that holds no cells and is kept. -/
theorem Rel.ne_kept {B : Base} {m : Mu} {h : AHeap} {w : World} (hr : Rel P B m h w) {l : Nat} {o : Obj} (ho : B.prot l = some o) (hc : ∀ C t fr, o ≠ .cells C t fr) : ∀ b, h.get b ≠ .dead → ∀ l', m b = some l' → l'.blk ≠ l := by
  intro b hb l' hl' e
  obtain ⟨l2, h1, h2, h3⟩ := hr.obj b hb
  rw [hl'] at h1
  cases h1
  rw [e, ho] at h2
  have hw := hr.prot l o ho
  have no : isRo (h.get b) = true := by
    cases hx : isRo (h.get b) with
    | true => rfl
    | false => have := protOf_none h2 hx; cases this
  cases hg : h.get b with
  | ro c t =>
    rw [hg] at h3
    obtain ⟨C, te, fr, q, _⟩ := h3
    rw [e, hw] at q
    cases q
    exact hc _ _ _ rfl
  | _ => rw [hg] at no; cases no
theorem with_prot (B : Base) (l : Nat) (o : Obj) : (B.with l o).prot l = some o := by simp [Base.with]
/-- A new block that is kept. -/
theorem Rel.keep {B : Base} {m : Mu} {h : AHeap} {w : World} (hr : Rel P B m h w) (o : Obj) : Rel P (B.with w.heap.size o) m h (w.alloc o) :=
  hr.own w.heap.size rfl rfl rfl rfl rfl rfl (fun b hb l' hl' e => by have := hr.lt_size hb hl'; omega)
    (fun k _ x hx => (Below.heap_alloc w o k (Array.getElem?_eq_some_iff.1 hx).1).trans hx) (fun k hk => by simp [Base.with, hk]) (fun x hx => by rw [with_prot] at hx; cases hx; exact World.alloc_heap_new w o)
/-- It turns. -/
theorem Rel.turn {B : Base} {m : Mu} {h : AHeap} {w : World} {l : Nat} {o : Obj} (hr : Rel P (B.with l o) m h w) (hc : ∀ C t fr, o ≠ .cells C t fr) (o' : Obj) : Rel P (B.with l o') m h (w.putObj l o') := by
  have hlt : l < w.heap.size := (Array.getElem?_eq_some_iff.1 (hr.prot l o (with_prot B l o))).1
  refine hr.own l rfl rfl rfl rfl rfl rfl (hr.ne_kept (with_prot B l o) hc) (fun k hk x hx => (World.putObj_heap_other hk).trans hx) (fun k hk => by simp [Base.with, hk]) (fun x hx => ?_)
  rw [with_prot] at hx
  cases hx
  exact World.putObj_heap_same hlt
/-- It is kept no longer. -/
theorem Rel.loose {B : Base} {m : Mu} {h : AHeap} {w : World} {l : Nat} {o : Obj} (hr : Rel P (B.with l o) m h w) (hc : ∀ C t fr, o ≠ .cells C t fr) (hB : B.prot l = none) : Rel P B m h w :=
  hr.own l rfl rfl rfl rfl rfl rfl (hr.ne_kept (with_prot B l o) hc) (fun _ _ _ hx => hx) (fun k hk => by simp [Base.with, hk]) (fun x hx => by rw [hB] at hx; cases hx)

/-! ## A round -/
noncomputable def roundF (P : Program) (enters : FuncId → FKind) (CB : CallB) (K : Nat) (T1 : Tree Value) (p : Tmp) (asg bd : Code) : YF := fun args h => match args with
  | [v] => match (codeY P enters CB (fun _ _ => none) K [] asg).un ((putB (some p)).un T1 v) h with
    | .normal T2 h2 => match (codeY P enters CB (fun _ _ => none) K [] bd).un T2 h2 with
      | .normal _ h3 => some h3
      | _ => none
    | _ => none
  | _ => none
theorem noTok {a : Act} {l : Nat} : ∀ k, hasT [] k = true → a.tmps[k]? = some (yv l) := fun k h => by cases h
/-- No memory is of this base. -/
def Base.bad : Base := ⟨fun _ => some (.deferred none), default, fun _ _ => 0, #[]⟩
theorem not_bad {m : Mu} {h : AHeap} {w : World} (hr : Rel P Base.bad m h w) : False := by
  have := hr.prot w.heap.size _ rfl
  simp at this
theorem roundF_nx {G : Nat} {enters : FuncId → FKind} {CB : CallB} (hE : Enters P enters) (hz : ZF P) (hC : CallSound P G (callOf CB)) {K : Nat} {T1 : Tree Value} {p : Tmp} {asg bd : Code} : YGood P Fence.wide G (fun _ => none) Base.bad 0 (roundF P enters CB K T1 p asg bd) := by
  intro args h h' e
  refine ⟨?_, fun _ _ _ _ _ _ hr _ => (not_bad hr).elim⟩
  unfold roundF at e
  split at e <;> try (cases e; done)
  split at e <;> try (cases e; done)
  rename_i T2 h2 q1
  split at e <;> try (cases e; done)
  rename_i T3 h3 q2
  obtain rfl := Option.some.inj e
  exact (codeY_sound (n := 0) (wideWide (P := P)) (nn := 0) hE hz hC (m1 := fun _ => none) (B := Base.bad) (l := 0) noY K asg _ _ .normal _ _ q1).1.trans (codeY_sound (n := 0) (wideWide (P := P)) (nn := 0) hE hz hC (m1 := fun _ => none) (B := Base.bad) (l := 0) noY K bd _ _ .normal _ _ q2).1
theorem roundF_good {G n : Nat} {enters : FuncId → FKind} {CB : CallB} (hE : Enters P enters) (hz : ZF P) (hC : CallSound P G (callOf CB)) {K : Nat} {T1 : Tree Value} {p : Tmp} {asg bd : Code} {m1 : Mu} {B : Base} {l D : Nat} {fn : FuncId} {tmps : Array Value}
    (hT : TRel m1 n T1 tmps) (hp : p < n) (oka : codeOk G n asg = true) (okb : codeOk G n bd = true) :
    YGood P Fence.wide G m1 (B.with l (.loop { state := .ready, pending := none, fn, tmps, params := #[p], assign := asg, body := bd, defers := D })) l (roundF P enters CB K T1 p asg bd) := by
  intro args h h' e
  unfold roundF at e
  split at e <;> try (cases e; done)
  rename_i v
  split at e <;> try (cases e; done)
  rename_i T2 h2 q1
  split at e <;> try (cases e; done)
  rename_i T3 h3 q2
  obtain rfl := Option.some.inj e
  have c1 := fun (l : Nat) (B : Base) => codeY_sound (n := n) (wideRound (P := P) l) (nn := 0) hE hz hC (Y := fun _ _ => none) (m1 := m1) (B := B) (l := l) noY K asg _ _ .normal _ _ q1
  refine ⟨(c1 l B).1.trans (codeY_sound (n := n) (wideRound (P := P) l) (nn := 0) hE hz hC (Y := fun _ _ => none) (m1 := m1) (B := B) (l := l) noY K bd _ _ .normal _ _ q2).1, fun nn m args' w hle ha hr hG => ?_⟩
  obtain ⟨v', rfl, hv⟩ : ∃ v', args' = #[v'] ∧ VRel m v v' := by
    obtain ⟨h1, h2⟩ := ha
    match args', h1, h2 with
    | ⟨[v']⟩, _, h2 => exact ⟨v', rfl, h2 0 (by simp) (by simp)⟩
  have hw := hr.prot l _ (with_prot B l _)
  have hy : (Instr.yield l #[v']).run P w = .ok (.round l fn (tmps.setIfInBounds p v') asg bd) w := by simpa using run_yield (P := P) (args := #[v']) hw rfl
  refine ⟨_, _, _, _, hy, ?_⟩
  refine roundIn_of_wpIn trivial ?_
  have hput : TRel m n ((putB (some p)).un T1 v) (tmps.setIfInBounds p v') := by
    rw [putB_eq]
    exact (hT.mono hle).put (a := { tmps := tmps, defers := [] }) (dst := some p) (fun d hd => by cases hd; exact hp) hv
  obtain ⟨n1, k1⟩ := codeY_sound (n := n) (wideRound (P := P) l) (nn := nn) hE hz hC (Y := fun _ _ => none) (m1 := m1) (B := B.with l (.loop { state := .ready, pending := none, fn, tmps, params := #[p], assign := asg, body := bd, defers := D })) (l := l) noY K asg _ _ .normal _ _ q1
  refine k1 m { tmps := tmps.setIfInBounds p v', defers := [] } w _ oka hle hput hr hG noTok ?_
  intro m2 a2 w2 x2 t2 d2 r2 _
  refine ⟨_, run_beginRound (r2.prot l _ (with_prot B l _)) rfl, ?_⟩
  have r3 := r2.turn (fun C t fr q => by cases q) (.loop { state := .busy, pending := none, fn, tmps, params := #[p], assign := asg, body := bd, defers := D })
  obtain ⟨n3, k3⟩ := codeY_sound (n := n) (wideRound (P := P) l) (nn := nn) hE hz hC (Y := fun _ _ => none) (m1 := m1) (B := B.with l (.loop { state := .busy, pending := none, fn, tmps, params := #[p], assign := asg, body := bd, defers := D })) (l := l) noY K bd _ _ .normal _ _ q2
  refine k3 m2 a2 _ _ okb (Mu.le_trans hle x2.1) t2 r3 (hG.mono x2.1) noTok ?_
  intro m4 a4 w4 x4 t4 d4 r4 _
  have r5 := r4.turn (fun C t fr q => by cases q) (.loop { state := .ready, pending := none, fn, tmps, params := #[p], assign := asg, body := bd, defers := D })
  exact ⟨_, _, run_endRound none (r4.prot l _ (with_prot B l _)), m4, rfl, x2.trans x4 n1.1 n1.2.1, r5⟩

/-! ## A function that ranges over one -/
structure RangeText where
  fn : Func
  c0 : Code
  c1 : Code
  id : Nat
  g : Operand
  p : Tmp
  asg : Code
  bd : Code
  rest : Code
structure RangeOk (P : Program) (G : Nat) (f : FuncId) (x : RangeText) : Prop where
  hf : P.funcs[f]? = some x.fn
  hb : x.fn.body = some (.seq x.c0 (.seq (.seq x.c1 (.block x.id (.rangeFunc x.g #[x.p] x.asg x.bd))) x.rest))
  hp : x.p < x.fn.ntmps
  hg : opndOk G x.g = true
  ok0 : codeOk G x.fn.ntmps x.c0 = true
  ok1 : codeOk G x.fn.ntmps x.c1 = true
  oka : codeOk G x.fn.ntmps x.asg = true
  okb : codeOk G x.fn.ntmps x.bd = true
  okr : codeOk G x.fn.ntmps x.rest = true
  pl0 : plansOk P x.c0 = true
  pl1 : plansOk P x.c1 = true
  plr : plansOk P x.rest = true
/-- What the iterator leaves. -/
noncomputable def iterF (P : Program) (FT : FuncId → Option Func) (enters : FuncId → FKind) (CB : CallB) (Y : YF) (K : Nat) (v : Value) (h : AHeap) : Option AHeap := match v with
  | .func (.func gi) ⟨[]⟩ lb => match enters gi with
    | .enter => match FT gi with
      | some gn => match gn.body with
        | some gc => match Nat.ble (lenV (tokA :: listOf lb)) gn.ntmps with
          | true => match (codeY P enters CB Y K [0] gc).un (treeOfB (tokA :: listOf lb) 0 .leaf) h with
            | .normal T2 h2 => (match (resB P gn.results.toList).un h2 T2 with | some _ => some h2 | none => none)
            | .ret T2 h2 => (match (resB P gn.results.toList).un h2 T2 with | some _ => some h2 | none => none)
            | _ => none
          | false => none
        | none => none
      | none => none
    | _ => none
  | _ => none
noncomputable def rangeF (P : Program) (FT : FuncId → Option Func) (enters : FuncId → FKind) (CB : CallB) (DB : DrawB) (K : Nat) (x : RangeText) : Array Value → AHeap → Option (Value × AHeap) := fun args h =>
  match Nat.ble (lenV (listOf args)) x.fn.ntmps with
  | true => match (codeB P enters CB DB K x.c0).un (treeOfB (listOf args) 0 .leaf) h with
    | .normal T0 h0 => match (codeB P enters CB DB K x.c1).un T0 h0 with
      | .normal T1 h1 => match iterF P FT enters CB (roundF P enters CB K T1 x.p x.asg x.bd) K ((rdB x.g).un T1) h1 with
        | some h2 => match (codeB P enters CB DB K x.rest).un T1 h2 with
          | .ret T3 h3 => match (resB P x.fn.results.toList).un h3 T3 with
            | some vs => some (oneA vs, h3)
            | none => none
          | _ => none
        | none => none
      | _ => none
    | _ => none
  | false => none
theorem iterF_sound {G : Nat} {enters : FuncId → FKind} {FT : FuncId → Option Func} {CB : CallB} (hE : Enters P enters) (hz : ZF P) (hC : CallSound P G (callOf CB)) (hT : Table P G enters FT) {K : Nat} {Y : YF} {v : Value} {h h' : AHeap} (e : iterF P FT enters CB Y K v h = some h') :
    (∀ {m1 : Mu} {B : Base} {l : Nat}, YGood P Fence.wide G m1 B l Y → Nx h h' ∧ ∀ (nn : Nat) (m : Mu) (v' : Value) (w : World), Mu.le m1 m → VRel m v v' → Rel P B m h w → GRel G m →
      ∃ gi lb', v' = .func (.func gi) #[] lb' ∧ (∀ args w, (callFunc gi args).run P w = .ok (.enter gi args) w) ∧
        CallsIn Fence.wide nn P gi (#[yv l] ++ lb') w (fun e w' => ∃ u m', e = .returned u ∧ Ext h m m' ∧ Rel P B m' h' w')) := by
  intro m1 B l hY
  unfold iterF at e
  split at e <;> try (cases e; done)
  rename_i gi lb
  split at e <;> try (cases e; done)
  rename_i hen
  split at e <;> try (cases e; done)
  rename_i gn hgn
  split at e <;> try (cases e; done)
  rename_i gc hgc
  split at e <;> try (cases e; done)
  rename_i hsz
  rw [Nat.ble_eq, lenV_eq, listOf_eq] at hsz
  rw [listOf_eq] at e
  have hf := hT.has gi gn hgn
  have hok := hT.code gi gn gc hgn hgc
  have hent := (hE gi).1 hen
  have main : ∀ (x : AExit) (T2 : Tree Value), (x = .normal ∨ x = .ret) → (codeY P enters CB Y K [0] gc).un (treeOfB (tokA :: lb.toList) 0 .leaf) h = RC.of x T2 h' → (∃ us, (resB P gn.results.toList).un h' T2 = some us) → Nx h h' ∧ ∀ (nn : Nat) (m : Mu) (v' : Value) (w : World), Mu.le m1 m → VRel m (.func (.func gi) #[] lb) v' → Rel P B m h w → GRel G m →
      ∃ gi lb', v' = .func (.func gi) #[] lb' ∧ (∀ args w, (callFunc gi args).run P w = .ok (.enter gi args) w) ∧
        CallsIn Fence.wide nn P gi (#[yv l] ++ lb') w (fun e w' => ∃ u m', e = .returned u ∧ Ext h m m' ∧ Rel P B m' h' w') := by
    intro x T2 hx q ⟨us, hus⟩
    refine ⟨(codeY_sound (n := gn.ntmps) (wideWide (P := P)) (nn := 0) hE hz hC hY K gc _ _ _ _ _ q).1, fun nn m v' w hle hv hr hG => ?_⟩
    obtain ⟨lb', rfl, hlb⟩ : ∃ lb', v' = .func (.func gi) #[] lb' ∧ ARel m lb lb' := by
      cases hv with
      | func f a a' c c' h1 _ h3 h4 =>
        obtain rfl : a' = #[] := by
          cases a' with | mk l => cases l with | nil => rfl | cons => cases h1
        exact ⟨_, rfl, h3, h4⟩
    refine ⟨gi, lb', rfl, hent, ?_⟩
    have hargs : ARel m ⟨tokA :: lb.toList⟩ (#[yv l] ++ lb') := by
      refine ⟨by simp [hlb.1]; omega, fun i hi hi' => ?_⟩
      cases i with
      | zero => simpa using tok_rel m l
      | succ i =>
        have h1 : i < lb.size := by simpa using hi
        have h2 : i < lb'.size := by rw [← hlb.1]; exact h1
        have := hlb.2 i h1 h2
        simpa [Array.getElem_append] using this
    have hin := initT_rel (n := gn.ntmps) hargs (by simpa using hsz)
    refine callsIn_of_wp hf hgc trivial ?_
    obtain ⟨n1, k1⟩ := codeY_sound (n := gn.ntmps) (wideWide (P := P)) (nn := nn) hE hz hC hY K gc _ _ _ _ _ q
    refine k1 m _ w _ hok hle (by rw [initT_self]; exact hin) hr hG (fun k hk => ?_) ?_
    · rcases hasT_cons hk with rfl | hk
      · simp [Array.getElem?_append]
      · cases hk
    · intro m' a' w' c1 c2 c3 c4 _
      obtain ⟨u, hu1, _⟩ := results_sound c4 c2 (resB_some hus)
      rcases hx with rfl | rfl
      · exact ⟨c3, u, hu1, _, m', rfl, c1, c4⟩
      · exact ⟨c3, u, hu1, _, m', rfl, c1, c4⟩
  split at e
  · rename_i T2 h2 q
    split at e
    · rename_i us hus
      obtain rfl := Option.some.inj e
      exact main .normal T2 (.inl rfl) q ⟨us, hus⟩
    · cases e
  · rename_i T2 h2 q
    split at e
    · rename_i us hus
      obtain rfl := Option.some.inj e
      exact main .ret T2 (.inr rfl) q ⟨us, hus⟩
    · cases e
  · cases e
theorem rangeF_sound {G : Nat} {enters : FuncId → FKind} {FT : FuncId → Option Func} {CB : CallB} {DB : DrawB} (hE : Enters P enters) (hz : ZF P) (hC : CallSound P G (callOf CB)) (hD : DrawGood P G (fun ops T h => (DB ops).un T h)) (hTb : Table P G enters FT) {K : Nat} {f : FuncId} {x : RangeText} (hx : RangeOk P G f x)
    {args : Array Value} {h : AHeap} {v : Value} {h' : AHeap} (e : rangeF P FT enters CB DB K x args h = some (v, h')) : Nx h h' ∧
    ∀ (B : Base) m args' w, ARel m args args' → Rel P B m h w → GRel G m →
      Calls P f args' w (fun e w' => ∃ v' m', e = .returned v' ∧ Ext h m m' ∧ Rel P B m' h' w' ∧ VRel m' v v') := by
  unfold rangeF at e
  split at e <;> try (cases e; done)
  rename_i hsz
  split at e <;> try (cases e; done)
  rename_i T0 h0 q0
  split at e <;> try (cases e; done)
  rename_i T1 h1 q1
  split at e <;> try (cases e; done)
  rename_i h2 q2
  split at e <;> try (cases e; done)
  rename_i T3 h3 q3
  split at e <;> try (cases e; done)
  rename_i vs hvs
  cases e
  rw [Nat.ble_eq, lenV_eq] at hsz
  rw [listOf_eq] at hsz
  rw [listOf_eq, initT_self] at q0
  rw [rdB_eq] at q2
  obtain ⟨n0, c0⟩ := codeB_sound (n := x.fn.ntmps) hE hz hC hD K x.c0 hx.pl0 _ _ .normal _ _ q0
  obtain ⟨n1, c1⟩ := codeB_sound (n := x.fn.ntmps) hE hz hC hD K x.c1 hx.pl1 _ _ .normal _ _ q1
  obtain ⟨n3, c3⟩ := codeB_sound (n := x.fn.ntmps) hE hz hC hD K x.rest hx.plr _ _ .ret _ _ q3
  have n2 : Nx h1 h2 := (iterF_sound hE hz hC hTb q2 (roundF_nx hE hz hC)).1
  refine ⟨((n0.trans n1).trans n2).trans n3, fun B m args' w ha hr hG => ?_⟩
  refine callsIn_wide (n := 0).1 (callsIn_of_wp_marks hx.hf hx.hb trivial ?_)
  refine wpIn_seq (wpIn_wide.2 (c0 B m _ w _ hx.ok0 (initT_rel ha hsz) hr hG ?_))
  intro m0 a0 w0 x0 t0 d0 r0
  show (Code.seq (Code.seq x.c1 _) x.rest).wpIn Fence.wide 0 P _ a0 w0
  refine wpIn_seq (wpIn_seq (wpIn_wide.2 (c1 B m0 _ w0 _ hx.ok1 t0 r0 (hG.mono x0.1) ?_)))
  intro m1 a1 w1 x1 t1 d1 r1
  show (Code.block x.id _).wpIn Fence.wide 0 P _ a1 w1
  have hG1 : GRel G m1 := (hG.mono x0.1).mono x1.1
  refine wpIn_block (wpIn_rangeFunc fun fn _ => ?_)
  have rD := r1.keep (.deferred (some []))
  have rL := rD.keep (.loop { state := .ready, pending := none, fn, tmps := a1.tmps, params := #[x.p], assign := x.asg, body := x.bd, defers := w1.heap.size })
  have hY := roundF_good (P := P) (enters := enters) (CB := CB) hE hz hC (K := K) (B := B.with w1.heap.size (.deferred (some []))) (l := (w1.alloc (.deferred (some []))).heap.size) (D := w1.heap.size) (fn := fn) t1 hx.hp hx.oka hx.okb
  obtain ⟨gi, lb', hv', hent, hcall⟩ := (iterF_sound hE hz hC hTb q2 hY).2 0 m1 _ _ (Mu.le_refl _) (rho_rel t1 hG1 hx.hg) rL hG1
  have hl : (w1.alloc (.deferred (some []))).heap.size = w1.heap.size + 1 := by simp
  rw [hl] at hcall rL hY
  have hres : (resolve a1.eval (rangeCall x.g (w1.heap.size + 1)) 0).run P ((w1.alloc (.deferred (some []))).alloc (.loop { state := .ready, pending := none, fn, tmps := a1.tmps, params := #[x.p], assign := x.asg, body := x.bd, defers := w1.heap.size })) =
      .ok { target := .fn (.func gi) lb', args := #[yv (w1.heap.size + 1)] } ((w1.alloc (.deferred (some []))).alloc (.loop { state := .ready, pending := none, fn, tmps := a1.tmps, params := #[x.p], assign := x.asg, body := x.bd, defers := w1.heap.size })) := by
    simp only [resolve, hv', Deferred.ofValue, Sem.run_pure]
    simp [yv, Act.eval]
  refine ⟨w1.heap.size + 1, [{ target := .collected w1.heap.size, args := #[] }], _, { target := .fn (.func gi) lb', args := #[yv (w1.heap.size + 1)] }, _, gi, #[yv (w1.heap.size + 1)] ++ lb', ((w1.alloc (.deferred (some []))).alloc (.loop { state := .ready, pending := none, fn, tmps := a1.tmps, params := #[x.p], assign := x.asg, body := x.bd, defers := w1.heap.size })), run_enterLoop_outer _ _ _ _ _, hres, fun _ _ => trivial, hent _ _, (fun h => by cases h), ?_⟩
  · refine hcall.mono ?_
    rintro e w2 ⟨u, m2, rfl, x2, r2⟩
    refine ⟨none, _, run_endLoop (r2.prot (w1.heap.size + 1) _ (with_prot _ _ _)) (by simp), ?_⟩
    have r3 := (r2.turn (fun C t fr q => by cases q) (.loop { state := .exhausted, pending := none, fn, tmps := a1.tmps, params := #[x.p], assign := x.asg, body := x.bd, defers := w1.heap.size })).loose (fun C t fr q => by cases q) (by
      show (if w1.heap.size + 1 = w1.heap.size then _ else B.prot (w1.heap.size + 1)) = none
      rw [if_neg (by omega)]
      cases hb : B.prot (w1.heap.size + 1) with
      | none => rfl
      | some o => have := (Array.getElem?_eq_some_iff.1 (r1.prot _ _ hb)).1; omega)
    have hG2 : GRel G m2 := hG1.mono x2.1
    show x.rest.wpIn Fence.wide 0 P _ _ _
    refine wpIn_wide.2 (c3 (B.with w1.heap.size (.deferred (some []))) m2 _ _ _ hx.okr (t1.mono x2.1) r3 hG2 ?_)
    intro m4 a4 w4 x4 t4 d4 r4
    obtain ⟨v', hv1, hv2⟩ := results_sound ((r4.turn (fun C t fr q => by cases q) (.deferred none)).loose (fun C t fr q => by cases q) (by
      cases hb : B.prot w1.heap.size with
      | none => rfl
      | some o => have := (Array.getElem?_eq_some_iff.1 (r1.prot _ _ hb)).1; omega)) t4 (resB_some hvs)
    have hdef : a4.defers = [{ target := .collected w1.heap.size, args := #[] }] := by
      rw [d4]
      show [_] ++ a1.defers = _
      rw [d1, d0]; rfl
    show LeavesInM Fence.wide 0 P x.fn a4.tmps _ a4.defers .returning w4
    rw [hdef]
    refine ⟨(by intro q; cases q), .inl ⟨w1.heap.size, _, rfl, run_takeDeferred (r4.prot _ _ (with_prot _ _ _)), ?_⟩⟩
    refine ⟨v', hv1, v', m4, rfl, ?_, ?_, hv2⟩
    · exact ((x0.trans x1 n0.1 n0.2.1).trans x2 (n0.trans n1).1 (n0.trans n1).2.1).trans x4 ((n0.trans n1).trans n2).1 ((n0.trans n1).trans n2).2.1
    · exact (r4.turn (fun C t fr q => by cases q) (.deferred none)).loose (fun C t fr q => by cases q) (by
        cases hb : B.prot w1.heap.size with
        | none => rfl
        | some o => have := (Array.getElem?_eq_some_iff.1 (r1.prot _ _ hb)).1; omega)
end
end Go.Ab
namespace Go.Ab
open Go Go.RowKit
section
variable {P : Program}

/-! ## Functions that defer calls -/
/-- A deferred call. -/
structure DCall where
  g : FuncId
  cap : Array Value
  args : Array Value
def DOne (m : Mu) (d : DCall) (d' : Deferred) : Prop := ∃ cap' args', d' = { target := .fn (.func d.g) cap', args := args' } ∧ ARel m d.cap cap' ∧ ARel m d.args args'
def DRel (m : Mu) : List DCall → List Deferred → Prop
  | [], [] => True
  | d :: ds, e :: es => DOne m d e ∧ DRel m ds es
  | _, _ => False
theorem DRel.mono {m m' : Mu} (hm : Mu.le m m') : ∀ {ds : List DCall} {es : List Deferred}, DRel m ds es → DRel m' ds es := by
  intro ds
  induction ds with
  | nil => intro es h; cases es with | nil => exact h | cons => exact h.elim
  | cons d ds ih =>
    intro es h
    cases es with
    | nil => exact h.elim
    | cons e es => obtain ⟨⟨c, a, h1, h2, h3⟩, h4⟩ := h; exact ⟨⟨c, a, h1, h2.mono hm, h3.mono hm⟩, ih h4⟩
def appV (a : Array Value) (l : List Value) : Array Value := match a with | ⟨x⟩ => ⟨appL x l⟩
  where appL : List Value → List Value → List Value
  | [], l => l
  | v :: x, l => v :: appL x l
theorem appV_eq (a : Array Value) (l : List Value) : appV a l = a ++ l.toArray := by
  obtain ⟨x⟩ := a
  have : ∀ x, appV.appL x l = x ++ l := by
    intro x
    induction x with
    | nil => rfl
    | cons v x ih => simp [appV.appL, ih]
  simp [appV, this]
/-- The deferred call that an operation makes. -/
def deferOf (o : Oper) : Option (Operand × List Operand) := match o.guard with
  | some _ => none
  | none => match o.op with
    | .defer c => (match c.callee with | .value f => some (f, c.args.toList) | _ => none)
    | _ => none
noncomputable def opsD (P : Program) (enters : FuncId → FKind) (CB : CallB) (ops : Array Oper) : List Oper → Tree Value → AHeap → List DCall → Option (Tree Value × AHeap × List DCall)
  | [], T, h, ds => some (T, h, ds)
  | o :: rest, T, h, ds => match deferOf o with
    | some (f, as) => match (rdB f).un T with
      | .func (.func g) first cap => opsD P enters CB ops rest ((putB o.dst).un T undef) h (⟨g, cap, appV first ((argsB as).un T)⟩ :: ds)
      | _ => none
    | none => match (stepB P enters CB ops o).un T h with
      | some (v, h') => opsD P enters CB ops rest ((putB o.dst).un T v) h' ds
      | none => none
theorem opsD_next {G : Nat} {enters : FuncId → FKind} {CB : CallB} (hC : CallSound P G (callOf CB)) {ops : Array Oper} : ∀ (L : List Oper) (T : Tree Value) (h : AHeap) (ds : List DCall) (T' : Tree Value) (h' : AHeap) (ds' : List DCall),
    opsD P enters CB ops L T h ds = some (T', h', ds') → Nx h h' := by
  intro L
  induction L with
  | nil => intro T h ds T' h' ds' e; simp only [opsD, Option.some.injEq, Prod.mk.injEq] at e; obtain ⟨_, rfl, _⟩ := e; exact Nx.refl _
  | cons o L ih =>
    intro T h ds T' h' ds' e
    simp only [opsD] at e
    split at e
    · split at e
      · exact ih _ _ _ _ _ _ e
      · cases e
    · split at e
      · rename_i v h2 h1
        exact (stepA_next hC (stepB_some h1)).trans (ih _ _ _ _ _ _ e)
      · cases e
theorem opsD_sound {B : Base} {G n : Nat} {enters : FuncId → FKind} {CB : CallB} (hE : Enters P enters) (hz : ZF P) (hC : CallSound P G (callOf CB)) {ops : Array Oper}
    (hd : ∀ (j : Nat) (d : Nat), (ops[j]?).bind (·.dst) = some d → d < n) {Q : Exit → Act → World → Prop} : ∀ (L : List Oper) (T : Tree Value) (h : AHeap) (ds : List DCall) (T' : Tree Value) (h' : AHeap) (ds' : List DCall) (m : Mu) (a : Act) (w : World),
    L.all (opOk G n) = true → opsD P enters CB ops L T h ds = some (T', h', ds') → TRel m n T a.tmps → Rel P B m h w → GRel G m → DRel m ds a.defers →
    (∀ m' a' w', Ext h m m' → TRel m' n T' a'.tmps → DRel m' ds' a'.defers → Rel P B m' h' w' → Q .normal a' w') → wpList P ops Q L a w := by
  intro L
  induction L with
  | nil =>
    intro T h ds T' h' ds' m a w _ e hT hr hG hds hQ
    simp only [opsD, Option.some.injEq, Prod.mk.injEq] at e
    obtain ⟨rfl, rfl, rfl⟩ := e
    exact hQ m a w (Ext.refl _ m) hT hds hr
  | cons o L ih =>
    intro T h ds T' h' ds' m a w hl e hT hr hG hds hQ
    simp only [List.all_cons, Bool.and_eq_true] at hl
    have hdo : ∀ d, o.dst = some d → d < n := by
      intro d e
      have := hl.1
      unfold opOk at this
      rw [e] at this
      simp only [Bool.and_eq_true, Nat.blt_eq] at this
      exact this.2
    have hρ : ∀ x ∈ o.op.operands.toList, VRel m (rhoA T x) (a.eval x) := fun x hx => by
      have := hl.1
      unfold opOk at this
      simp only [Bool.and_eq_true] at this
      exact rho_rel hT hG (List.all_eq_true.1 this.1 x hx)
    simp only [opsD] at e
    split at e
    · rename_i f as hdf
      have hk2 : ∃ c, o.guard = none ∧ o.op = .defer c ∧ c.callee = .value f ∧ as = c.args.toList := by
        unfold deferOf at hdf
        split at hdf
        · cases hdf
        rename_i hg
        split at hdf
        · rename_i c ho
          split at hdf
          · rename_i f' hc
            simp only [Option.some.injEq, Prod.mk.injEq] at hdf
            obtain ⟨rfl, rfl⟩ := hdf
            exact ⟨c, hg, ho, hc, rfl⟩
          · cases hdf
        · cases hdf
      obtain ⟨c, g1, g2, g3, rfl⟩ := hk2
      split at e
      · rename_i g first cap hv
        rw [rdB_eq] at hv
        have hf := hρ f (by rw [g2]; simp [Op.operands, Call.operands, g3])
        rw [hv] at hf
        obtain ⟨first', cap', hev, hfi, hca⟩ : ∃ first' cap', a.eval f = .func (.func g) first' cap' ∧ ARel m first first' ∧ ARel m cap cap' := by
          generalize a.eval f = z at hf
          cases hf with
          | func f a a' c c' h1 h2 h3 h4 => exact ⟨_, _, rfl, ⟨h1, h2⟩, ⟨h3, h4⟩⟩
        have ha : ARel m (appV first ((argsB c.args.toList).un T)) (first' ++ c.args.map a.eval) := by
          rw [appV_eq, argsB_eq]
          refine ⟨by simp [hfi.1], fun i hi hi' => ?_⟩
          rw [Array.getElem_append, Array.getElem_append]
          by_cases hlt : i < first.size
          · rw [dif_pos hlt, dif_pos (by rw [← hfi.1]; exact hlt)]
            exact hfi.2 i _ _
          · rw [dif_neg hlt, dif_neg (by rw [← hfi.1]; exact hlt)]
            simp only [List.getElem_toArray, List.getElem_map, Array.getElem_map, Array.getElem_toList, hfi.1]
            refine hρ _ ?_
            rw [g2]
            simp only [Op.operands, Call.operands, Array.toList_append, List.mem_append]
            exact .inr (Array.mem_toList_iff.2 (Array.getElem_mem _))
        unfold wpList
        rw [if_pos (by unfold Region.wanted; rw [g1])]
        refine .inl ?_
        unfold Oper.wp
        have hrun : (execOp a.eval o).run P w = .ok (.defer { target := .fn (.func g) cap', args := first' ++ c.args.map a.eval }) w := by
          unfold execOp
          rw [g2]
          simp only [resolve, g3, hev, Deferred.ofValue, pure_bind, Sem.run_pure]
        rw [hrun, Oper.upon_defer]
        refine ih _ _ _ _ _ _ m _ w hl.2 e ?_ hr hG ?_ ?_
        · rw [putB_eq]
          exact TRel.put (a := { a with defers := { target := .fn (.func g) cap', args := first' ++ c.args.map a.eval } :: a.defers }) hT hdo (undef_rel m)
        · have : ({ a with defers := { target := .fn (.func g) cap', args := first' ++ c.args.map a.eval } :: a.defers }.put o.dst undef : Act).defers = { target := .fn (.func g) cap', args := first' ++ c.args.map a.eval } :: a.defers := by
            cases o.dst <;> rfl
          rw [this]
          exact ⟨⟨cap', _, rfl, hca, ha⟩, hds⟩
        · exact hQ
      · cases e
    · split at e
      · rename_i v h2 h1
        have h1 := stepB_some h1
        have q := stepA_next hC h1
        have hs := stepA_sound (B := B) hE hz hC h1 hT hr hG hl.1 hd (Q := Q) (K := wpList P ops Q L) (fun m' v' w' c1 c2 c3 => by
          refine ih _ _ _ _ _ _ m' (a.put o.dst v') w' hl.2 e ?_ c2 (hG.mono c1.1) ?_ ?_
          · rw [putB_eq]; exact (hT.mono c1.1).put hdo c3
          · have : (a.put o.dst v').defers = a.defers := by cases o.dst <;> rfl
            rw [this]
            exact hds.mono c1.1
          · intro m2 a2 w2 d1 d2 d3 d4
            exact hQ m2 a2 w2 (c1.trans d1 q.1 q.2.1) d2 d3 d4)
        unfold wpList
        split
        · rename_i hw; rw [if_pos hw] at hs; exact .inl hs
        · rename_i hw; rw [if_neg hw] at hs; exact hs
      · cases e

inductive RD where
  | none
  | normal (T : Tree Value) (h : AHeap) (ds : List DCall)
  | exit (id : Nat) (T : Tree Value) (h : AHeap) (ds : List DCall)
  | ret (T : Tree Value) (h : AHeap) (ds : List DCall)
def RD.of : AExit → Tree Value → AHeap → List DCall → RD
  | .normal, T, h, ds => .normal T h ds
  | .exit id, T, h, ds => .exit id T h ds
  | .ret, T, h, ds => .ret T h ds
def rdOf (x : RC) (ds : List DCall) : RD := match x with
  | .none => .none
  | .normal T h => .normal T h ds
  | .exit id T h => .exit id T h ds
  | .ret T h => .ret T h ds
def rdOf3 (x : Option (Tree Value × AHeap × List DCall)) : RD := match x with | some (T, h, ds) => .normal T h ds | none => .none
noncomputable def codeD (P : Program) (enters : FuncId → FKind) (CB : CallB) (DB : DrawB) (K : Nat) : Code → Box (Tree Value → AHeap → List DCall → RD)
  | .region _ ops false => ⟨fun T h ds => rdOf3 (opsD P enters CB ops ops.toList T h ds)⟩
  | .seq a b => ⟨fun T h ds => match (codeD P enters CB DB K a).un T h ds with | .normal T' h' ds' => (codeD P enters CB DB K b).un T' h' ds' | .none => .none | .exit id T' h' ds' => .exit id T' h' ds' | .ret T' h' ds' => .ret T' h' ds'⟩
  | .cond c a b => ⟨fun T h ds => match (rdB c).un T with | .bool true => (codeD P enters CB DB K a).un T h ds | .bool false => (codeD P enters CB DB K b).un T h ds | _ => .none⟩
  | c => ⟨fun T h ds => rdOf ((codeB P enters CB DB K c).un T h) ds⟩
def GoodD (P : Program) (G n : Nat) (c : Code) (T : Tree Value) (h : AHeap) (ds : List DCall) (e : AExit) (T' : Tree Value) (h' : AHeap) (ds' : List DCall) : Prop := Nx h h' ∧
  ∀ (B : Base) (m : Mu) (a : Act) (w : World) (Q : Exit → Act → World → Prop), codeOk G n c = true → TRel m n T a.tmps → Rel P B m h w → GRel G m → DRel m ds a.defers →
    (∀ m' a' w', Ext h m m' → TRel m' n T' a'.tmps → DRel m' ds' a'.defers → Rel P B m' h' w' → Q e.toExit a' w') → c.wp P Q a w
theorem rdOf_some {x : RC} {ds ds' : List DCall} {e : AExit} {T : Tree Value} {h : AHeap} (q : rdOf x ds = RD.of e T h ds') : ds' = ds ∧ x = RC.of e T h := by
  cases x <;> cases e <;> cases q <;> exact ⟨rfl, rfl⟩
theorem codeD_sound {G n : Nat} {enters : FuncId → FKind} {CB : CallB} {DB : DrawB} (hE : Enters P enters) (hz : ZF P) (hC : CallSound P G (callOf CB)) (hD : DrawGood P G (fun ops T h => (DB ops).un T h)) (K : Nat) :
    ∀ (c : Code), plansOk P c = true → ∀ (T : Tree Value) (h : AHeap) (ds : List DCall) (e : AExit) (T' : Tree Value) (h' : AHeap) (ds' : List DCall), (codeD P enters CB DB K c).un T h ds = RD.of e T' h' ds' → GoodD P G n c T h ds e T' h' ds' := by
  have plain : ∀ (c : Code), plansOk P c = true → ∀ (T : Tree Value) (h : AHeap) (ds : List DCall) (e : AExit) (T' : Tree Value) (h' : AHeap) (ds' : List DCall), rdOf ((codeB P enters CB DB K c).un T h) ds = RD.of e T' h' ds' → GoodD P G n c T h ds e T' h' ds' := by
    intro c hpl T h ds e T' h' ds' q
    obtain ⟨rfl, q3⟩ := rdOf_some q
    obtain ⟨q1, q2⟩ := codeB_sound (n := n) hE hz hC hD K c hpl _ _ _ _ _ q3
    refine ⟨q1, fun B m a w Q hok hT hr hG hds hQ => q2 B m a w Q hok hT hr hG fun m' a' w' c1 c2 c3 c4 => hQ m' a' w' c1 c2 ?_ c4⟩
    rw [c3]
    exact hds.mono c1.1
  intro c
  induction c with
  | region id ops d =>
    intro hpl T h ds e T' h' ds' q
    cases d with
    | true => exact plain _ hpl _ _ _ _ _ _ _ q
    | false =>
      have q' : rdOf3 (opsD P enters CB ops ops.toList T h ds) = RD.of e T' h' ds' := q
      obtain ⟨rfl, h1⟩ : e = .normal ∧ opsD P enters CB ops ops.toList T h ds = some (T', h', ds') := by
        unfold rdOf3 at q'
        split at q'
        · rename_i hx; rw [hx]; cases e <;> cases q'; exact ⟨rfl, rfl⟩
        · cases e <;> cases q'
      exact ⟨opsD_next hC _ _ _ _ _ _ _ h1, fun B m a w Q hok hT hr hG hds hQ => wp_region_list (opsD_sound hE hz hC (dst_of_ok hok) _ _ _ _ _ _ _ m a w hok h1 hT hr hG hds hQ)⟩
  | seq x y ihx ihy =>
    intro hpl T h ds e T' h' ds' q
    simp only [plansOk, Bool.and_eq_true] at hpl
    replace ihx := ihx hpl.1
    replace ihy := ihy hpl.2
    simp only [codeD] at q
    have other : ∀ (e : AExit) (T' : Tree Value) (h' : AHeap) (ds' : List DCall), e ≠ .normal → GoodD P G n x T h ds e T' h' ds' → GoodD P G n (.seq x y) T h ds e T' h' ds' := by
      intro e T' h' ds' hne ⟨q1, q2⟩
      refine ⟨q1, fun B m a w Q hok hT hr hG hds hQ => wp_seq ?_⟩
      simp only [codeOk, Bool.and_eq_true] at hok
      refine q2 B m a w _ hok.1 hT hr hG hds ?_
      intro m' a' w' c1 c2 c3 c4
      have := hQ m' a' w' c1 c2 c3 c4
      cases e with
      | normal => exact absurd rfl hne
      | exit id => exact this
      | ret => exact this
    split at q
    · rename_i T2 h2 ds2 h1
      obtain ⟨q1, q2⟩ := ihx _ _ _ .normal _ _ _ h1
      obtain ⟨r1, r2⟩ := ihy _ _ _ _ _ _ _ q
      refine ⟨q1.trans r1, fun B m a w Q hok hT hr hG hds hQ => wp_seq ?_⟩
      simp only [codeOk, Bool.and_eq_true] at hok
      refine q2 B m a w _ hok.1 hT hr hG hds ?_
      intro m' a' w' c1 c2 c3 c4
      refine r2 B m' a' w' Q hok.2 c2 c4 (hG.mono c1.1) c3 ?_
      intro m2 a2 w2 d1 d2 d3 d4
      exact hQ m2 a2 w2 (c1.trans d1 q1.1 q1.2.1) d2 d3 d4
    · cases e <;> cases q
    · rename_i id T2 h2 ds2 h1
      cases e <;> cases q
      exact other (.exit id) _ _ _ (fun h => by cases h) (ihx _ _ _ (.exit id) _ _ _ h1)
    · rename_i T2 h2 ds2 h1
      cases e <;> cases q
      exact other .ret _ _ _ (fun h => by cases h) (ihx _ _ _ .ret _ _ _ h1)
  | cond c0 x y ihx ihy =>
    intro hpl T h ds e T' h' ds' q
    simp only [plansOk, Bool.and_eq_true] at hpl
    replace ihx := ihx hpl.1
    replace ihy := ihy hpl.2
    simp only [codeD] at q
    split at q
    · rename_i hb0
      rw [rdB_eq] at hb0
      obtain ⟨q1, q2⟩ := ihx _ _ _ _ _ _ _ q
      refine ⟨q1, fun B m a w Q hok hT hr hG hds hQ => ?_⟩
      simp only [codeOk, Bool.and_eq_true] at hok
      have hb := rho_rel (a := a) hT hG hok.1.1
      rw [hb0] at hb
      refine wp_cond_true ?_ (q2 B m a w Q hok.1.2 hT hr hG hds hQ)
      generalize a.eval c0 = z at hb ⊢
      cases hb; rfl
    · rename_i hb0
      rw [rdB_eq] at hb0
      obtain ⟨q1, q2⟩ := ihy _ _ _ _ _ _ _ q
      refine ⟨q1, fun B m a w Q hok hT hr hG hds hQ => ?_⟩
      simp only [codeOk, Bool.and_eq_true] at hok
      have hb := rho_rel (a := a) hT hG hok.1.1
      rw [hb0] at hb
      refine wp_cond_false ?_ (q2 B m a w Q hok.2 hT hr hG hds hQ)
      generalize a.eval c0 = z at hb ⊢
      cases hb; rfl
    · cases e <;> cases q
  | _ => intro hpl T h ds e T' h' ds' q; exact plain _ hpl _ _ _ _ _ _ _ q

/-! ## The deferred calls -/
def isRec (o : Oper) : Bool := match o.guard with
  | some _ => false
  | none => match o.op with
    | .call c => (match c.callee with | .builtin .recover => c.args.isEmpty | _ => false)
    | _ => false
/-- Operations that may ask what there is to recover: nothing. -/
noncomputable def opsR (P : Program) (enters : FuncId → FKind) (CB : CallB) (ops : Array Oper) : List Oper → Tree Value → AHeap → Option (Tree Value × AHeap)
  | [], T, h => some (T, h)
  | o :: rest, T, h => match isRec o with
    | true => opsR P enters CB ops rest ((putB o.dst).un T .nilIface) h
    | false => match (stepB P enters CB ops o).un T h with
      | some (v, h') => opsR P enters CB ops rest ((putB o.dst).un T v) h'
      | none => none
theorem opsR_next {G : Nat} {enters : FuncId → FKind} {CB : CallB} (hC : CallSound P G (callOf CB)) {ops : Array Oper} : ∀ (L : List Oper) (T : Tree Value) (h : AHeap) (T' : Tree Value) (h' : AHeap),
    opsR P enters CB ops L T h = some (T', h') → Nx h h' := by
  intro L
  induction L with
  | nil => intro T h T' h' e; simp only [opsR, Option.some.injEq, Prod.mk.injEq] at e; obtain ⟨_, rfl⟩ := e; exact Nx.refl _
  | cons o L ih =>
    intro T h T' h' e
    simp only [opsR] at e
    split at e
    · exact ih _ _ _ _ e
    · split at e
      · rename_i v h2 h1
        exact (stepA_next hC (stepB_some h1)).trans (ih _ _ _ _ e)
      · cases e
theorem opsR_sound {B : Base} {G n : Nat} {enters : FuncId → FKind} {CB : CallB} (hE : Enters P enters) (hz : ZF P) (hC : CallSound P G (callOf CB)) {ops : Array Oper} {cs : List Frame} (hcs : recoverD cs = none)
    (hd : ∀ (j : Nat) (d : Nat), (ops[j]?).bind (·.dst) = some d → d < n) {Q : Exit → Act → List Frame → World → Prop} : ∀ (L : List Oper) (i : Nat) (T : Tree Value) (h : AHeap) (T' : Tree Value) (h' : AHeap) (m : Mu) (a : Act) (w : World),
    (∀ j, L[j]? = ops[i + j]?) → L.all (opOk G n) = true → opsR P enters CB ops L T h = some (T', h') → TRel m n T a.tmps → Rel P B m h w → GRel G m →
    (∀ m' a' w', Ext h m m' → TRel m' n T' a'.tmps → a'.defers = a.defers → Rel P B m' h' w' → Q .normal a' cs w') → wpOpsS P ops Q (List.range' i L.length) a cs w := by
  intro L
  induction L with
  | nil =>
    intro i T h T' h' m a w _ _ e hT hr hG hQ
    simp only [opsR, Option.some.injEq, Prod.mk.injEq] at e
    obtain ⟨rfl, rfl⟩ := e
    exact hQ m a w (Ext.refl _ m) hT rfl hr
  | cons o L ih =>
    intro i T h T' h' m a w hj hl e hT hr hG hQ
    simp only [List.all_cons, Bool.and_eq_true] at hl
    have hdo : ∀ d, o.dst = some d → d < n := by
      intro d e
      have := hl.1
      unfold opOk at this
      rw [e] at this
      simp only [Bool.and_eq_true, Nat.blt_eq] at this
      exact this.2
    have hoi : ops[i]? = some o := by have := hj 0; simpa using this.symm
    have hj' : ∀ j, L[j]? = ops[(i + 1) + j]? := fun j => by have := hj (j + 1); simp at this; rw [this]; congr 1; omega
    have defs : ∀ (v : Value), (a.put o.dst v).defers = a.defers := fun v => by cases o.dst <;> rfl
    rw [List.length_cons, List.range'_succ]
    simp only [wpOpsS, hoi]
    simp only [opsR] at e
    split at e
    · rename_i hrec
      have hk2 : ∃ c, o.guard = none ∧ o.op = .call c ∧ c.callee = .builtin .recover ∧ c.args = #[] := by
        unfold isRec at hrec
        split at hrec
        · cases hrec
        rename_i hg
        split at hrec
        · rename_i c ho
          split at hrec
          · rename_i hc
            exact ⟨c, hg, ho, hc, Array.isEmpty_iff.1 hrec⟩
          · cases hrec
        · cases hrec
      obtain ⟨c, g1, g2, g3, g4⟩ := hk2
      rw [if_pos (by unfold Region.wanted; rw [g1])]
      have hrun : (execOp a.eval o).run P w = .ok .recover w := by
        unfold execOp
        rw [g2]
        simp only [resolve, g3, pure_bind, invoke, builtin, Sem.run_pure]
      rw [hrun]
      dsimp only
      rw [hcs]
      dsimp only
      refine ih _ _ _ _ _ m _ w hj' hl.2 e ?_ hr hG ?_
      · rw [putB_eq]; exact hT.put hdo .nilIface
      · intro m' a' w' c1 c2 c3 c4
        exact hQ m' a' w' c1 c2 (c3.trans (defs _)) c4
    · split at e
      · rename_i v h2 h1
        have h1 := stepB_some h1
        have q := stepA_next hC h1
        have fin : ∀ (m' : Mu) (v' : Value) (w' : World), Ext h m m' → Rel P B m' h2 w' → VRel m' v v' → wpOpsS P ops Q (List.range' (i + 1) L.length) (a.put o.dst v') cs w' := fun m' v' w' c1 c2 c3 => by
          refine ih _ _ _ _ _ m' (a.put o.dst v') w' hj' hl.2 e ?_ c2 (hG.mono c1.1) ?_
          · rw [putB_eq]; exact (hT.mono c1.1).put hdo c3
          · intro m2 a2 w2 d1 d2 d3 d4
            exact hQ m2 a2 w2 (c1.trans d1 q.1 q.2.1) d2 (d3.trans (defs _)) d4
        have hw := wanted_eq hT ops o hd
        have hok := hl.1
        unfold opOk at hok
        simp only [Bool.and_eq_true] at hok
        have hρ : ∀ x ∈ o.op.operands.toList, VRel m (rhoA T x) (a.eval x) := fun x hx => rho_rel hT hG (List.all_eq_true.1 hok.1 x hx)
        unfold stepA at h1
        split at h1
        · rename_i h0
          rw [hw, h0, if_pos rfl]
          have hs := opA_sound hE hz (o := o) (ρ := rhoA T) (ρ' := a.eval) hr hρ
          split at h1
          · rename_i x hx h3
            simp only [Option.some.injEq, Prod.mk.injEq] at h1
            obtain ⟨rfl, rfl⟩ := h1
            obtain ⟨nx, w', m', e1, e2, e3, e4⟩ := hs _ _ h3
            rw [e1]
            cases nx <;> first | exact e4.elim | skip
            exact fin m' _ w' e2 e3 e4
          · rename_i hx h3
            simp only [Option.some.injEq, Prod.mk.injEq] at h1
            obtain ⟨rfl, rfl⟩ := h1
            obtain ⟨nx, w', m', e1, e2, e3, e4⟩ := hs _ _ h3
            rw [e1]
            cases nx <;> first | exact e4.elim | skip
            exact fin m' _ w' e2 e3 (undef_rel m')
          · rename_i f args h4 h3
            obtain ⟨nx, w', m', e1, e2, e3, e4⟩ := hs _ _ h3
            rw [e1]
            cases nx <;> first | exact e4.elim | skip
            obtain ⟨rfl, e5⟩ := e4
            obtain ⟨_, hcs2⟩ := hC _ _ _ _ _ h1
            have q := opA_next h3
            refine (hcs2 B m' _ w' e5 e3 (hG.mono e2.1)).mono ?_
            rintro e w2 ⟨v', m2, rfl, c2, c3, c4⟩
            exact fin m2 v' w2 (e2.trans c2 q.1 q.2.1) c3 c4
          · cases h1
        · rename_i h0
          rw [hw, h0]
          simp only [Option.some.injEq, Prod.mk.injEq] at h1
          obtain ⟨rfl, rfl⟩ := h1
          simp only [Bool.false_eq_true, if_false]
          exact fin m undef w (Ext.refl _ m) hr (undef_rel m)
      · cases e
def recOf : Code → Option (Nat × Array Oper × Code)
  | .seq (.region id ops false) r => (match ops.toList.any isRec with | true => some (id, ops, r) | false => none)
  | _ => none
theorem recOf_some {c : Code} {id : Nat} {ops : Array Oper} {r : Code} (h : recOf c = some (id, ops, r)) : c = .seq (.region id ops false) r := by
  unfold recOf at h
  split at h
  · split at h
    · cases h; rfl
    · cases h
  · cases h
noncomputable def endK (P : Program) (rs : List ResultVar) (x : RC) : Option AHeap := match x with
  | .normal T h => (match (resB P rs).un h T with | some _ => some h | none => none)
  | .ret T h => (match (resB P rs).un h T with | some _ => some h | none => none)
  | _ => none
noncomputable def dcallF (P : Program) (FT : FuncId → Option Func) (enters : FuncId → FKind) (CB : CallB) (DB : DrawB) (K : Nat) (d : DCall) (h : AHeap) : Option AHeap := match enters d.g with
  | .enter => match FT d.g with
    | some gn => match gn.body with
      | some gc => match Nat.ble (lenV (listOf (appV d.args (listOf d.cap)))) gn.ntmps with
        | true => match recOf gc with
          | some (_, ops, r) => (match opsR P enters CB ops ops.toList (treeOfB (listOf (appV d.args (listOf d.cap))) 0 .leaf) h with
            | some (T1, h1) => endK P gn.results.toList ((codeB P enters CB DB K r).un T1 h1)
            | none => none)
          | none => endK P gn.results.toList ((codeB P enters CB DB K gc).un (treeOfB (listOf (appV d.args (listOf d.cap))) 0 .leaf) h)
        | false => none
      | none => none
    | none => none
  | _ => none
noncomputable def runDs (P : Program) (FT : FuncId → Option Func) (enters : FuncId → FKind) (CB : CallB) (DB : DrawB) (K : Nat) : List DCall → AHeap → Option AHeap
  | [], h => some h
  | d :: ds, h => match dcallF P FT enters CB DB K d h with
    | some h' => runDs P FT enters CB DB K ds h'
    | none => none
theorem endK_some {rs : List ResultVar} {x : RC} {h' : AHeap} (e : endK P rs x = some h') : ∃ (k : AExit) (T : Tree Value) (us : List Value), (k = .normal ∨ k = .ret) ∧ x = RC.of k T h' ∧ (resB P rs).un h' T = some us := by
  unfold endK at e
  split at e
  · split at e
    · rename_i us hus; cases e; exact ⟨.normal, _, us, .inl rfl, rfl, hus⟩
    · cases e
  · split at e
    · rename_i us hus; cases e; exact ⟨.ret, _, us, .inr rfl, rfl, hus⟩
    · cases e
  · cases e
theorem dcallF_sound {G : Nat} {enters : FuncId → FKind} {FT : FuncId → Option Func} {CB : CallB} {DB : DrawB} (hE : Enters P enters) (hz : ZF P) (hC : CallSound P G (callOf CB)) (hD : DrawGood P G (fun ops T h => (DB ops).un T h)) (hTb : Table P G enters FT)
    (hpl : ∀ f fn c, FT f = some fn → fn.body = some c → plansOk P c = true) {K : Nat} {d : DCall} {h h' : AHeap} (e : dcallF P FT enters CB DB K d h = some h') : Nx h h' ∧
    ∀ (B : Base) (m : Mu) (d' : Deferred) (w : World), DOne m d d' → Rel P B m h w → GRel G m → ∃ cap' args'', d'.target = .fn (.func d.g) cap' ∧ (invoke d'.target d'.args).run P w = .ok (.enter d.g args'') w ∧
      CallsD P d.g args'' .returning w (fun e u' w' => u' = .returning ∧ ∃ v m', e = .returned v ∧ Ext h m m' ∧ Rel P B m' h' w') := by
  unfold dcallF at e
  split at e <;> try (cases e; done)
  rename_i hen
  split at e <;> try (cases e; done)
  rename_i gn hgn
  split at e <;> try (cases e; done)
  rename_i gc hgc
  split at e <;> try (cases e; done)
  rename_i hsz
  rw [Nat.ble_eq, lenV_eq, listOf_eq, listOf_eq, appV_eq] at hsz
  have hf := hTb.has d.g gn hgn
  have hok := hTb.code d.g gn gc hgn hgc
  have hp := hpl d.g gn gc hgn hgc
  have hent := (hE d.g).1 hen
  have hin : ∀ {m : Mu} {cap' args' : Array Value}, ARel m d.cap cap' → ARel m d.args args' → TRel m gn.ntmps (treeOfB (listOf (appV d.args (listOf d.cap))) 0 .leaf) ((args' ++ cap') ++ Array.replicate (gn.ntmps - (args' ++ cap').size) undef) := by
    intro m cap' args' h1 h2
    rw [listOf_eq, listOf_eq, appV_eq, initT_self]
    refine initT_rel (args := d.args ++ d.cap.toList.toArray) ?_ (by simpa using hsz)
    refine ⟨by simp [h1.1, h2.1], fun i hi hi' => ?_⟩
    rw [Array.getElem_append, Array.getElem_append]
    by_cases hlt : i < d.args.size
    · rw [dif_pos hlt, dif_pos (by rw [← h2.1]; exact hlt)]
      exact h2.2 i _ _
    · rw [dif_neg hlt, dif_neg (by rw [← h2.1]; exact hlt)]
      simp only [← h2.1]
      exact h1.2 _ _ _
  split at e
  · rename_i id ops r hrec
    obtain rfl := recOf_some hrec
    split at e <;> try (cases e; done)
    rename_i T1 h1 q1
    obtain ⟨k, T2, us, hk, q2, hus⟩ := endK_some e
    simp only [codeOk, Bool.and_eq_true] at hok
    simp only [plansOk, Bool.and_eq_true] at hp
    obtain ⟨n2, c2⟩ := codeB_sound (n := gn.ntmps) hE hz hC hD K r hp.2 _ _ _ _ _ q2
    have n1 := opsR_next hC _ _ _ _ _ q1
    refine ⟨n1.trans n2, fun B m d' w hd' hr hG => ?_⟩
    obtain ⟨cap', args', rfl, hcap, hargs⟩ := hd'
    refine ⟨cap', args' ++ cap', rfl, hent _ _, ?_⟩
    refine callsD_of_wpS hf hgc fun c0 cs hmode => wpS_seq (wpS_region ?_)
    have hnone : recoverD (c0 :: cs) = none := by
      unfold recoverD
      simp only [hmode]
    have hlen : ops.size = ops.toList.length := by simp
    rw [List.range_eq_range', hlen]
    refine opsR_sound hE hz hC hnone (dst_of_ok hok.1) ops.toList 0 _ _ _ _ m _ w (fun j => by simp) hok.1 q1 (hin hcap hargs) hr hG ?_
    intro m1 a1 w1 x1 t1 d1 r1
    show Code.wpS P r _ _ _ _
    refine wpS_of_wp (c2 B m1 a1 w1 _ hok.2 t1 r1 (hG.mono x1.1) ?_)
    intro m4 a4 w4 x4 t4 d4 r4
    obtain ⟨u', hu1, _⟩ := results_sound r4 t4 (resB_some hus)
    have fin : a4.defers = [] ∧ ∃ u', c0 :: cs = { c0 with mode := u' } :: cs ∧ ∃ v, (results gn a4.tmps).run P w4 = .ok v w4 ∧ (u' = .returning ∧ ∃ v' m', Ending.returned v = .returned v' ∧ Ext h m m' ∧ Rel P B m' h' w4) :=
      ⟨by rw [d4, d1], .returning, by rw [← hmode], u', hu1, rfl, u', m4, rfl, x1.trans x4 n1.1 n1.2.1, r4⟩
    rcases hk with rfl | rfl
    · exact fin
    · exact fin
  · obtain ⟨k, T2, us, hk, q2, hus⟩ := endK_some e
    obtain ⟨n2, c2⟩ := codeB_sound (n := gn.ntmps) hE hz hC hD K gc hp _ _ _ _ _ q2
    refine ⟨n2, fun B m d' w hd' hr hG => ?_⟩
    obtain ⟨cap', args', rfl, hcap, hargs⟩ := hd'
    refine ⟨cap', args' ++ cap', rfl, hent _ _, ?_⟩
    refine (callsD_of_wp (u := .returning) (R := fun e w' => ∃ v m', e = .returned v ∧ Ext h m m' ∧ Rel P B m' h' w') hf hgc ?_).mono fun e u' w' hx => hx
    refine c2 B m _ w _ hok (hin hcap hargs) hr hG ?_
    intro m4 a4 w4 x4 t4 d4 r4
    obtain ⟨u', hu1, _⟩ := results_sound r4 t4 (resB_some hus)
    have fin : a4.defers = [] ∧ ∃ v, (results gn a4.tmps).run P w4 = .ok v w4 ∧ (∃ v' m', Ending.returned v = .returned v' ∧ Ext h m m' ∧ Rel P B m' h' w4) := ⟨d4, u', hu1, u', m4, rfl, x4, r4⟩
    rcases hk with rfl | rfl
    · exact fin
    · exact fin
theorem runDs_sound {G : Nat} {enters : FuncId → FKind} {FT : FuncId → Option Func} {CB : CallB} {DB : DrawB} (hE : Enters P enters) (hz : ZF P) (hC : CallSound P G (callOf CB)) (hD : DrawGood P G (fun ops T h => (DB ops).un T h)) (hTb : Table P G enters FT)
    (hpl : ∀ f fn c, FT f = some fn → fn.body = some c → plansOk P c = true) {K : Nat} : ∀ (ds : List DCall) (h h' : AHeap), runDs P FT enters CB DB K ds h = some h' → Nx h h' ∧
    ∀ (B : Base) (m : Mu) (es : List Deferred) (w : World) (fn : Func) (tmps : Array Value) (R : Ending → World → Prop), DRel m ds es → Rel P B m h w → GRel G m →
      (∀ m' w', Ext h m m' → Rel P B m' h' w' → ∃ v, (results fn tmps).run P w' = .ok v w' ∧ R (.returned v) w') → Leaves P fn tmps R es .returning w := by
  intro ds
  induction ds with
  | nil =>
    intro h h' e
    cases e
    refine ⟨Nx.refl _, fun B m es w fn tmps R hds hr hG hR => ?_⟩
    cases es with
    | nil => exact hR m w (Ext.refl _ m) hr
    | cons => exact hds.elim
  | cons d ds ih =>
    intro h h' e
    simp only [runDs] at e
    split at e
    · rename_i h1 q1
      obtain ⟨n1, c1⟩ := dcallF_sound hE hz hC hD hTb hpl q1
      obtain ⟨n2, c2⟩ := ih _ _ e
      refine ⟨n1.trans n2, fun B m es w fn tmps R hds hr hG hR => ?_⟩
      cases es with
      | nil => exact hds.elim
      | cons e0 es =>
        obtain ⟨cap', args'', ht, hinv, hcall⟩ := c1 B m e0 w hds.1 hr hG
        obtain ⟨t, as⟩ := e0
        dsimp only at ht hinv
        subst ht
        refine leaves_cons (by intro q; cases q) hinv (hcall.mono ?_)
        rintro e u' w' ⟨rfl, v, m', rfl, x1, r1⟩
        show Leaves P fn tmps R es .returning w'
        exact c2 B m' es w' fn tmps R (hds.2.mono x1.1) r1 (hG.mono x1.1) fun m2 w2 x2 r2 => hR m2 w2 (x1.trans x2 n1.1 n1.2.1) r2
    · cases e
/-- A function that defers calls. -/
noncomputable def deferG (P : Program) (FT : FuncId → Option Func) (enters : FuncId → FKind) (CB : CallB) (DB : DrawB) (K : Nat) (fn : Func) (c : Code) : Array Value → AHeap → Option (Value × AHeap) := fun args h =>
  match Nat.ble (lenV (listOf args)) fn.ntmps with
  | true => match (codeD P enters CB DB K c).un (treeOfB (listOf args) 0 .leaf) h [] with
    | .normal T1 h1 ds => (match runDs P FT enters CB DB K ds h1 with
      | some h2 => (match (resB P fn.results.toList).un h2 T1 with | some vs => some (oneA vs, h2) | none => none)
      | none => none)
    | .ret T1 h1 ds => (match runDs P FT enters CB DB K ds h1 with
      | some h2 => (match (resB P fn.results.toList).un h2 T1 with | some vs => some (oneA vs, h2) | none => none)
      | none => none)
    | _ => none
  | false => none
theorem deferG_sound {G : Nat} {enters : FuncId → FKind} {FT : FuncId → Option Func} {CB : CallB} {DB : DrawB} (hE : Enters P enters) (hz : ZF P) (hC : CallSound P G (callOf CB)) (hD : DrawGood P G (fun ops T h => (DB ops).un T h)) (hTb : Table P G enters FT)
    (hpl : ∀ f fn c, FT f = some fn → fn.body = some c → plansOk P c = true) {K : Nat} {f : FuncId} {fn : Func} {c : Code} (hf : FT f = some fn) (hb : fn.body = some c)
    {args : Array Value} {h : AHeap} {v : Value} {h' : AHeap} (e : deferG P FT enters CB DB K fn c args h = some (v, h')) : Nx h h' ∧
    ∀ (B : Base) m args' w, ARel m args args' → Rel P B m h w → GRel G m →
      Calls P f args' w (fun e w' => ∃ v' m', e = .returned v' ∧ Ext h m m' ∧ Rel P B m' h' w' ∧ VRel m' v v') := by
  unfold deferG at e
  split at e <;> try (cases e; done)
  rename_i hsz
  rw [Nat.ble_eq, lenV_eq, listOf_eq] at hsz
  rw [listOf_eq, initT_self] at e
  have hf' := hTb.has f fn hf
  have hok := hTb.code f fn c hf hb
  have hp := hpl f fn c hf hb
  have main : ∀ (k : AExit) (T1 : Tree Value) (h1 : AHeap) (ds : List DCall) (vs : List Value), (k = .normal ∨ k = .ret) → (codeD P enters CB DB K c).un (initT args.toList 0 .leaf) h [] = RD.of k T1 h1 ds → runDs P FT enters CB DB K ds h1 = some h' → (resB P fn.results.toList).un h' T1 = some vs → Nx h h' ∧
      ∀ (B : Base) m args' w, ARel m args args' → Rel P B m h w → GRel G m →
        Calls P f args' w (fun e w' => ∃ v' m', e = .returned v' ∧ Ext h m m' ∧ Rel P B m' h' w' ∧ VRel m' (oneA vs) v') := by
    intro k T1 h1 ds vs hk q1 q2 hvs
    obtain ⟨n1, c1⟩ := codeD_sound (n := fn.ntmps) hE hz hC hD K c hp _ _ _ _ _ _ _ q1
    obtain ⟨n2, c2⟩ := runDs_sound hE hz hC hD hTb hpl _ _ _ q2
    refine ⟨n1.trans n2, fun B m args' w ha hr hG => ?_⟩
    refine calls_of_wp_defers hf' hb (c1 B m _ w _ hok (initT_rel ha hsz) hr hG trivial ?_)
    intro m1 a1 w1 x1 t1 d1 r1
    have fin := c2 B m1 a1.defers w1 fn a1.tmps (fun e w' => ∃ v' m', e = .returned v' ∧ Ext h m m' ∧ Rel P B m' h' w' ∧ VRel m' (oneA vs) v') d1 r1 (hG.mono x1.1) fun m2 w2 x2 r2 => by
      obtain ⟨v', hv1, hv2⟩ := results_sound r2 (t1.mono x2.1) (resB_some hvs)
      exact ⟨v', hv1, v', m2, rfl, x1.trans x2 n1.1 n1.2.1, r2, hv2⟩
    rcases hk with rfl | rfl
    · exact fin
    · exact fin
  split at e
  · rename_i T1 h1 ds q1
    split at e
    · rename_i h2 q2
      split at e
      · rename_i vs hvs
        simp only [Option.some.injEq, Prod.mk.injEq] at e
        obtain ⟨rfl, rfl⟩ := e
        exact main .normal T1 h1 ds vs (.inl rfl) q1 q2 hvs
      · cases e
    · cases e
  · rename_i T1 h1 ds q1
    split at e
    · rename_i h2 q2
      split at e
      · rename_i vs hvs
        simp only [Option.some.injEq, Prod.mk.injEq] at e
        obtain ⟨rfl, rfl⟩ := e
        exact main .ret T1 h1 ds vs (.inr rfl) q1 q2 hvs
      · cases e
    · cases e
  · cases e
end
end Go.Ab
namespace Go.Ab
open Go Go.RowKit
section
variable {P : Program}

/-! ## Functions that defer, and that range over functions, known layer by layer -/
def hasDefer : Code → Bool
  | .region _ ops _ => ops.toList.any fun o => match o.op with | .defer _ => true | _ => false
  | .seq a b => hasDefer a || hasDefer b
  | .cond _ a b => hasDefer a || hasDefer b
  | .block _ c | .loop c | .scope c => hasDefer c
  | _ => false
def rangeOf (fn : Func) : Option RangeText := match fn.body with
  | some (.seq c0 (.seq (.seq c1 (.block id (.rangeFunc g ⟨[p]⟩ asg bd))) rest)) => some ⟨fn, c0, c1, id, g, p, asg, bd, rest⟩
  | _ => none
def rangeOkB (P : Program) (G : Nat) (x : RangeText) : Bool :=
  Nat.blt x.p x.fn.ntmps && opndOk G x.g && codeOk G x.fn.ntmps x.c0 && codeOk G x.fn.ntmps x.c1 && codeOk G x.fn.ntmps x.asg && codeOk G x.fn.ntmps x.bd && codeOk G x.fn.ntmps x.rest && plansOk P x.c0 && plansOk P x.c1 && plansOk P x.rest
theorem rangeOf_some {fn : Func} {x : RangeText} (h : rangeOf fn = some x) : x.fn = fn ∧ fn.body = some (.seq x.c0 (.seq (.seq x.c1 (.block x.id (.rangeFunc x.g #[x.p] x.asg x.bd))) x.rest)) := by
  unfold rangeOf at h
  split at h
  · rename_i hb; cases h; exact ⟨rfl, hb⟩
  · cases h
theorem rangeOk_of {G : Nat} {f : FuncId} {x : RangeText} (hf : P.funcs[f]? = some x.fn) (hb : x.fn.body = some (.seq x.c0 (.seq (.seq x.c1 (.block x.id (.rangeFunc x.g #[x.p] x.asg x.bd))) x.rest))) (h : rangeOkB P G x = true) : RangeOk P G f x := by
  simp only [rangeOkB, Bool.and_eq_true, Nat.blt_eq] at h
  obtain ⟨⟨⟨⟨⟨⟨⟨⟨⟨h1, h2⟩, h3⟩, h4⟩, h5⟩, h6⟩, h7⟩, h8⟩, h9⟩, h10⟩ := h
  exact ⟨hf, hb, h1, h2, h3, h4, h5, h6, h7, h8, h9, h10⟩
noncomputable def richK (P : Program) (G : Nat) (FT : FuncId → Option Func) (enters : FuncId → FKind) (CB : CallB) (DB : DrawB) (K : Nat) : Known := fun f => match FT f with
  | some fn => match fn.body with
    | some c => match hasDefer c with
      | true => some (deferG P FT enters CB DB K fn c)
      | false => match rangeOf fn with
        | some x => match rangeOkB P G x with
          | true => some (rangeF P FT enters CB DB K x)
          | false => none
        | none => none
    | none => none
  | none => none
theorem richK_sound {G : Nat} {FT : FuncId → Option Func} {enters : FuncId → FKind} {CB : CallB} {DB : DrawB} {K : Nat} (hE : Enters P enters) (hz : ZF P) (hC : CallSound P G (callOf CB)) (hD : DrawGood P G (fun ops T h => (DB ops).un T h)) (hTb : Table P G enters FT)
    (hpl : ∀ f fn c, FT f = some fn → fn.body = some c → plansOk P c = true) : CallSound P G (richK P G FT enters CB DB K).call := by
  intro f args h v h' e
  unfold Known.call richK at e
  split at e <;> try (cases e; done)
  rename_i g hg
  split at hg <;> try (cases hg; done)
  rename_i fn hfn
  split at hg <;> try (cases hg; done)
  rename_i c hc
  split at hg
  · cases hg
    exact deferG_sound hE hz hC hD hTb hpl hfn hc e
  · split at hg <;> try (cases hg; done)
    rename_i x hx
    split at hg <;> try (cases hg; done)
    rename_i hok
    cases hg
    obtain ⟨h1, h2⟩ := rangeOf_some hx
    exact rangeF_sound hE hz hC hD hTb (rangeOk_of (f := f) (by rw [h1]; exact hTb.has f fn hfn) (by rw [h1]; exact h2) hok) e
noncomputable def layerB (P : Program) (G : Nat) (FT : FuncId → Option Func) (enters : FuncId → FKind) (K d : Nat) : Nat → CallB
  | 0 => callB P enters FT noneK (drawB P enters) K d
  | n + 1 => callB P enters FT (richK P G FT enters (layerB P G FT enters K d n) (drawB P enters (layerB P G FT enters K d n)) K) (drawB P enters) K d
theorem layerB_sound {G : Nat} {FT : FuncId → Option Func} {enters : FuncId → FKind} (hE : Enters P enters) (hz : ZF P) (hTb : Table P G enters FT) (hpl : ∀ f fn c, FT f = some fn → fn.body = some c → plansOk P c = true) (K d : Nat) : ∀ n, CallSound P G (callOf (layerB P G FT enters K d n)) := by
  intro n
  induction n with
  | zero => exact callB_sound hE hz hTb noneK_sound hpl (fun _ h => drawB_sound hE hz h) K d
  | succ n ih => exact callB_sound hE hz hTb (richK_sound hE hz ih (drawB_sound hE hz ih) hTb hpl) hpl (fun _ h => drawB_sound hE hz h) K d
end
end Go.Ab
namespace Go.Ab
open Go Go.RowKit
section
variable {P : Program}

/-! ## Rows that are put by, and taken up again -/
/-- A row's block is kept from now on; its number names a block of which nothing is said. -/
theorem Rel.shelve {B : Base} {m : Mu} {h : AHeap} {w : World} (hr : Rel P B m h w) {b : Nat} {l : Loc} (hb : h.get b ≠ .dead) (hno : isRo (h.get b) = false) (hl : m b = some l) :
    ∃ o, w.heap[l.blk]? = some o ∧ B.prot l.blk = none ∧ Rel P (B.with l.blk o) m (h.put b .dead) w := by
  obtain ⟨l', h1, h2, h3⟩ := hr.obj b hb
  rw [hl] at h1
  obtain rfl := Option.some.inj h1
  obtain ⟨o, ho⟩ := hr.world_some hb hl
  have hnone := protOf_none h2 hno
  refine ⟨o, ho, hnone, (hr.kill b).own l.blk rfl rfl rfl rfl rfl rfl (fun c hc l2 hl2 e => ?_) (fun _ _ _ hx => hx) (fun k hk => by simp [Base.with, hk]) (fun x hx => by rw [with_prot] at hx; cases hx; exact ho)⟩
  have hcb : c ≠ b := by
    rintro rfl
    exact hc (by rw [AHeap.get_put, if_pos rfl])
  rw [AHeap.get_put, if_neg hcb] at hc
  exact hcb (hr.sep c b l2 l hc hb hno hl2 hl e)
/-- A row is taken up again under its number. -/
theorem Rel.unshelve {B : Base} {m : Mu} {h : AHeap} {w : World} {b : Nat} {l : Loc} {o : Obj} {ob : AObj} (hr : Rel P (B.with l.blk o) m h w) (hB : B.prot l.blk = none) (hd : h.get b = .dead) (hb : b < h.next ∨ h.lim ≤ b) (hl : m b = some l) (hne : ∀ c, h.get c ≠ .dead → ∀ l', m c = some l' → l'.blk ≠ l.blk)
    (hno : isRo ob = false) (hok : OKObj P m l w ob) : Rel P B m (h.put b ob) w := by
  have r2 : Rel P B m h w := hr.own l.blk rfl rfl rfl rfl rfl rfl hne (fun _ _ _ hx => hx) (fun k hk => by simp [Base.with, hk]) (fun x hx => by rw [hB] at hx; cases hx)
  refine ⟨r2.os, r2.tape, r2.output, r2.prot, fun c hc => ?_, fun c c' l1 l2 hc hc' hro h1 h2 e => ?_, fun c h1 h2 => ?_⟩
  · by_cases e : c = b
    · subst e
      rw [AHeap.get_put, if_pos rfl]
      exact ⟨l, hl, by rw [hB]; exact protOf_mk (fun q => by rw [hno] at q; cases q) (fun _ => rfl), hok⟩
    · rw [AHeap.get_put, if_neg e] at hc ⊢
      exact r2.obj c hc
  · by_cases e1 : c = b
    · by_cases e2 : c' = b
      · rw [e1, e2]
      · rw [AHeap.get_put, if_neg e2] at hc'
        subst e1
        rw [hl] at h1
        obtain rfl := Option.some.inj h1
        exact absurd e.symm (hne c' hc' l2 h2)
    · rw [AHeap.get_put, if_neg e1] at hc
      by_cases e2 : c' = b
      · subst e2
        rw [hl] at h2
        obtain rfl := Option.some.inj h2
        exact absurd e (hne c hc l1 h1)
      · rw [AHeap.get_put, if_neg e2] at hc' hro
        exact r2.sep c c' l1 l2 hc hc' hro h1 h2 e
  · have h1' : h.next ≤ c := h1
    have h2' : c < h.lim := h2
    have hcb : c ≠ b := by
      rintro rfl
      rcases hb with hb | hb <;> omega
    rw [AHeap.get_put, if_neg hcb]
    exact r2.fresh c h1' h2'
end
end Go.Ab
namespace Go.Ab
open Go Go.RowKit
section
variable {P : Program}

/-! ## Code that panics -/
abbrev PanF := FuncId → Array Value → AHeap → Option (Value × AHeap)
def PanicSound (P : Program) (G : Nat) (pf : PanF) : Prop := ∀ f args h v h', pf f args h = some (v, h') → Nx h h' ∧
  ∀ (B : Base) m args' w, ARel m args args' → Rel P B m h w → GRel G m →
    Calls P f args' w (fun e w' => ∃ v' m', e = .panicked [{ v := v', recovered := false }] ∧ Ext h m m' ∧ Rel P B m' h' w' ∧ VRel m' v v')
/-- With what, and where: of the slots in 'ex' nothing is known. -/
structure PO where
  v : Value
  T : Tree Value
  ex : List Nat
  h : AHeap
def inX (ex : List Nat) (t : Nat) : Bool := ex.any fun x => Nat.beq x t
structure TRelX (m : Mu) (n : Nat) (ex : List Nat) (T : Tree Value) (tmps : Array Value) : Prop where
  size : tmps.size = n
  rel : ∀ t, inX ex t = false → VRel m (Tget T t) (tmps.getD t undef)
theorem TRel.toX {m : Mu} {n : Nat} {T : Tree Value} {tmps : Array Value} (h : TRel m n T tmps) (ex : List Nat) : TRelX m n ex T tmps := ⟨h.size, fun t _ => h.rel t⟩
noncomputable def panOp (enters : FuncId → FKind) (PB : PanF) (o : Oper) (T : Tree Value) (h : AHeap) : Option (Value × AHeap) := match o.guard with
  | some _ => none
  | none => match o.op with
    | .panic x => match (rdB x).un T with | .iface t v => some (.iface t v, h) | _ => none
    | .call c => match c.callee with
      | .value f => match (rdB f).un T with
        | .func (.func g) first cap => match enters g with
          | .enter => PB g (appV (appV first ((argsB c.args.toList).un T)) (listOf cap)) h
          | _ => none
        | _ => none
      | _ => none
    | _ => none
theorem panOp_next {G : Nat} {enters : FuncId → FKind} {PB : PanF} (hP : PanicSound P G PB) {o : Oper} {T : Tree Value} {h h' : AHeap} {v : Value} (e : panOp enters PB o T h = some (v, h')) : Nx h h' := by
  unfold panOp at e
  repeat' split at e
  all_goals first
    | (cases e; done)
    | (cases e; exact Nx.refl _)
    | exact (hP _ _ _ _ _ e).1
theorem panOp_soundR {B : Base} {G : Nat} {enters : FuncId → FKind} {PB : PanF} (hE : Enters P enters) (hP : PanicSound P G PB) {o : Oper} {T : Tree Value} {h h' : AHeap} {v : Value} (e : panOp enters PB o T h = some (v, h')) {m : Mu} {a : Act} {w : World}
    (hρ : ∀ x ∈ o.op.operands.toList, VRel m (rhoA T x) (a.eval x)) (hr : Rel P B m h w) (hG : GRel G m) {K : Act → World → Prop} {Q : Exit → Act → World → Prop}
    (hQ : ∀ m' w' v', Ext h m m' → Rel P B m' h' w' → VRel m' v v' → Q (.panic [{ v := v', recovered := false }]) a w') : o.guard = none ∧ o.wp P a w K Q := by
  unfold panOp at e
  split at e <;> try (cases e; done)
  rename_i hg
  refine ⟨hg, ?_⟩
  unfold Oper.wp
  split at e <;> try (cases e; done)
  · rename_i x ho
    split at e <;> try (cases e; done)
    rename_i t v0 hx
    simp only [Option.some.injEq, Prod.mk.injEq] at e
    obtain ⟨rfl, rfl⟩ := e
    rw [rdB_eq] at hx
    have hv := hρ x (by rw [ho]; simp [Op.operands])
    rw [hx] at hv
    obtain ⟨v', hev, hv'⟩ : ∃ v', a.eval x = .iface t v' ∧ VRel m (.iface t v0) (.iface t v') := by
      generalize a.eval x = z at hv
      cases hv with
      | iface _ _ v' h1 => exact ⟨v', rfl, .iface t v0 v' h1⟩
    have hrun : (execOp a.eval o).run P w = .halt (.panic (.iface t v')) w := by
      unfold execOp
      rw [ho]
      simp only [hev, Instr.panic]
      rfl
    rw [hrun, Oper.upon_panic]
    exact hQ m w _ (Ext.refl _ m) hr hv'
  · rename_i c ho
    split at e <;> try (cases e; done)
    rename_i f hc
    split at e <;> try (cases e; done)
    rename_i g first cap hf
    split at e <;> try (cases e; done)
    rename_i hen
    rw [rdB_eq] at hf
    have hv := hρ f (by rw [ho]; simp [Op.operands, Call.operands, hc])
    rw [hf] at hv
    obtain ⟨first', cap', hev, hfi, hca⟩ : ∃ first' cap', a.eval f = .func (.func g) first' cap' ∧ ARel m first first' ∧ ARel m cap cap' := by
      generalize a.eval f = z at hv
      cases hv with
      | func f a a' c c' h1 h2 h3 h4 => exact ⟨_, _, rfl, ⟨h1, h2⟩, ⟨h3, h4⟩⟩
    have hargs : ARel m (appV (appV first ((argsB c.args.toList).un T)) (listOf cap)) (first' ++ c.args.map a.eval ++ cap') := by
      rw [appV_eq, appV_eq, argsB_eq, listOf_eq]
      refine (ARel.append hfi ⟨by simp, fun i hi hi' => ?_⟩).append ?_
      · simp only [List.getElem_toArray, List.getElem_map, Array.getElem_map, Array.getElem_toList]
        refine hρ _ ?_
        rw [ho]
        simp only [Op.operands, Call.operands, Array.toList_append, List.mem_append]
        exact .inr (Array.mem_toList_iff.2 (Array.getElem_mem _))
      · rw [Array.toArray_toList]; exact hca
    have hrun : (execOp a.eval o).run P w = .ok (.enter g (first' ++ c.args.map a.eval ++ cap')) w := by
      unfold execOp
      rw [ho]
      simp only [resolve, hc, hev, Deferred.ofValue, pure_bind, invoke]
      exact (hE g).1 hen _ _
    rw [hrun, Oper.upon_enter]
    refine ((hP _ _ _ _ _ e).2 B m _ w hargs hr hG).mono ?_
    rintro e w2 ⟨v', m2, rfl, c2, c3, c4⟩
    exact hQ m2 w2 v' c2 c3 c4
theorem panOp_sound {B : Base} {G n : Nat} {enters : FuncId → FKind} {PB : PanF} (hE : Enters P enters) (hP : PanicSound P G PB) {o : Oper} {T : Tree Value} {h h' : AHeap} {v : Value} (e : panOp enters PB o T h = some (v, h')) {m : Mu} {a : Act} {w : World}
    (hT : TRel m n T a.tmps) (hr : Rel P B m h w) (hG : GRel G m) (hok : opOk G n o = true) {K : Act → World → Prop} {Q : Exit → Act → World → Prop}
    (hQ : ∀ m' w' v', Ext h m m' → Rel P B m' h' w' → VRel m' v v' → Q (.panic [{ v := v', recovered := false }]) a w') : o.guard = none ∧ o.wp P a w K Q := by
  have hρ : ∀ x ∈ o.op.operands.toList, VRel m (rhoA T x) (a.eval x) := fun x hx => by
    unfold opOk at hok
    simp only [Bool.and_eq_true] at hok
    exact rho_rel hT hG (List.all_eq_true.1 hok.1 x hx)
  exact panOp_soundR hE hP e hρ hr hG hQ
noncomputable def opsP (P : Program) (enters : FuncId → FKind) (CB : CallB) (PB : PanF) (ops : Array Oper) : List Oper → Tree Value → AHeap → Option PO
  | [], _, _ => none
  | o :: rest, T, h => match (stepB P enters CB ops o).un T h with
    | some (v, h') => opsP P enters CB PB ops rest ((putB o.dst).un T v) h'
    | none => match panOp enters PB o T h with
      | some (v, h') => some ⟨v, T, [], h'⟩
      | none => none
theorem opsP_next {G : Nat} {enters : FuncId → FKind} {CB : CallB} {PB : PanF} (hC : CallSound P G (callOf CB)) (hP : PanicSound P G PB) {ops : Array Oper} : ∀ (L : List Oper) (T : Tree Value) (h : AHeap) (r : PO), opsP P enters CB PB ops L T h = some r → Nx h r.h := by
  intro L
  induction L with
  | nil => intro T h r e; cases e
  | cons o L ih =>
    intro T h r e
    simp only [opsP] at e
    split at e
    · rename_i v h2 h1
      exact (stepA_next hC (stepB_some h1)).trans (ih _ _ _ e)
    · split at e
      · rename_i v h2 h1; cases e; exact panOp_next hP h1
      · cases e
theorem opsP_sound {B : Base} {G n : Nat} {enters : FuncId → FKind} {CB : CallB} {PB : PanF} (hE : Enters P enters) (hz : ZF P) (hC : CallSound P G (callOf CB)) (hP : PanicSound P G PB) {ops : Array Oper}
    (hd : ∀ (j : Nat) (d : Nat), (ops[j]?).bind (·.dst) = some d → d < n) {Q : Exit → Act → World → Prop} : ∀ (L : List Oper) (T : Tree Value) (h : AHeap) (r : PO) (m : Mu) (a : Act) (w : World),
    L.all (opOk G n) = true → opsP P enters CB PB ops L T h = some r → TRel m n T a.tmps → Rel P B m h w → GRel G m →
    (∀ m' a' w' v', Ext h m m' → TRelX m' n r.ex r.T a'.tmps → a'.defers = a.defers → Rel P B m' r.h w' → VRel m' r.v v' → Q (.panic [{ v := v', recovered := false }]) a' w') → wpList P ops Q L a w := by
  intro L
  induction L with
  | nil => intro T h r m a w _ e; cases e
  | cons o L ih =>
    intro T h r m a w hl e hT hr hG hQ
    simp only [List.all_cons, Bool.and_eq_true] at hl
    have hdo : ∀ d, o.dst = some d → d < n := by
      intro d e
      have := hl.1
      unfold opOk at this
      rw [e] at this
      simp only [Bool.and_eq_true, Nat.blt_eq] at this
      exact this.2
    simp only [opsP] at e
    split at e
    · rename_i v h2 h1
      have h1 := stepB_some h1
      have q := stepA_next hC h1
      have hs := stepA_sound (B := B) hE hz hC h1 hT hr hG hl.1 hd (Q := Q) (K := wpList P ops Q L) (fun m' v' w' c1 c2 c3 => by
        refine ih _ _ _ m' (a.put o.dst v') w' hl.2 e ?_ c2 (hG.mono c1.1) ?_
        · rw [putB_eq]; exact (hT.mono c1.1).put hdo c3
        · intro m2 a2 w2 v2 d1 d2 d3 d4 d5
          refine hQ m2 a2 w2 v2 (c1.trans d1 q.1 q.2.1) d2 (d3.trans ?_) d4 d5
          cases o.dst <;> rfl)
      unfold wpList
      split
      · rename_i hw; rw [if_pos hw] at hs; exact .inl hs
      · rename_i hw; rw [if_neg hw] at hs; exact hs
    · split at e
      · rename_i v h2 h1
        obtain rfl := Option.some.inj e
        obtain ⟨hg, hs⟩ := panOp_sound (B := B) hE hP h1 hT hr hG hl.1 (K := wpList P ops Q L) (Q := Q) fun m' w' v' c1 c2 c3 => hQ m' a w' v' c1 ((hT.mono c1.1).toX []) rfl c2 c3
        unfold wpList
        rw [if_pos (by unfold Region.wanted; rw [hg])]
        exact .inl hs
      · cases e

abbrev DrawP := Array Oper → Tree Value → AHeap → Option PO
def DrawPGood (P : Program) (G : Nat) (DP : DrawP) : Prop := ∀ ops T h r, planOk P ops (masksGo ops.toList []) ops.size = true → DP ops T h = some r → Nx h r.h ∧
  ∀ (B : Base) m n id a w (Q : Exit → Act → World → Prop), ops.toList.all (opOk G n) = true → TRel m n T a.tmps → Rel P B m h w → GRel G m →
    (∀ m' a' w' v', Ext h m m' → TRelX m' n r.ex r.T a'.tmps → a'.defers = a.defers → Rel P B m' r.h w' → VRel m' r.v v' → Q (.panic [{ v := v', recovered := false }]) a' w') → (Code.region id ops true).wp P Q a w
noncomputable def loopP (f : Tree Value → AHeap → RC) (g : Tree Value → AHeap → Option PO) (K : Nat) : Tree Value → AHeap → Option PO :=
  Nat.rec (motive := fun _ => Tree Value → AHeap → Option PO) (fun _ _ => none) (fun _ ih T h => match f T h with | .normal T' h' => ih T' h' | .none => g T h | _ => none) K
noncomputable def codeP (P : Program) (enters : FuncId → FKind) (CB : CallB) (DB : DrawB) (PB : PanF) (DP : DrawP) (K : Nat) : Code → Box (Tree Value → AHeap → Option PO)
  | .region _ ops false => ⟨fun T h => opsP P enters CB PB ops ops.toList T h⟩
  | .region _ ops true => ⟨fun T h => DP ops T h⟩
  | .seq a b => ⟨fun T h => match (codeB P enters CB DB K a).un T h with | .normal T' h' => (codeP P enters CB DB PB DP K b).un T' h' | .none => (codeP P enters CB DB PB DP K a).un T h | _ => none⟩
  | .cond c a b => ⟨fun T h => match (rdB c).un T with | .bool true => (codeP P enters CB DB PB DP K a).un T h | .bool false => (codeP P enters CB DB PB DP K b).un T h | _ => none⟩
  | .block _ c => codeP P enters CB DB PB DP K c
  | .loop c => ⟨fun T h => loopP (codeB P enters CB DB K c).un (codeP P enters CB DB PB DP K c).un K T h⟩
  | _ => ⟨fun _ _ => none⟩
def PGood (P : Program) (G n : Nat) (c : Code) (T : Tree Value) (h : AHeap) (r : PO) : Prop := Nx h r.h ∧
  ∀ (B : Base) (m : Mu) (a : Act) (w : World) (Q : Exit → Act → World → Prop), codeOk G n c = true → TRel m n T a.tmps → Rel P B m h w → GRel G m →
    (∀ m' a' w' v', Ext h m m' → TRelX m' n r.ex r.T a'.tmps → a'.defers = a.defers → Rel P B m' r.h w' → VRel m' r.v v' → Q (.panic [{ v := v', recovered := false }]) a' w') → c.wp P Q a w
def PRounds (P : Program) (G n : Nat) (c : Code) (k : Nat) (T : Tree Value) (h : AHeap) (r : PO) : Prop := Nx h r.h ∧
  ∀ (B : Base) (m : Mu) (a : Act) (w : World) (Q : Exit → Act → World → Prop), codeOk G n c = true → TRel m n T a.tmps → Rel P B m h w → GRel G m →
    (∀ m' a' w' v', Ext h m m' → TRelX m' n r.ex r.T a'.tmps → a'.defers = a.defers → Rel P B m' r.h w' → VRel m' r.v v' → Q (.panic [{ v := v', recovered := false }]) a' w') → Code.rounds P c Q k a w
theorem codeP_sound {G n : Nat} {enters : FuncId → FKind} {CB : CallB} {DB : DrawB} {PB : PanF} {DP : DrawP} (hE : Enters P enters) (hz : ZF P) (hC : CallSound P G (callOf CB)) (hD : DrawGood P G (fun ops T h => (DB ops).un T h)) (hP : PanicSound P G PB) (hDP : DrawPGood P G DP) (K : Nat) :
    ∀ (c : Code), plansOk P c = true → ∀ (T : Tree Value) (h : AHeap) (r : PO), (codeP P enters CB DB PB DP K c).un T h = some r → PGood P G n c T h r := by
  intro c
  induction c with
  | region id ops d =>
    intro hpl T h r q
    cases d with
    | false => exact ⟨opsP_next hC hP _ _ _ _ q, fun B m a w Q hok hT hr hG hQ => wp_region_list (opsP_sound hE hz hC hP (dst_of_ok hok) _ _ _ _ m a w hok q hT hr hG hQ)⟩
    | true =>
      obtain ⟨q1, q2⟩ := hDP _ _ _ _ hpl q
      exact ⟨q1, fun B m a w Q hok hT hr hG hQ => q2 B m n id a w Q hok hT hr hG hQ⟩
  | seq x y ihx ihy =>
    intro hpl T h r q
    simp only [plansOk, Bool.and_eq_true] at hpl
    simp only [codeP] at q
    split at q
    · rename_i T2 h2 h1
      obtain ⟨q1, q2⟩ := codeB_sound (n := n) hE hz hC hD K x hpl.1 _ _ .normal _ _ h1
      obtain ⟨r1, r2⟩ := ihy hpl.2 _ _ _ q
      refine ⟨q1.trans r1, fun B m a w Q hok hT hr hG hQ => wp_seq ?_⟩
      simp only [codeOk, Bool.and_eq_true] at hok
      refine q2 B m a w _ hok.1 hT hr hG ?_
      intro m' a' w' c1 c2 c3 c4
      refine r2 B m' a' w' Q hok.2 c2 c4 (hG.mono c1.1) ?_
      intro m2 a2 w2 v2 d1 d2 d3 d4 d5
      exact hQ m2 a2 w2 v2 (c1.trans d1 q1.1 q1.2.1) d2 (d3.trans c3) d4 d5
    · obtain ⟨q1, q2⟩ := ihx hpl.1 _ _ _ q
      refine ⟨q1, fun B m a w Q hok hT hr hG hQ => wp_seq ?_⟩
      simp only [codeOk, Bool.and_eq_true] at hok
      exact q2 B m a w _ hok.1 hT hr hG fun m2 a2 w2 v2 d1 d2 d3 d4 d5 => hQ m2 a2 w2 v2 d1 d2 d3 d4 d5
    · cases q
  | cond c0 x y ihx ihy =>
    intro hpl T h r q
    simp only [plansOk, Bool.and_eq_true] at hpl
    simp only [codeP] at q
    split at q
    · rename_i hb0
      rw [rdB_eq] at hb0
      obtain ⟨q1, q2⟩ := ihx hpl.1 _ _ _ q
      refine ⟨q1, fun B m a w Q hok hT hr hG hQ => ?_⟩
      simp only [codeOk, Bool.and_eq_true] at hok
      have hb := rho_rel (a := a) hT hG hok.1.1
      rw [hb0] at hb
      refine wp_cond_true ?_ (q2 B m a w Q hok.1.2 hT hr hG hQ)
      generalize a.eval c0 = z at hb ⊢
      cases hb; rfl
    · rename_i hb0
      rw [rdB_eq] at hb0
      obtain ⟨q1, q2⟩ := ihy hpl.2 _ _ _ q
      refine ⟨q1, fun B m a w Q hok hT hr hG hQ => ?_⟩
      simp only [codeOk, Bool.and_eq_true] at hok
      have hb := rho_rel (a := a) hT hG hok.1.1
      rw [hb0] at hb
      refine wp_cond_false ?_ (q2 B m a w Q hok.2 hT hr hG hQ)
      generalize a.eval c0 = z at hb ⊢
      cases hb; rfl
    · cases q
  | block id c0 ih =>
    intro hpl T h r q
    obtain ⟨q1, q2⟩ := ih hpl _ _ _ q
    exact ⟨q1, fun B m a w Q hok hT hr hG hQ => wp_block (q2 B m a w _ hok hT hr hG fun m2 a2 w2 v2 d1 d2 d3 d4 d5 => hQ m2 a2 w2 v2 d1 d2 d3 d4 d5)⟩
  | loop c0 ih =>
    intro hpl T h r q
    replace ih := ih hpl
    have key : ∀ (k : Nat) (T : Tree Value) (h : AHeap) (r : PO), loopP (codeB P enters CB DB K c0).un (codeP P enters CB DB PB DP K c0).un k T h = some r → PRounds P G n c0 k T h r := by
      intro k
      induction k with
      | zero => intro T h r q; cases q
      | succ k ihk =>
        intro T h r q
        have q' : (match (codeB P enters CB DB K c0).un T h with | .normal T' h' => loopP (codeB P enters CB DB K c0).un (codeP P enters CB DB PB DP K c0).un k T' h' | .none => (codeP P enters CB DB PB DP K c0).un T h | _ => none) = some r := q
        split at q'
        · rename_i T2 h2 h1
          obtain ⟨q1, q2⟩ := codeB_sound (n := n) hE hz hC hD K c0 hpl _ _ .normal _ _ h1
          obtain ⟨r1, r2⟩ := ihk _ _ _ q'
          refine ⟨q1.trans r1, fun B m a w Q hok hT hr hG hQ => ?_⟩
          rw [rounds_succ]
          refine q2 B m a w _ hok hT hr hG ?_
          intro m' a' w' c1 c2 c3 c4
          refine r2 B m' a' w' Q hok c2 c4 (hG.mono c1.1) ?_
          intro m2 a2 w2 v2 d1 d2 d3 d4 d5
          exact hQ m2 a2 w2 v2 (c1.trans d1 q1.1 q1.2.1) d2 (d3.trans c3) d4 d5
        · obtain ⟨q1, q2⟩ := ih _ _ _ q'
          refine ⟨q1, fun B m a w Q hok hT hr hG hQ => ?_⟩
          rw [rounds_succ]
          exact q2 B m a w _ hok hT hr hG fun m2 a2 w2 v2 d1 d2 d3 d4 d5 => hQ m2 a2 w2 v2 d1 d2 d3 d4 d5
        · cases q'
    obtain ⟨q1, q2⟩ := key K T h r q
    exact ⟨q1, fun B m a w Q hok hT hr hG hQ => wp_loop_rounds K (q2 B m a w Q hok hT hr hG hQ)⟩
  | _ => intro _ T h r q; cases q
/-! ## Functions that panic -/
noncomputable def panF (P : Program) (FT : FuncId → Option Func) (enters : FuncId → FKind) (CB : CallB) (DB : DrawB) (PB : PanF) (DP : DrawP) (K : Nat) : PanF := fun f args h => match FT f with
  | some fn => match fn.body with
    | some c => match Nat.ble (lenV (listOf args)) fn.ntmps with
      | true => match (codeP P enters CB DB PB DP K c).un (treeOfB (listOf args) 0 .leaf) h with
        | some r => some (r.v, r.h)
        | none => none
      | false => none
    | none => none
  | none => none
theorem panF_sound {G : Nat} {enters : FuncId → FKind} {FT : FuncId → Option Func} {CB : CallB} {DB : DrawB} {PB : PanF} {DP : DrawP} (hE : Enters P enters) (hz : ZF P) (hC : CallSound P G (callOf CB)) (hD : DrawGood P G (fun ops T h => (DB ops).un T h)) (hP : PanicSound P G PB) (hDP : DrawPGood P G DP) (hTb : Table P G enters FT)
    (hpl : ∀ f fn c, FT f = some fn → fn.body = some c → plansOk P c = true) (K : Nat) : PanicSound P G (panF P FT enters CB DB PB DP K) := by
  intro f args h v h' e
  unfold panF at e
  split at e <;> try (cases e; done)
  rename_i fn hfn
  split at e <;> try (cases e; done)
  rename_i c hc
  split at e <;> try (cases e; done)
  rename_i hsz
  split at e <;> try (cases e; done)
  rename_i r q
  cases e
  rw [Nat.ble_eq, lenV_eq, listOf_eq] at hsz
  rw [listOf_eq, initT_self] at q
  obtain ⟨q1, q2⟩ := codeP_sound (n := fn.ntmps) hE hz hC hD hP hDP K c (hpl f fn c hfn hc) _ _ _ q
  refine ⟨q1, fun B m args' w ha hr hG => ?_⟩
  refine calls_of_wp (hTb.has f fn hfn) hc (q2 B m _ w _ (hTb.code f fn c hfn hc) (initT_rel ha hsz) hr hG ?_)
  intro m' a' w' v' c1 c2 c3 c4 c5
  exact ⟨c3, v', m', rfl, c1, c4, c5⟩
noncomputable def panB (P : Program) (FT : FuncId → Option Func) (enters : FuncId → FKind) (CB : CallB) (DB : DrawB) (DP : PanF → DrawP) (K : Nat) : Nat → PanF
  | 0 => fun _ _ _ => none
  | d + 1 => panF P FT enters CB DB (panB P FT enters CB DB DP K d) (DP (panB P FT enters CB DB DP K d)) K
theorem panB_sound {G : Nat} {enters : FuncId → FKind} {FT : FuncId → Option Func} {CB : CallB} {DB : DrawB} {DP : PanF → DrawP} (hE : Enters P enters) (hz : ZF P) (hC : CallSound P G (callOf CB)) (hD : DrawGood P G (fun ops T h => (DB ops).un T h)) (hDP : ∀ pf, PanicSound P G pf → DrawPGood P G (DP pf)) (hTb : Table P G enters FT)
    (hpl : ∀ f fn c, FT f = some fn → fn.body = some c → plansOk P c = true) (K : Nat) : ∀ d, PanicSound P G (panB P FT enters CB DB DP K d) := by
  intro d
  induction d with
  | zero => intro f args h v h' e; cases e
  | succ d ih => exact panF_sound hE hz hC hD ih (hDP _ ih) hTb hpl K
end
end Go.Ab
