import Derived.Test.YtnedmhlecdibfaaDoorAbFg
namespace Go.Ab
open Go
section
variable {P : Program}

/-! ## A region that draws its order, quickly -/
theorem runR_bind {α β : Type} (s : Sem α) (f : α → Sem β) (h : AHeap) : (s >>= f).runR P h = match s.runR P h with | some a => (f a).runR P h | none => none := by
  show (s.bind f).runR P h = _
  induction s generalizing h with
  | pure a => rfl
  | load md a k ih =>
    simp only [Sem.bind, Sem.runR]
    cases h.cell? a with
    | none => rfl
    | some v => exact ih v h
  | getObj r k ih =>
    simp only [Sem.bind, Sem.runR]
    cases h.get r with
    | map es c => exact ih _ h
    | iter s p => exact ih _ h
    | _ => rfl
  | program k ih => exact ih P h
  | mark md k ih => exact ih h
  | _ => rfl
theorem runP_runR {α : Type} {s : Sem α} : ∀ {a : α}, s.runP P = some a → ∀ h, s.runR P h = some a := by
  induction s with
  | pure a => intro b e h; simp only [Sem.runP, Option.some.injEq] at e; subst e; rfl
  | program k ih => intro b e h; exact ih P e h
  | mark md k ih => intro b e h; exact ih e h
  | _ => intro b e h; simp [Sem.runP] at e
theorem runR_bind_some {α β : Type} {s : Sem α} {f : α → Sem β} {a : α} {h : AHeap} (e : s.runR P h = some a) : (s >>= f).runR P h = (f a).runR P h := by rw [runR_bind, e]
theorem runP_self {α : Type} {s : Sem α} {a : α} (e : (s >>= fun x => (Pure.pure x : Sem α)).runP P = some a) : s.runP P = some a := by
  rw [runP_bind] at e
  cases h : s.runP P with
  | none => rw [h] at e; cases e
  | some b => rw [h] at e; exact e
theorem pureAgg {t : TypeId} {d : TypeDesc} (h : P.underlying t = some d) : (Go.isAgg t).runP P = some (isAggD d) := by
  have := runP_isAgg h (fun x => (Pure.pure x : Sem Bool))
  exact runP_self (this.trans rfl)
theorem pureSize {t : TypeId} {i : TypeInfo} (h : P.info? t = some i) : (Go.sizeOf t).runP P = some i.size := by
  have := runP_size h (fun x => (Pure.pure x : Sem Nat))
  exact runP_self (this.trans rfl)
theorem runR_load (a : Addr) (hp : AHeap) : (Go.load a).runR P hp = hp.cell? a := by
  unfold Go.load
  simp only [Sem.runR]
  cases hp.cell? a <;> rfl
theorem runR_loadCellsFrom {h : AHeap} {b o : Nat} {c : Row} {e : TypeId} (hb : h.get b = .cells c e) : ∀ (n i : Nat) (acc : Array Value), o + i + n ≤ c.len →
    (Go.loadCellsFrom ⟨b, o, none⟩ i n acc).runR P h = some (acc ++ (c.part (o + i) n).toArray) := by
  intro n
  induction n with
  | zero => intro i acc _; simp [Go.loadCellsFrom, Row.part]; rfl
  | succ n ih =>
    intro i acc hl
    have hc : h.cell? ⟨b, o + i, none⟩ = some (c.t.get undef (o + i)) := by
      simp only [AHeap.cell?, hb]
      rw [Row.get?_eq, if_pos (by omega)]
    unfold Go.loadCellsFrom
    rw [add_none, runR_bind_some (by rw [runR_load, hc]), ih (i + 1) _ (by omega)]
    simp only [Row.part]
    congr 1
    apply Array.ext'
    simp [Nat.add_assoc]
theorem ldB_runR {t : TypeId} {v r : Value} {h : AHeap} (e : (ldB P t).un v h = some r) : (Instr.loadAt t v).runR P h = some r := by
  unfold ldB at e
  split at e
  · rename_i d i hd hi
    split at e
    · rename_i hag
      dsimp only at e
      obtain ⟨b, o, rfl, e2⟩ := vPtr_some e
      rw [heapGet_eq] at e2
      split at e2
      · rename_i c t' hb
        rw [rowGet_eq] at e2
        unfold Instr.loadAt Instr.sureAddr Go.loadVar
        rw [pure_bind, runR_bind_some (runP_runR (pureAgg hd) h), hag]
        simp only [Bool.false_eq_true, if_false]
        rw [runR_load]
        simp only [AHeap.cell?, hb, e2]
      · cases e2
    · rename_i hag
      dsimp only at e
      obtain ⟨b, o, rfl, e2⟩ := vPtr_some e
      rw [heapGet_eq] at e2
      split at e2
      · rename_i c t' hb
        obtain ⟨n, tr⟩ := c
        dsimp only at e2
        split at e2
        · rename_i hl
          rw [Nat.ble_eq] at hl
          obtain rfl := Option.some.inj e2
          unfold Instr.loadAt Instr.sureAddr Go.loadVar
          rw [pure_bind, runR_bind_some (runP_runR (pureAgg hd) h), hag]
          simp only [if_true]
          have hcells : (Go.loadCells ⟨b, o, none⟩ i.size).runR P h = some (((⟨n, tr⟩ : Row).part o i.size).toArray) := by
            unfold Go.loadCells
            rw [runR_loadCellsFrom hb i.size 0 _ hl]
            simp
          rw [runR_bind_some (runP_runR (pureSize hi) h), runR_bind_some hcells]
          have := partB_eq ⟨n, tr⟩ i.size o
          dsimp only at this
          rw [this]; rfl
        · cases e2
      · cases e2
  · cases e

/-! ### Operations that look at no memory -/
def lenPure (P : Program) (ts : Array TypeId) : Bool := match ts[0]? with
  | some t => match P.underlying t with
    | some .string | some (.slice _) | some (.array _ _) => true
    | _ => false
  | none => false
def isPureOp (P : Program) (o : Oper) : Bool := match o.op with
  | .move _ | .assign _ | .pick .. | .nilCheck _ | .binOp .. | .unOp .. | .makeInterface .. | .makeFunc .. | .slice .. | .fieldAddr .. | .field .. | .indexAddr .. | .index .. | .extract .. => true
  | .convert _ dst _ => match P.underlying dst with | some (.int _) => true | _ => false
  | .call c => match c.callee with
    | .builtin .len => lenPure P c.argTypes
    | .builtin .min | .builtin .max => true
    | _ => false
  | _ => false
def opPure (P : Program) (ρ : Operand → Value) (o : Oper) : Option Value :=
  match o.op with
  | .move x | .assign x => some (ρ x)
  | .pick c a b => match ρ c with | .bool t => some (if t then ρ a else ρ b) | _ => none
  | .nilCheck x => match ρ x with | .pointer (some a) => some (.pointer (some a)) | _ => none
  | .binOp op t x y _ =>
    if flatV (ρ x) && flatV (ρ y) then outPv (Sem.runP P (do eqGuard op t x y (ρ x) (ρ y); binOp op t (ρ x) (ρ y)))
    else nilEqA P op t (ρ x) (ρ y)
  | .unOp op _ x => if flatV (ρ x) then outPv (Sem.runP P (Op.unary op (ρ x))) else none
  | .makeInterface t x => (Instr.makeInterface t (ρ x)).runP P
  | .makeFunc fn a c => (Instr.makeFunc fn (a.map ρ) (c.map ρ)).runP P
  | .slice t x lo hi mx =>
    if optFlat (lo.map ρ) && optFlat (hi.map ρ) && optFlat (mx.map ρ) then
    match ρ x with
    | .string s => outPv (Sem.runP P (Instr.sliceAt t (.string s) (lo.map ρ) (hi.map ρ) (mx.map ρ)))
    | v => sliceA P t v (lo.map ρ) (hi.map ρ) (mx.map ρ)
    else none
  | .fieldAddr s x f => (Instr.fieldAt s (ρ x) f).runP P
  | .field s x f => (Instr.field s (ρ x) f).runP P
  | .indexAddr t x i => (Instr.indexAt t (ρ x) (ρ i)).runP P
  | .index t x i => (Instr.index t (ρ x) (ρ i)).runP P
  | .extract x i => (Instr.extract (ρ x) i).runP P
  | .call c =>
    match c.callee with
    | .builtin .len => (Builtin.len_ c.argTypes o.type (c.args.map ρ)).runP P
    | .builtin .min => if (c.args.map ρ).toList.all flatV then outPv (Sem.runP P (Builtin.min_ c.argTypes o.type (c.args.map ρ))) else none
    | .builtin .max => if (c.args.map ρ).toList.all flatV then outPv (Sem.runP P (Builtin.max_ c.argTypes o.type (c.args.map ρ))) else none
    | _ => none
  | _ => none
theorem opPure_opR {ρ : Operand → Value} {o : Oper} {v : Value} (e : opPure P ρ o = some v) (h : AHeap) : opR P ρ o h = some v := by
  unfold opPure at e
  unfold opR
  split at e <;> (first | (rename_i q; rw [q]) | skip)
  all_goals first
    | exact e
    | exact runP_runR e h
    | (cases e; done)
    | skip
  rename_i c q
  dsimp only
  split at e <;> (first | (rename_i q2; rw [q2]) | skip)
  all_goals first
    | exact e
    | exact runP_runR e h
    | (cases e; done)
noncomputable def pureB (P : Program) (o : Oper) : Box (Tree Value → Option Value) :=
  match o.op with
  | .move x => ⟨fun T => some ((rdB x).un T)⟩
  | .assign x => ⟨fun T => some ((rdB x).un T)⟩
  | .nilCheck x => ⟨fun T => vPtr ((rdB x).un T) (fun b o => some (.pointer (some ⟨b, o, none⟩))) none⟩
  | .binOp op _ x y _ => ⟨fun T => match (binB op).un ((rdB x).un T) ((rdB y).un T) with | some v => some v | none => opPure P (rhoB T) o⟩
  | .convert src dst x => match P.underlying src, P.underlying dst with
    | some _, some (.int k) => ⟨fun T => vInt ((rdB x).un T) (fun _ n => some (.int k (wrapF k n))) none⟩
    | _, _ => ⟨fun T => opPure P (rhoB T) o⟩
  | .fieldAddr s x f => match faOff P s f with
    | some off => ⟨fun T => vPtr ((rdB x).un T) (fun b o => some (.pointer (some ⟨b, Nat.add o off, none⟩))) none⟩
    | none => ⟨fun T => opPure P (rhoB T) o⟩
  | .indexAddr t x i => ⟨fun T => (iaB P t).un ((rdB x).un T) ((rdB i).un T)⟩
  | .field s x f => ⟨fun T => (fdB P s f).un ((rdB x).un T)⟩
  | .call c => match c.callee with
    | .builtin .len => match c.args.toList with
      | [x] => ⟨fun T => (lnB P c.argTypes).un ((rdB x).un T)⟩
      | _ => ⟨fun T => opPure P (rhoB T) o⟩
    | _ => ⟨fun T => opPure P (rhoB T) o⟩
  | _ => ⟨fun T => opPure P (rhoB T) o⟩
theorem outPv_some {s : Option Value} {v : Value} (e : s = some v) (hf : flatV v = true) : outPv s = some v := by
  rw [e]; simp only [outPv, hf, if_true]
theorem pureB_some {o : Oper} {T : Tree Value} {v : Value} (e : (pureB P o).un T = some v) (h : AHeap) : opR P (rhoA T) o h = some v := by
  have slow : opPure P (rhoB T) o = some v → opR P (rhoA T) o h = some v := by
    intro q; rw [rhoB_eq] at q; exact opPure_opR q h
  unfold pureB at e
  split at e
  · rename_i x ho
    obtain rfl := Option.some.inj e
    unfold opR; rw [ho, rdB_eq]
  · rename_i x ho
    obtain rfl := Option.some.inj e
    unfold opR; rw [ho, rdB_eq]
  · rename_i x ho
    dsimp only at e
    obtain ⟨b, o', h1, h2⟩ := vPtr_some e
    rw [rdB_eq] at h1
    obtain rfl := Option.some.inj h2
    unfold opR; rw [ho]; dsimp only; rw [h1]
  · rename_i op t x y yt ho
    dsimp only at e
    split at e
    · rename_i u h1
      obtain rfl := Option.some.inj e
      rw [rdB_eq, rdB_eq] at h1
      obtain ⟨q1, q2, q3, q4⟩ := binB_good (P := P) h1 t x y
      unfold opR; rw [ho]; dsimp only; rw [q2, q3]; simp only [Bool.and_self, if_true]
      exact outPv_some q1 q4
    · exact slow e
  · rename_i src dst x ho
    split at e
    · rename_i d k hd1 hd2
      dsimp only at e
      obtain ⟨k', n, h2, h3⟩ := vInt_some e
      rw [rdB_eq] at h2
      obtain rfl := Option.some.inj h3
      unfold opR
      rw [ho]
      dsimp only
      rw [h2, hd1, hd2]
      have hc : Sem.runP P (convert src dst (.int k' n)) = some (.int k (wrapF k n)) := by
        unfold convert
        rw [runP_und hd1, runP_und hd2, wrapF_eq]
        cases d <;> rfl
      split
      · rename_i q1 q2; cases q2
      · rename_i q1 q2 q3; cases q3
      · exact (by rw [show flatV (.int k' n) = true from rfl]; exact outPv_some hc rfl)
    · exact slow e
  · rename_i s x f ho
    split at e
    · rename_i off hoff
      dsimp only at e
      obtain ⟨b, o', h1, h2⟩ := vPtr_some e
      rw [rdB_eq] at h1
      obtain rfl := Option.some.inj h2
      unfold opR; rw [ho]; dsimp only; rw [h1]
      exact runP_runR (faOff_some hoff) h
    · exact slow e
  · rename_i t x i ho
    dsimp only at e
    rw [rdB_eq, rdB_eq] at e
    unfold opR; rw [ho]
    exact runP_runR (iaB_some e) h
  · rename_i s x f ho
    dsimp only at e
    rw [rdB_eq] at e
    unfold opR; rw [ho]
    exact runP_runR (fdB_some e) h
  · rename_i c ho
    split at e
    · rename_i hb
      split at e
      · rename_i x hx
        dsimp only at e
        rw [rdB_eq] at e
        unfold opR; rw [ho]; dsimp only; rw [hb]
        have ha : c.args = #[x] := Array.ext' hx
        dsimp only
        rw [ha]
        have := runP_runR (lnB_some (ty := o.type) e) h
        simp only [List.map_toArray, List.map_cons, List.map_nil]
        exact this
      · exact slow e
    · exact slow e
  · exact slow e
noncomputable def readB (P : Program) (o : Oper) : Box (Tree Value → AHeap → Option Value) :=
  match o.op with
  | .load t a => ⟨fun T h => (ldB P t).un ((rdB a).un T) h⟩
  | _ => ⟨fun T h => opR P (rhoB T) o h⟩
theorem readB_some {o : Oper} {T : Tree Value} {h : AHeap} {v : Value} (e : (readB P o).un T h = some v) : opR P (rhoA T) o h = some v := by
  unfold readB at e
  split at e
  · rename_i t a ho
    dsimp only at e
    rw [rdB_eq] at e
    unfold opR; rw [ho]
    exact ldB_runR e
  · rw [← rhoB_eq]; exact e
noncomputable def wantB (ops : Array Oper) (o : Oper) : Box (Tree Value → Bool) :=
  match o.guard with
  | none => ⟨fun _ => true⟩
  | some (j, want) => match (ops[j]?).bind (·.dst) with
    | some d => ⟨fun T => vBool ((getB undef (Path.of d)).un T) (fun b => sameB b want) false⟩
    | none => ⟨fun _ => false⟩
theorem wantB_eq (ops : Array Oper) (o : Oper) (T : Tree Value) : (wantB ops o).un T = wantedA ops o T := by
  unfold wantB wantedA
  cases hg : o.guard with
  | none => rfl
  | some g =>
    obtain ⟨j, want⟩ := g
    dsimp only
    cases hd : (ops[j]?).bind (·.dst) with
    | none => rfl
    | some d =>
      dsimp only
      have hgt : (getB undef (Path.of d)).un T = Tget T d := getB_eq undef _ T
      rw [hgt]
      cases Tget T d <;> first | exact sameB_eq _ _ | rfl

/-! ### The run -/
def fillB (sel : Nat → Bool) (base : Nat) (objs : List (Nat × AObj)) (G : AHeap) : AHeap := match objs with
  | [] => G
  | x :: r => fillA sel base (x :: r) G
theorem fillB_eq (sel : Nat → Bool) (base : Nat) (objs : List (Nat × AObj)) (G : AHeap) : fillB sel base objs G = fillA sel base objs G := by cases objs <;> rfl
def liveB (base : Nat) (objs : List (Nat × AObj)) (F G' : AHeap) : Bool := match objs with
  | [] => true
  | x :: r => (x :: r).all (fun x => isDead (F.get (base + x.1)) || !isDead (G'.get (base + x.1)))
theorem liveB_eq (base : Nat) (objs : List (Nat × AObj)) (F G' : AHeap) : liveB base objs F G' = objs.all (fun x => isDead (F.get (base + x.1)) || !isDead (G'.get (base + x.1))) := by cases objs <;> rfl
abbrev GoF := Nat → Tree Value → AHeap → List (Nat × AObj) → Option (Tree Value × AHeap × List (Nat × AObj))
noncomputable def goB (P : Program) (enters : FuncId → FKind) (CB : CallB) (ops : Array Oper) (ms : List Nat) : List Oper → Nat → Box GoF
  | [], _ => ⟨fun _ T G objs => some (T, G, objs)⟩
  | o :: rest, j => match clsOf P o with
    | .plain => match isPureOp P o with
      | true => ⟨fun base T G objs => match (wantB ops o).un T with
        | false => (goB P enters CB ops ms rest (j + 1)).un base ((putB o.dst).un T undef) G objs
        | true => match (pureB P o).un T with
          | some v => (goB P enters CB ops ms rest (j + 1)).un base ((putB o.dst).un T v) G objs
          | none => none⟩
      | false => ⟨fun base T G objs => match (wantB ops o).un T with
        | false => (goB P enters CB ops ms rest (j + 1)).un base ((putB o.dst).un T undef) G objs
        | true => match (readB P o).un T (fillB (prd ms j) base objs G) with
          | some v => (goB P enters CB ops ms rest (j + 1)).un base ((putB o.dst).un T v) G objs
          | none => none⟩
    | .alloc => ⟨fun base T G objs => match (wantB ops o).un T with
      | false => (goB P enters CB ops ms rest (j + 1)).un base ((putB o.dst).un T undef) G objs
      | true => match opN P (rhoB T) o (base + j) with
        | some (v, ob) => (goB P enters CB ops ms rest (j + 1)).un base ((putB o.dst).un T v) G ((j, ob) :: objs)
        | none => none⟩
    | .loud => ⟨fun base T G objs => match (wantB ops o).un T with
      | false => (goB P enters CB ops ms rest (j + 1)).un base ((putB o.dst).un T undef) G objs
      | true => match (execB P enters CB o).un T (fillB (prd ms j) base objs G) with
        | some (v, G') => match liveB base objs (fillB (prd ms j) base objs G) G' with
          | true => (goB P enters CB ops ms rest (j + 1)).un base ((putB o.dst).un T v) G' objs
          | false => none
        | none => none⟩
theorem heapAt_cons (G G1 : AHeap) (Gs : List AHeap) (n : Nat) : heapAt G (G1 :: Gs) (n + 1) = heapAt G1 Gs n := by cases n <;> rfl
theorem goB_some {enters : FuncId → FKind} {CB : CallB} {ops : Array Oper} {ms : List Nat} {base : Nat} : ∀ (l : List Oper) (j : Nat) (T : Tree Value) (G : AHeap) (objs : List (Nat × AObj)) (T' : Tree Value) (G' : AHeap) (os : List (Nat × AObj)),
    (goB P enters CB ops ms l j).un base T G objs = some (T', G', os) →
    ∃ vs Gs, drawGo P enters (callOf CB) ops ms base l j T G objs = some (vs, Gs, os) ∧ T' = slots l vs T ∧ G' = heapAt G Gs l.length ∧
      ∀ i, i < l.length → clsOf P (l.getD i default) = .plain → isPureOp P (l.getD i default) = true → wantedA ops (l.getD i default) (slots (l.take i) (vs.take i) T) = true →
        ∀ h, opR P (rhoA (slots (l.take i) (vs.take i) T)) (l.getD i default) h = some (vs.getD i undef) := by
  intro l
  induction l with
  | nil =>
    intro j T G objs T' G' os e
    simp only [goB, Option.some.injEq, Prod.mk.injEq] at e
    obtain ⟨rfl, rfl, rfl⟩ := e
    exact ⟨[], [], rfl, rfl, rfl, fun i hi => by simp at hi⟩
  | cons o rest ih =>
    intro j T G objs T' G' os e
    have step : ∀ (v : Value) (G1 : AHeap) (objs1 : List (Nat × AObj)), (goB P enters CB ops ms rest (j + 1)).un base ((putB o.dst).un T v) G1 objs1 = some (T', G', os) →
        (clsOf P o = .plain → isPureOp P o = true → wantedA ops o T = true → ∀ h, opR P (rhoA T) o h = some v) →
        (∀ vs Gs, drawGo P enters (callOf CB) ops ms base rest (j + 1) (Tput T o.dst v) G1 objs1 = some (vs, Gs, os) → drawGo P enters (callOf CB) ops ms base (o :: rest) j T G objs = some (v :: vs, G1 :: Gs, os)) →
        ∃ vs Gs, drawGo P enters (callOf CB) ops ms base (o :: rest) j T G objs = some (vs, Gs, os) ∧ T' = slots (o :: rest) vs T ∧ G' = heapAt G Gs (o :: rest).length ∧
          ∀ i, i < (o :: rest).length → clsOf P ((o :: rest).getD i default) = .plain → isPureOp P ((o :: rest).getD i default) = true → wantedA ops ((o :: rest).getD i default) (slots ((o :: rest).take i) (vs.take i) T) = true →
            ∀ h, opR P (rhoA (slots ((o :: rest).take i) (vs.take i) T)) ((o :: rest).getD i default) h = some (vs.getD i undef) := by
      intro v G1 objs1 hgo hpure hdraw
      rw [putB_eq] at hgo
      obtain ⟨vs, Gs, q1, q2, q3, q4⟩ := ih _ _ _ _ _ _ _ hgo
      refine ⟨v :: vs, G1 :: Gs, hdraw vs Gs q1, q2, ?_, ?_⟩
      · rw [List.length_cons, heapAt_cons]; exact q3
      · intro i hi h1 h2 h3
        cases i with
        | zero => exact hpure h1 h2 (by simpa [slots] using h3)
        | succ i => exact q4 i (by simpa using hi) h1 h2 h3
    simp only [goB] at e
    split at e
    · rename_i hcls
      split at e
      · rename_i hpu
        dsimp only at e
        rw [wantB_eq] at e
        split at e
        · rename_i hw
          exact step undef G objs e (fun _ _ h => by rw [hw] at h; cases h) (fun vs Gs q => by simp only [drawGo, hw, q])
        · rename_i hw
          split at e
          · rename_i v hv
            exact step v G objs e (fun _ _ _ h => pureB_some hv h) (fun vs Gs q => by simp only [drawGo, hw, hcls, pureB_some hv, q])
          · cases e
      · rename_i hpu
        dsimp only at e
        rw [wantB_eq] at e
        split at e
        · rename_i hw
          exact step undef G objs e (fun _ _ h => by rw [hw] at h; cases h) (fun vs Gs q => by simp only [drawGo, hw, q])
        · rename_i hw
          split at e
          · rename_i v hv
            rw [fillB_eq] at hv
            exact step v G objs e (fun _ h => by rw [hpu] at h; cases h) (fun vs Gs q => by simp only [drawGo, hw, hcls, readB_some hv, q])
          · cases e
    · rename_i hcls
      dsimp only at e
      rw [wantB_eq] at e
      split at e
      · rename_i hw
        exact step undef G objs e (fun h => by rw [hcls] at h; cases h) (fun vs Gs q => by simp only [drawGo, hw, q])
      · rename_i hw
        split at e
        · rename_i v ob hv
          rw [rhoB_eq] at hv
          exact step v G _ e (fun h => by rw [hcls] at h; cases h) (fun vs Gs q => by simp only [drawGo, hw, hcls, hv, q])
        · cases e
    · rename_i hcls
      dsimp only at e
      rw [wantB_eq] at e
      split at e
      · rename_i hw
        exact step undef G objs e (fun h => by rw [hcls] at h; cases h) (fun vs Gs q => by simp only [drawGo, hw, q])
      · rename_i hw
        split at e
        · rename_i v G1 hv
          split at e
          · rename_i hl
            rw [fillB_eq] at hv hl
            rw [liveB_eq] at hl
            have hst : stepA P enters (callOf CB) ops o T (fillA (prd ms j) base objs G) = some (v, G1) := by rw [stepA_core hw]; exact execB_some hv
            exact step v G1 objs e (fun h => by rw [hcls] at h; cases h) (fun vs Gs q => by simp only [drawGo, hw, hcls, hst, hl, if_true, q])
          · cases e
        · cases e

def needChk (P : Program) (ops : Array Oper) (ms : List Nat) : Bool := (List.range ops.size).any fun j => match clsOf P (opAt ops j) with
  | .plain => !isPureOp P (opAt ops j) && !(todoAt P ops ms j).isEmpty
  | _ => false
noncomputable def drawB (P : Program) (enters : FuncId → FKind) (CB : CallB) (ops : Array Oper) : Box (Tree Value → AHeap → Option (Tree Value × AHeap)) :=
  match needChk P ops (masksGo ops.toList []) with
    | true => ⟨fun T h => drawA P enters (callOf CB) ops T h⟩
    | false => ⟨fun T h => match h with
      | ⟨t, n, l⟩ => match Nat.ble (Nat.add n ops.size) l with
        | true => match (goB P enters CB ops (masksGo ops.toList []) ops.toList 0).un n T ⟨t, Nat.add n ops.size, l⟩ [] with
          | some (T', G', os) => some (T', fillB (fun _ => true) n os G')
          | none => none
        | false => none⟩
theorem drawB_sound {G : Nat} {enters : FuncId → FKind} (hE : Enters P enters) (hz : ZF P) {CB : CallB} (hC : CallSound P G (callOf CB)) : DrawGood P G (fun ops T h => (drawB P enters CB ops).un T h) := by
  intro ops T h T' h' hplan hd
  dsimp only at hd
  unfold drawB at hd
  · split at hd
    · exact drawA_sound hE hz hC ops T h T' h' hd
    · rename_i hneed
      obtain ⟨t, n, l⟩ := h
      dsimp only at hd
      split at hd
      · rename_i hb
        split at hd
        · rename_i T1 G1 os hgo
          simp only [Option.some.injEq, Prod.mk.injEq] at hd
          obtain ⟨rfl, rfl⟩ := hd
          obtain ⟨vs, Gs, q1, q2, q3, q4⟩ := goB_some _ _ _ _ _ _ _ _ hgo
          have hsz : ops.toList.length = ops.size := Array.length_toList
          rw [hsz] at q3
          rw [fillB_eq, q2, q3]
          refine drawn_sound hE hz hC (h := ⟨t, n, l⟩) hplan hb q1 fun i hi hc hw q hq => ?_
          have hnd := List.any_eq_false.1 hneed i (by simpa using hi)
          rw [hc] at hnd
          dsimp only at hnd
          cases hp : isPureOp P (opAt ops i) with
          | true =>
            have := q4 i (by rw [hsz]; exact hi) (by rw [opAt_toList]; exact hc) (by rw [opAt_toList]; exact hp) (by rw [opAt_toList]; exact hw)
            rw [opAt_toList] at this
            exact this _
          | false =>
            rw [hp] at hnd
            simp only [Bool.not_false, Bool.true_and, Bool.not_eq_true', Bool.not_eq_false] at hnd
            have : todoAt P ops (masksGo ops.toList []) i = [] := by simpa using hnd
            rw [this] at hq
            simp at hq
        · cases hd
      · cases hd
end
def noneK : Known := fun _ => none
theorem noneK_sound {P : Program} {G : Nat} : CallSound P G noneK.call := by
  intro f args h v h' e; cases e
/-- What is known of calls, as the engine asks for it. -/
def memoK (l : List Memo) : Known := fun f => match l.any (fun x => Nat.beq x.f f) with
  | true => some (memoA l f)
  | false => none
theorem memoK_sound {P : Program} {G : Nat} {l : List Memo} (hl : ∀ x ∈ l, MemoOk P x) : CallSound P G (memoK l).call := by
  intro f args h v h' e
  refine memoA_sound l hl f args h v h' ?_
  unfold Known.call memoK at e
  cases hb : l.any (fun x => Nat.beq x.f f) with
  | true => rw [hb] at e; exact e
  | false => rw [hb] at e; cases e
end Go.Ab
