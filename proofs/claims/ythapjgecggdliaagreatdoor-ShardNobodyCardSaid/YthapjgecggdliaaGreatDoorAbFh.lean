import Derived.Test.YthapjgecggdliaaGreatDoorAbFg
namespace Go.Ab
open Go
section
variable {P : Program}

/-! ## A region that draws its order, quickly -/
theorem runR_bind {α β : Type} (s : Sem α) (f : α → Sem β) (h : AHeap) : (s >>= f).runR P h = match s.runR P h with | some a => (f a).runR P h | none => none := by
  show (s.bind f).runR P h = _
  induction s generalizing h with
  | pure a => rfl
  | load md a k ih =>
    simp only [Sem.bind, Sem.runR]
    cases h.cell? a with
    | none => rfl
    | some v => exact ih v h
  | getObj r k ih =>
    simp only [Sem.bind, Sem.runR]
    cases h.get r with
    | map es c => exact ih _ h
    | iter s p => exact ih _ h
    | _ => rfl
  | program k ih => exact ih P h
  | mark md k ih => exact ih h
  | _ => rfl
theorem runP_runR {α : Type} {s : Sem α} : ∀ {a : α}, s.runP P = some a → ∀ h, s.runR P h = some a := by
  induction s with
  | pure a => intro b e h; simp only [Sem.runP, Option.some.injEq] at e; subst e; rfl
  | program k ih => intro b e h; exact ih P e h
  | mark md k ih => intro b e h; exact ih e h
  | _ => intro b e h; simp [Sem.runP] at e
theorem runR_bind_some {α β : Type} {s : Sem α} {f : α → Sem β} {a : α} {h : AHeap} (e : s.runR P h = some a) : (s >>= f).runR P h = (f a).runR P h := by rw [runR_bind, e]
theorem runP_self {α : Type} {s : Sem α} {a : α} (e : (s >>= fun x => (Pure.pure x : Sem α)).runP P = some a) : s.runP P = some a := by
  rw [runP_bind] at e
  cases h : s.runP P with
  | none => rw [h] at e; cases e
  | some b => rw [h] at e; exact e
theorem pureAgg {t : TypeId} {d : TypeDesc} (h : P.underlying t = some d) : (Go.isAgg t).runP P = some (isAggD d) := by
  have := runP_isAgg h (fun x => (Pure.pure x : Sem Bool))
  exact runP_self (this.trans rfl)
theorem pureSize {t : TypeId} {i : TypeInfo} (h : P.info? t = some i) : (Go.sizeOf t).runP P = some i.size := by
  have := runP_size h (fun x => (Pure.pure x : Sem Nat))
  exact runP_self (this.trans rfl)
theorem runR_load (a : Addr) (hp : AHeap) : (Go.load a).runR P hp = hp.cell? a := by
  unfold Go.load
  simp only [Sem.runR]
  cases hp.cell? a <;> rfl
theorem runR_loadCellsFrom {h : AHeap} {b o : Nat} {c : Row} (hb : rowIn (h.get b) = some c) : ∀ (n i : Nat) (acc : Array Value), o + i + n ≤ c.len →
    (Go.loadCellsFrom ⟨b, o, none⟩ i n acc).runR P h = some (acc ++ (c.part (o + i) n).toArray) := by
  intro n
  induction n with
  | zero => intro i acc _; simp [Go.loadCellsFrom, Row.part]; rfl
  | succ n ih =>
    intro i acc hl
    have hc : h.cell? ⟨b, o + i, none⟩ = some (c.t.get undef (o + i)) := by
      rw [AHeap.cell?_row hb, Row.get?_eq, if_pos (by omega)]
    unfold Go.loadCellsFrom
    rw [add_none, runR_bind_some (by rw [runR_load, hc]), ih (i + 1) _ (by omega)]
    simp only [Row.part]
    congr 1
    apply Array.ext'
    simp [Nat.add_assoc]
theorem ldB_runR {t : TypeId} {v r : Value} {h : AHeap} (e : (ldB P t).un v h = some r) : (Instr.loadAt t v).runR P h = some r := by
  unfold ldB at e
  split at e
  · rename_i d i hd hi
    split at e
    · rename_i hag
      dsimp only at e
      obtain ⟨b, o, rfl, e2⟩ := vPtr_some e
      rw [heapGet_eq] at e2
      split at e2
      · rename_i c hb
        rw [rowGet_eq] at e2
        unfold Instr.loadAt Instr.sureAddr Go.loadVar
        rw [pure_bind, runR_bind_some (runP_runR (pureAgg hd) h), hag]
        simp only [Bool.false_eq_true, if_false]
        rw [runR_load, AHeap.cell?_row hb, e2]
      · cases e2
    · rename_i hag
      dsimp only at e
      obtain ⟨b, o, rfl, e2⟩ := vPtr_some e
      rw [heapGet_eq] at e2
      split at e2
      · rename_i c hb
        obtain ⟨n, tr⟩ := c
        dsimp only at e2
        split at e2
        · rename_i hl
          rw [Nat.ble_eq] at hl
          obtain rfl := Option.some.inj e2
          unfold Instr.loadAt Instr.sureAddr Go.loadVar
          rw [pure_bind, runR_bind_some (runP_runR (pureAgg hd) h), hag]
          simp only [if_true]
          have hcells : (Go.loadCells ⟨b, o, none⟩ i.size).runR P h = some (((⟨n, tr⟩ : Row).part o i.size).toArray) := by
            unfold Go.loadCells
            rw [runR_loadCellsFrom hb i.size 0 _ hl]
            simp
          rw [runR_bind_some (runP_runR (pureSize hi) h), runR_bind_some hcells]
          have := partB_eq ⟨n, tr⟩ i.size o
          dsimp only at this
          rw [this]; rfl
        · cases e2
      · cases e2
  · cases e

/-! ### Operations that look at no memory -/
def lenPure (P : Program) (ts : Array TypeId) : Bool := match ts[0]? with
  | some t => match P.underlying t with
    | some .string | some (.slice _) | some (.array _ _) => true
    | _ => false
  | none => false
def isPureOp (P : Program) (o : Oper) : Bool := match o.op with
  | .move _ | .assign _ | .pick .. | .nilCheck _ | .binOp .. | .unOp .. | .makeInterface .. | .makeFunc .. | .slice .. | .fieldAddr .. | .field .. | .indexAddr .. | .index .. | .extract .. => true
  | .convert _ dst _ => match P.underlying dst with | some (.int _) => true | _ => false
  | .call c => match c.callee with
    | .builtin .len => lenPure P c.argTypes
    | .builtin .min | .builtin .max => true
    | _ => false
  | _ => false
def opPure (P : Program) (ρ : Operand → Value) (o : Oper) : Option Value :=
  match o.op with
  | .move x | .assign x => some (ρ x)
  | .pick c a b => match ρ c with | .bool t => some (if t then ρ a else ρ b) | _ => none
  | .nilCheck x => match ρ x with | .pointer (some a) => some (.pointer (some a)) | _ => none
  | .binOp op t x y _ =>
    if flatV (ρ x) && flatV (ρ y) then outPv (Sem.runP P (do eqGuard op t x y (ρ x) (ρ y); binOp op t (ρ x) (ρ y)))
    else nilEqA P op t (ρ x) (ρ y)
  | .unOp op _ x => if flatV (ρ x) then outPv (Sem.runP P (Op.unary op (ρ x))) else none
  | .makeInterface t x => (Instr.makeInterface t (ρ x)).runP P
  | .makeFunc fn a c => (Instr.makeFunc fn (a.map ρ) (c.map ρ)).runP P
  | .slice t x lo hi mx =>
    if optFlat (lo.map ρ) && optFlat (hi.map ρ) && optFlat (mx.map ρ) then
    match ρ x with
    | .string s => outPv (Sem.runP P (Instr.sliceAt t (.string s) (lo.map ρ) (hi.map ρ) (mx.map ρ)))
    | v => sliceA P t v (lo.map ρ) (hi.map ρ) (mx.map ρ)
    else none
  | .fieldAddr s x f => (Instr.fieldAt s (ρ x) f).runP P
  | .field s x f => (Instr.field s (ρ x) f).runP P
  | .indexAddr t x i => (Instr.indexAt t (ρ x) (ρ i)).runP P
  | .index t x i => (Instr.index t (ρ x) (ρ i)).runP P
  | .extract x i => (Instr.extract (ρ x) i).runP P
  | .call c =>
    match c.callee with
    | .builtin .len => (Builtin.len_ c.argTypes o.type (c.args.map ρ)).runP P
    | .builtin .min => if (c.args.map ρ).toList.all flatV then outPv (Sem.runP P (Builtin.min_ c.argTypes o.type (c.args.map ρ))) else none
    | .builtin .max => if (c.args.map ρ).toList.all flatV then outPv (Sem.runP P (Builtin.max_ c.argTypes o.type (c.args.map ρ))) else none
    | _ => none
  | _ => none
theorem opPure_opR {ρ : Operand → Value} {o : Oper} {v : Value} (e : opPure P ρ o = some v) (h : AHeap) : opR P ρ o h = some v := by
  unfold opPure at e
  unfold opR
  split at e <;> (first | (rename_i q; rw [q]) | skip)
  all_goals first
    | exact e
    | exact runP_runR e h
    | (cases e; done)
    | skip
  rename_i c q
  dsimp only
  split at e <;> (first | (rename_i q2; rw [q2]) | skip)
  all_goals first
    | exact e
    | exact runP_runR e h
    | (cases e; done)
noncomputable def pureB (P : Program) (o : Oper) : Box (Tree Value → Option Value) :=
  match o.op with
  | .move x => ⟨fun T => some ((rdB x).un T)⟩
  | .assign x => ⟨fun T => some ((rdB x).un T)⟩
  | .nilCheck x => ⟨fun T => vPtr ((rdB x).un T) (fun b o => some (.pointer (some ⟨b, o, none⟩))) none⟩
  | .binOp op t x y _ => ⟨fun T => match (binT P op t).un ((rdB x).un T) ((rdB y).un T) with | some v => some v | none => opPure P (rhoB T) o⟩
  | .convert src dst x => match P.underlying src, P.underlying dst with
    | some _, some (.int k) => ⟨fun T => vInt ((rdB x).un T) (fun _ n => some (.int k (wrapF k n))) none⟩
    | _, _ => ⟨fun T => opPure P (rhoB T) o⟩
  | .fieldAddr s x f => match faOff P s f with
    | some off => ⟨fun T => vPtr ((rdB x).un T) (fun b o => some (.pointer (some ⟨b, Nat.add o off, none⟩))) none⟩
    | none => ⟨fun T => opPure P (rhoB T) o⟩
  | .indexAddr t x i => ⟨fun T => (iaB P t).un ((rdB x).un T) ((rdB i).un T)⟩
  | .field s x f => ⟨fun T => (fdB P s f).un ((rdB x).un T)⟩
  | .call c => match c.callee with
    | .builtin .len => match c.args.toList with
      | [x] => ⟨fun T => (lnB P c.argTypes).un ((rdB x).un T)⟩
      | _ => ⟨fun T => opPure P (rhoB T) o⟩
    | _ => ⟨fun T => opPure P (rhoB T) o⟩
  | _ => ⟨fun T => opPure P (rhoB T) o⟩
theorem outPv_some {s : Option Value} {v : Value} (e : s = some v) (hf : flatV v = true) : outPv s = some v := by
  rw [e]; simp only [outPv, hf, if_true]
theorem pureB_some {o : Oper} {T : Tree Value} {v : Value} (e : (pureB P o).un T = some v) (h : AHeap) : opR P (rhoA T) o h = some v := by
  have slow : opPure P (rhoB T) o = some v → opR P (rhoA T) o h = some v := by
    intro q; rw [rhoB_eq] at q; exact opPure_opR q h
  unfold pureB at e
  split at e
  · rename_i x ho
    obtain rfl := Option.some.inj e
    unfold opR; rw [ho, rdB_eq]
  · rename_i x ho
    obtain rfl := Option.some.inj e
    unfold opR; rw [ho, rdB_eq]
  · rename_i x ho
    dsimp only at e
    obtain ⟨b, o', h1, h2⟩ := vPtr_some e
    rw [rdB_eq] at h1
    obtain rfl := Option.some.inj h2
    unfold opR; rw [ho]; dsimp only; rw [h1]
  · rename_i op t x y yt ho
    dsimp only at e
    split at e
    · rename_i u h1
      obtain rfl := Option.some.inj e
      rw [rdB_eq, rdB_eq] at h1
      rcases binT_way h1 with ⟨q2, q3, q4, q1⟩ | ⟨q1, q2⟩
      · unfold opR; rw [ho]; dsimp only; rw [q2, q3]; simp only [Bool.and_self, if_true]
        exact outPv_some (q1 x y) q4
      · unfold opR; rw [ho]; dsimp only; rw [q1, q2]; simp only [Bool.false_eq_true, if_false]
    · exact slow e
  · rename_i src dst x ho
    split at e
    · rename_i d k hd1 hd2
      dsimp only at e
      obtain ⟨k', n, h2, h3⟩ := vInt_some e
      rw [rdB_eq] at h2
      obtain rfl := Option.some.inj h3
      unfold opR
      rw [ho]
      dsimp only
      rw [h2, hd1, hd2]
      have hc : Sem.runP P (convert src dst (.int k' n)) = some (.int k (wrapF k n)) := by
        unfold convert
        rw [runP_und hd1, runP_und hd2, wrapF_eq]
        cases d <;> rfl
      split
      · rename_i q1 q2; cases q2
      · rename_i q1 q2 q3; cases q3
      · exact (by rw [show flatV (.int k' n) = true from rfl]; exact outPv_some hc rfl)
    · exact slow e
  · rename_i s x f ho
    split at e
    · rename_i off hoff
      dsimp only at e
      obtain ⟨b, o', h1, h2⟩ := vPtr_some e
      rw [rdB_eq] at h1
      obtain rfl := Option.some.inj h2
      unfold opR; rw [ho]; dsimp only; rw [h1]
      exact runP_runR (faOff_some hoff) h
    · exact slow e
  · rename_i t x i ho
    dsimp only at e
    rw [rdB_eq, rdB_eq] at e
    unfold opR; rw [ho]
    exact runP_runR (iaB_some e) h
  · rename_i s x f ho
    dsimp only at e
    rw [rdB_eq] at e
    unfold opR; rw [ho]
    exact runP_runR (fdB_some e) h
  · rename_i c ho
    split at e
    · rename_i hb
      split at e
      · rename_i x hx
        dsimp only at e
        rw [rdB_eq] at e
        unfold opR; rw [ho]; dsimp only; rw [hb]
        have ha : c.args = #[x] := Array.ext' hx
        dsimp only
        rw [ha]
        have := runP_runR (lnB_some (ty := o.type) e) h
        simp only [List.map_toArray, List.map_cons, List.map_nil]
        exact this
      · exact slow e
    · exact slow e
  · exact slow e
noncomputable def readB (P : Program) (o : Oper) : Box (Tree Value → AHeap → Option Value) :=
  match o.op with
  | .load t a => ⟨fun T h => (ldB P t).un ((rdB a).un T) h⟩
  | _ => ⟨fun T h => opR P (rhoB T) o h⟩
theorem readB_some {o : Oper} {T : Tree Value} {h : AHeap} {v : Value} (e : (readB P o).un T h = some v) : opR P (rhoA T) o h = some v := by
  unfold readB at e
  split at e
  · rename_i t a ho
    dsimp only at e
    rw [rdB_eq] at e
    unfold opR; rw [ho]
    exact ldB_runR e
  · rw [← rhoB_eq]; exact e
noncomputable def wantB (ops : Array Oper) (o : Oper) : Box (Tree Value → Bool) :=
  match o.guard with
  | none => ⟨fun _ => true⟩
  | some (j, want) => match (ops[j]?).bind (·.dst) with
    | some d => ⟨fun T => vBool ((getB undef (Path.of d)).un T) (fun b => sameB b want) false⟩
    | none => ⟨fun _ => false⟩
theorem wantB_eq (ops : Array Oper) (o : Oper) (T : Tree Value) : (wantB ops o).un T = wantedA ops o T := by
  unfold wantB wantedA
  cases hg : o.guard with
  | none => rfl
  | some g =>
    obtain ⟨j, want⟩ := g
    dsimp only
    cases hd : (ops[j]?).bind (·.dst) with
    | none => rfl
    | some d =>
      dsimp only
      have hgt : (getB undef (Path.of d)).un T = Tget T d := getB_eq undef _ T
      rw [hgt]
      cases Tget T d <;> first | exact sameB_eq _ _ | rfl

/-! ### The run -/
def fillB (sel : Nat → Bool) (base : Nat) (objs : List (Nat × AObj)) (G : AHeap) : AHeap := match objs with
  | [] => G
  | x :: r => fillA sel base (x :: r) G
theorem fillB_eq (sel : Nat → Bool) (base : Nat) (objs : List (Nat × AObj)) (G : AHeap) : fillB sel base objs G = fillA sel base objs G := by cases objs <;> rfl
def liveB (base : Nat) (objs : List (Nat × AObj)) (F G' : AHeap) : Bool := match objs with
  | [] => true
  | x :: r => (x :: r).all (fun x => isDead (F.get (base + x.1)) || !isDead (G'.get (base + x.1)))
theorem liveB_eq (base : Nat) (objs : List (Nat × AObj)) (F G' : AHeap) : liveB base objs F G' = objs.all (fun x => isDead (F.get (base + x.1)) || !isDead (G'.get (base + x.1))) := by cases objs <;> rfl
structure GoR where
  T : Tree Value
  Gs : List AHeap
  os : List (Nat × AObj)
  ck : List (Nat × Tree Value × Value)
abbrev GoF := Nat → Tree Value → AHeap → List (Nat × AObj) → Option GoR
def consG (G : AHeap) (r : Option GoR) : Option GoR := match r with | some ⟨T, Gs, os, ck⟩ => some ⟨T, G :: Gs, os, ck⟩ | none => none
def consC (x : Nat × Tree Value × Value) (r : Option GoR) : Option GoR := match r with | some ⟨T, Gs, os, ck⟩ => some ⟨T, Gs, os, x :: ck⟩ | none => none
theorem consG_some {G : AHeap} {r : Option GoR} {x : GoR} (h : consG G r = some x) : ∃ y, r = some y ∧ x = ⟨y.T, G :: y.Gs, y.os, y.ck⟩ := by
  cases r with
  | none => cases h
  | some y => exact ⟨y, rfl, (Option.some.inj h).symm⟩
theorem consC_some {c : Nat × Tree Value × Value} {r : Option GoR} {x : GoR} (h : consC c r = some x) : ∃ y, r = some y ∧ x = ⟨y.T, y.Gs, y.os, c :: y.ck⟩ := by
  cases r with
  | none => cases h
  | some y => exact ⟨y, rfl, (Option.some.inj h).symm⟩
noncomputable def goB (P : Program) (enters : FuncId → FKind) (CB : CallB) (ops : Array Oper) (ms : List Nat) : List Oper → Nat → Box GoF
  | [], _ => ⟨fun _ T _ objs => some ⟨T, [], objs, []⟩⟩
  | o :: rest, j => match clsOf P o with
    | .plain => match isPureOp P o with
      | true => ⟨fun base T G objs => match (wantB ops o).un T with
        | false => consG G ((goB P enters CB ops ms rest (j + 1)).un base ((putB o.dst).un T undef) G objs)
        | true => match (pureB P o).un T with
          | some v => consG G ((goB P enters CB ops ms rest (j + 1)).un base ((putB o.dst).un T v) G objs)
          | none => none⟩
      | false => match (todoAt P ops ms j).isEmpty with
        | true => ⟨fun base T G objs => match (wantB ops o).un T with
          | false => consG G ((goB P enters CB ops ms rest (j + 1)).un base ((putB o.dst).un T undef) G objs)
          | true => match (readB P o).un T (fillB (prd ms j) base objs G) with
            | some v => consG G ((goB P enters CB ops ms rest (j + 1)).un base ((putB o.dst).un T v) G objs)
            | none => none⟩
        | false => ⟨fun base T G objs => match (wantB ops o).un T with
          | false => consG G ((goB P enters CB ops ms rest (j + 1)).un base ((putB o.dst).un T undef) G objs)
          | true => match (readB P o).un T (fillB (prd ms j) base objs G) with
            | some v => consC (j, T, v) (consG G ((goB P enters CB ops ms rest (j + 1)).un base ((putB o.dst).un T v) G objs))
            | none => none⟩
    | .alloc => ⟨fun base T G objs => match (wantB ops o).un T with
      | false => consG G ((goB P enters CB ops ms rest (j + 1)).un base ((putB o.dst).un T undef) G objs)
      | true => match opN P (rhoB T) o (base + j) with
        | some (v, ob) => consG G ((goB P enters CB ops ms rest (j + 1)).un base ((putB o.dst).un T v) G ((j, ob) :: objs))
        | none => none⟩
    | .loud => ⟨fun base T G objs => match (wantB ops o).un T with
      | false => consG G ((goB P enters CB ops ms rest (j + 1)).un base ((putB o.dst).un T undef) G objs)
      | true => match (execB P enters CB o).un T (fillB (prd ms j) base objs G) with
        | some (v, G') => match liveB base objs (fillB (prd ms j) base objs G) G' with
          | true => consG G' ((goB P enters CB ops ms rest (j + 1)).un base ((putB o.dst).un T v) G' objs)
          | false => none
        | none => none⟩
/-- What must be known of an operation that only reads. -/
def PlainAt (P : Program) (ops : Array Oper) (ms : List Nat) (o : Oper) (j : Nat) (T : Tree Value) (v : Value) (ck : List (Nat × Tree Value × Value)) : Prop :=
  clsOf P o = .plain → wantedA ops o T = true → (∀ h, opR P (rhoA T) o h = some v) ∨ todoAt P ops ms j = [] ∨ (j, T, v) ∈ ck
theorem goB_some {enters : FuncId → FKind} {CB : CallB} {ops : Array Oper} {ms : List Nat} {base : Nat} : ∀ (l : List Oper) (j : Nat) (T : Tree Value) (G : AHeap) (objs : List (Nat × AObj)) (r : GoR),
    (goB P enters CB ops ms l j).un base T G objs = some r →
    ∃ vs, drawGo P enters (callOf CB) ops ms base l j T G objs = some (vs, r.Gs, r.os) ∧ r.T = slots l vs T ∧
      ∀ i, i < l.length → PlainAt P ops ms (l.getD i default) (j + i) (slots (l.take i) (vs.take i) T) (vs.getD i undef) r.ck := by
  intro l
  induction l with
  | nil =>
    intro j T G objs r e
    simp only [goB, Option.some.injEq] at e
    subst e
    exact ⟨[], rfl, rfl, fun i hi => by simp at hi⟩
  | cons o rest ih =>
    intro j T G objs r e
    have step : ∀ (v : Value) (G1 : AHeap) (objs1 : List (Nat × AObj)) (r : GoR), consG G1 ((goB P enters CB ops ms rest (j + 1)).un base ((putB o.dst).un T v) G1 objs1) = some r →
        (∀ vs Gs os, drawGo P enters (callOf CB) ops ms base rest (j + 1) (Tput T o.dst v) G1 objs1 = some (vs, Gs, os) → drawGo P enters (callOf CB) ops ms base (o :: rest) j T G objs = some (v :: vs, G1 :: Gs, os)) →
        ∀ ck, (∀ x ∈ r.ck, x ∈ ck) → PlainAt P ops ms o j T v ck →
        ∃ vs, drawGo P enters (callOf CB) ops ms base (o :: rest) j T G objs = some (vs, r.Gs, r.os) ∧ r.T = slots (o :: rest) vs T ∧
          ∀ i, i < (o :: rest).length → PlainAt P ops ms ((o :: rest).getD i default) (j + i) (slots ((o :: rest).take i) (vs.take i) T) (vs.getD i undef) ck := by
      intro v G1 objs1 r hgo hdraw ck hck hpl
      obtain ⟨y, hy, rfl⟩ := consG_some hgo
      rw [putB_eq] at hy
      obtain ⟨vs, q1, q2, q4⟩ := ih _ _ _ _ _ hy
      refine ⟨v :: vs, hdraw vs _ _ q1, q2, ?_⟩
      intro i hi
      cases i with
      | zero => simpa [slots] using hpl
      | succ i =>
        have := q4 i (by simpa using hi)
        intro h1 h2
        rw [show j + (i + 1) = j + 1 + i by omega]
        rcases this h1 h2 with q | q | q
        · exact .inl q
        · exact .inr (.inl q)
        · exact .inr (.inr (hck _ q))
    have noW : ∀ {v : Value} {ck}, wantedA ops o T = false → PlainAt P ops ms o j T v ck := fun hw _ h => by rw [hw] at h; cases h
    have noC : ∀ {v : Value} {ck} {c : Cls}, clsOf P o = c → c ≠ .plain → PlainAt P ops ms o j T v ck := fun hc hne h => absurd (hc.symm.trans h) hne
    simp only [goB] at e
    split at e
    · rename_i hcls
      split at e
      · rename_i hpu
        dsimp only at e
        rw [wantB_eq] at e
        split at e
        · rename_i hw
          exact step undef G objs r e (fun vs Gs os q => by simp only [drawGo, hw, q]) _ (fun _ h => h) (noW hw)
        · rename_i hw
          split at e
          · rename_i v hv
            exact step v G objs r e (fun vs Gs os q => by simp only [drawGo, hw, hcls, pureB_some hv, q]) _ (fun _ h => h) (fun _ _ => .inl fun h => pureB_some hv h)
          · cases e
      · rename_i hpu
        split at e
        · rename_i htodo
          dsimp only at e
          rw [wantB_eq] at e
          split at e
          · rename_i hw
            exact step undef G objs r e (fun vs Gs os q => by simp only [drawGo, hw, q]) _ (fun _ h => h) (noW hw)
          · rename_i hw
            split at e
            · rename_i v hv
              rw [fillB_eq] at hv
              exact step v G objs r e (fun vs Gs os q => by simp only [drawGo, hw, hcls, readB_some hv, q]) _ (fun _ h => h) (fun _ _ => .inr (.inl (by simpa using htodo)))
            · cases e
        · dsimp only at e
          rw [wantB_eq] at e
          split at e
          · rename_i hw
            exact step undef G objs r e (fun vs Gs os q => by simp only [drawGo, hw, q]) _ (fun _ h => h) (noW hw)
          · rename_i hw
            split at e
            · rename_i v hv
              rw [fillB_eq] at hv
              obtain ⟨y, hy, rfl⟩ := consC_some e
              exact step v G objs y hy (fun vs Gs os q => by simp only [drawGo, hw, hcls, readB_some hv, q]) _ (fun x hx => List.mem_cons_of_mem _ hx) (fun _ _ => .inr (.inr (by simp)))
            · cases e
    · rename_i hcls
      dsimp only at e
      rw [wantB_eq] at e
      split at e
      · rename_i hw
        exact step undef G objs r e (fun vs Gs os q => by simp only [drawGo, hw, q]) _ (fun _ h => h) (noW hw)
      · rename_i hw
        split at e
        · rename_i v ob hv
          rw [rhoB_eq] at hv
          exact step v G _ r e (fun vs Gs os q => by simp only [drawGo, hw, hcls, hv, q]) _ (fun _ h => h) (noC hcls (fun h => by cases h))
        · cases e
    · rename_i hcls
      dsimp only at e
      rw [wantB_eq] at e
      split at e
      · rename_i hw
        exact step undef G objs r e (fun vs Gs os q => by simp only [drawGo, hw, q]) _ (fun _ h => h) (noW hw)
      · rename_i hw
        split at e
        · rename_i v G1 hv
          split at e
          · rename_i hl
            rw [fillB_eq] at hv hl
            rw [liveB_eq] at hl
            have hst : stepA P enters (callOf CB) ops o T (fillA (prd ms j) base objs G) = some (v, G1) := by rw [stepA_core hw]; exact execB_some hv
            exact step v G1 objs r e (fun vs Gs os q => by simp only [drawGo, hw, hcls, hst, hl, if_true, q]) _ (fun _ h => h) (noC hcls (fun h => by cases h))
          · cases e
        · cases e

noncomputable def checkB (P : Program) (ops : Array Oper) (ms : List Nat) (base : Nat) (h0 : AHeap) (r : GoR) : Bool := match r with
  | ⟨_, Gs, os, ck⟩ => ck.all fun x => (todoAt P ops ms x.1).all fun q => match (readB P (opAt ops x.1)).un x.2.1 (fillB (prd ms x.1) base os (heapAt h0 Gs q)) with
    | some v => veq 8 v x.2.2
    | none => false
noncomputable def drawB (P : Program) (enters : FuncId → FKind) (CB : CallB) (ops : Array Oper) : Box (Tree Value → AHeap → Option (Tree Value × AHeap)) :=
  ⟨fun T h => match h with
    | ⟨t, n, l⟩ => match Nat.ble (Nat.add n ops.size) l with
      | true => match (goB P enters CB ops (masksGo ops.toList []) ops.toList 0).un n T ⟨t, Nat.add n ops.size, l⟩ [] with
        | some r => match checkB P ops (masksGo ops.toList []) n ⟨t, Nat.add n ops.size, l⟩ r with
          | true => some (r.T, fillB (fun _ => true) n r.os (heapAt ⟨t, Nat.add n ops.size, l⟩ r.Gs ops.size))
          | false => none
        | none => none
      | false => none⟩
theorem drawB_sound {G : Nat} {enters : FuncId → FKind} (hE : Enters P enters) (hz : ZF P) {CB : CallB} (hC : CallSound P G (callOf CB)) : DrawGood P G (fun ops T h => (drawB P enters CB ops).un T h) := by
  intro ops T h T' h' hplan hd
  dsimp only at hd
  unfold drawB at hd
  obtain ⟨t, n, l⟩ := h
  dsimp only at hd
  split at hd
  · rename_i hb
    split at hd
    · rename_i r hgo
      split at hd
      · rename_i hck
        simp only [Option.some.injEq, Prod.mk.injEq] at hd
        obtain ⟨rfl, rfl⟩ := hd
        obtain ⟨vs, q1, q2, q4⟩ := goB_some _ _ _ _ _ _ hgo
        have hsz : ops.toList.length = ops.size := Array.length_toList
        rw [fillB_eq, q2]
        refine drawn_sound hE hz hC (h := ⟨t, n, l⟩) hplan hb q1 fun i hi hc hw q hq => ?_
        have hp := q4 i (by rw [hsz]; exact hi)
        rw [opAt_toList, Nat.zero_add] at hp
        rcases hp hc hw with k | k | k
        · exact k _
        · rw [k] at hq; simp at hq
        · unfold checkB at hck
          obtain ⟨rT, rGs, ros, rck⟩ := r
          dsimp only at hck k ⊢
          have h1 := List.all_eq_true.1 hck _ k
          dsimp only at h1
          have h2 := List.all_eq_true.1 h1 q hq
          split at h2
          · rename_i v hv
            rw [fillB_eq] at hv
            have e := veq_eq 8 _ _ h2
            rw [← e]
            exact readB_some hv
          · cases h2
      · cases hd
    · cases hd
  · cases hd
end
def noneK : Known := fun _ => none
theorem noneK_sound {P : Program} {G : Nat} : CallSound P G noneK.call := by
  intro f args h v h' e; cases e
/-- What is known of calls, as the engine asks for it. -/
def memoK (l : List Memo) : Known := fun f => match l.any (fun x => Nat.beq x.f f) with
  | true => some (memoA l f)
  | false => none
theorem memoK_sound {P : Program} {G : Nat} {l : List Memo} (hl : ∀ x ∈ l, MemoOk P x) : CallSound P G (memoK l).call := by
  intro f args h v h' e
  refine memoA_sound l hl f args h v h' ?_
  unfold Known.call memoK at e
  cases hb : l.any (fun x => Nat.beq x.f f) with
  | true => rw [hb] at e; exact e
  | false => rw [hb] at e; cases e
end Go.Ab
