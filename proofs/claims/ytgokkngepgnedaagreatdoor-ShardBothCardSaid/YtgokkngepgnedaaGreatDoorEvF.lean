/- The evaluator over an abstract memory, proved sound: part 6. -/
import Derived.Test.YtgokkngepgnedaaGreatDoorEvE
namespace Go.Ab
open Go
section
variable {P : Program}

/-! ## A run that is told what some slots hold At operations that are marked the run takes the next value of a tape in place of the one that it reckoned, and notes both: where all that it noted is equal, it is the run that is told nothing. -/
abbrev Tape := List Value
abbrev Noted := List Prop
def NotedOk (l : Noted) : Prop := ∀ p ∈ l, p
theorem NotedOk.nil : NotedOk [] := fun x hx => by cases hx
theorem NotedOk.cons {p : Prop} {l : Noted} (h : p) (hl : NotedOk l) : NotedOk (p :: l) := by
  intro x hx
  rcases List.mem_cons.1 hx with rfl | hx
  · exact h
  · exact hl x hx
theorem NotedOk.append {a b : Noted} (ha : NotedOk a) (hb : NotedOk b) : NotedOk (a ++ b) := by
  intro x hx
  rcases List.mem_append.1 hx with q | q
  · exact ha x q
  · exact hb x q
def revN : Noted → Noted → Noted
  | [], a => a
  | x :: l, a => revN l (x :: a)
theorem revN_ok : ∀ (l a : Noted), NotedOk l → NotedOk a → NotedOk (revN l a) := by
  intro l
  induction l with
  | nil => intro a _ ha; exact ha
  | cons x l ih =>
    intro a hl ha
    exact ih _ (fun y hy => hl y (List.mem_cons_of_mem _ hy)) (NotedOk.cons (hl _ List.mem_cons_self) ha)
structure OutC where
  v : Value
  h : AHeap
  tp : Tape
  lg : Noted
abbrev CallC := FuncId → Box (Array Value → AHeap → Tape → Noted → Option OutC)
/-- 1: what is reckoned is noted beside what is told; 2: nothing is reckoned, the fact itself is noted. -/
abbrev Mk := Tmp → Nat
abbrev Marks := FuncId → Mk
def CallEq (CB : CallB) (CC : CallC) : Prop := ∀ g args h tp lg r, (CC g).un args h tp lg = some r → NotedOk r.lg → NotedOk lg ∧ (CB g).un args h = some (r.v, r.h)
def withC (x : Option (Value × AHeap)) (tp : Tape) (lg : Noted) : Option OutC := match x with
  | some (v, h) => some ⟨v, h, tp, lg⟩
  | none => none
theorem withC_some {x : Option (Value × AHeap)} {tp : Tape} {lg : Noted} {r : OutC} (e : withC x tp lg = some r) : x = some (r.v, r.h) ∧ r.lg = lg := by
  cases x with
  | none => cases e
  | some p => obtain ⟨v, h⟩ := p; cases e; exact ⟨rfl, rfl⟩
noncomputable def coreC (P : Program) (enters : FuncId → FKind) (CB : CallB) (CC : CallC) (o : Oper) : Box (Tree Value → AHeap → Tape → Noted → Option OutC) :=
  match o.op with
  | .call c => match c.callee with
    | .value (.func g) => match enters g with
      | .enter => ⟨fun T h tp lg => (CC g).un ⟨(argsB c.args.toList).un T⟩ h tp lg⟩
      | _ => ⟨fun T h tp lg => withC ((execB P enters CB o).un T h) tp lg⟩
    | .value x => ⟨fun T h tp lg => match (rdB x).un T with
      | .func (.func g) first cap => (match enters g with
        | .enter => (CC g).un ⟨listOf first ++ ((argsB c.args.toList).un T ++ listOf cap)⟩ h tp lg
        | _ => withC ((execB P enters CB o).un T h) tp lg)
      | _ => withC ((execB P enters CB o).un T h) tp lg⟩
    | _ => ⟨fun T h tp lg => withC ((execB P enters CB o).un T h) tp lg⟩
  | _ => ⟨fun T h tp lg => withC ((execB P enters CB o).un T h) tp lg⟩
def markOf (mk : Mk) : Option Tmp → Nat
  | some d => mk d
  | none => 0
def tellC (r : OutC) : Option OutC := match r.tp with
  | [] => some r
  | v :: tp => some ⟨v, r.h, tp, (r.v = v) :: r.lg⟩
/-- What an operation that only reads must give. -/
def factB (P : Program) (o : Oper) (T : Tree Value) (h : AHeap) (v : Value) : Prop := match o.op with
  | .indexAddr t x i => (iaB P t).un ((rdB x).un T) ((rdB i).un T) = some v
  | .load t a => (ldB P t).un ((rdB a).un T) h = some v
  | .index t x i => (ixB P t).un ((rdB x).un T) ((rdB i).un T) = some v
  | .slice t x lo hi none => (ssB P t).un ((rdB x).un T) ((optB lo).un T) ((optB hi).un T) = some v
  | .binOp op t x y _ => (binT P op t).un ((rdB x).un T) ((rdB y).un T) = some v
  | _ => False
theorem fact_exec {enters : FuncId → FKind} {CB : CallB} {o : Oper} {T : Tree Value} {h : AHeap} {v : Value} (hf : factB P o T h v) : (execB P enters CB o).un T h = some (v, h) := by
  unfold factB at hf
  unfold execB
  split at hf
  · rename_i t x i ho
    rw [ho]
    show orElseV ((iaB P t).un ((rdB x).un T) ((rdB i).un T)) h none = _
    rw [hf]; rfl
  · rename_i t a ho
    rw [ho]
    show orElseV ((ldB P t).un ((rdB a).un T) h) h none = _
    rw [hf]; rfl
  · rename_i t x i ho
    rw [ho]
    show orElseV ((ixB P t).un ((rdB x).un T) ((rdB i).un T)) h _ = _
    rw [hf]; rfl
  · rename_i t x lo hi ho
    rw [ho]
    show orElseV ((ssB P t).un ((rdB x).un T) ((optB lo).un T) ((optB hi).un T)) h _ = _
    rw [hf]; rfl
  · rename_i op t x y k ho
    rw [ho]
    show orElseV ((binT P op t).un ((rdB x).un T) ((rdB y).un T)) h _ = _
    rw [hf]; rfl
  · exact hf.elim
/-- The same of a load, of the object alone. -/
noncomputable def ldO (P : Program) (t : TypeId) : Box (AObj → Nat → Option Value) :=
  match P.underlying t, P.info? t with
  | some d, some i =>
    match isAggD d with
    | false => ⟨fun ob o => match rowIn ob with | some c => rowGet c o | none => none⟩
    | true => ⟨fun ob o => match rowIn ob with | some c => (match c with | ⟨n, t⟩ => (match Nat.ble (Nat.add o i.size) n with | true => some (.agg ⟨partB i.size t o⟩) | false => none)) | none => none⟩
  | _, _ => ⟨fun _ _ => none⟩
theorem ldO_eq {t : TypeId} {h : AHeap} {b o : Nat} : (ldB P t).un (.pointer (some ⟨b, o, none⟩)) h = (ldO P t).un (heapGet h b) o := by
  unfold ldB ldO
  cases P.underlying t with
  | none => rfl
  | some d => cases P.info? t with
    | none => rfl
    | some i => dsimp only; cases isAggD d <;> rfl
def factO (P : Program) (o : Oper) (T : Tree Value) (h : AHeap) (v : Value) : Prop := match o.op with
  | .load t a => (match (rdB a).un T with | .pointer (some ⟨b, i, none⟩) => (ldO P t).un (heapGet h b) i = some v | _ => False)
  | _ => False
theorem factO_B {o : Oper} {T : Tree Value} {h : AHeap} {v : Value} (hf : factO P o T h v) : factB P o T h v := by
  unfold factO at hf
  unfold factB
  split at hf
  · rename_i t a ho
    rw [ho]
    dsimp only
    split at hf
    · rename_i b i hb
      rw [hb, ldO_eq]; exact hf
    · exact hf.elim
  · exact hf.elim
/-- A part of a slice, and its room, where they are told. -/
def sliceFact (P : Program) (t : TypeId) (s : Value) (lo hi mx : Option Value) (v : Value) : Prop := (optFlat lo && optFlat hi && optFlat mx) = true ∧ (∀ b, s ≠ .string b) ∧ sliceA P t s lo hi mx = some v
def capFact (P : Program) (t : TypeId) (s v : Value) : Prop := ∃ e b n k, P.underlying t = some (.slice e) ∧ s = .slice b n k ∧ k ≤ HALF ∧ v = goInt k
def factK (P : Program) (o : Oper) (T : Tree Value) (v : Value) : Prop := match o.op with
  | .slice t x lo hi mx => sliceFact P t ((rdB x).un T) ((optB lo).un T) ((optB hi).un T) ((optB mx).un T) v
  | .call c => (match c.callee, c.args.toList, c.argTypes[0]? with
    | .builtin .cap, [x], some t => capFact P t ((rdB x).un T) v
    | _, _, _ => False)
  | _ => False
theorem sliceA_und {t : TypeId} {s v : Value} {lo hi mx : Option Value} (h : sliceA P t s lo hi mx = some v) : P.underlying t ≠ some .string := by
  intro e
  unfold sliceA at h
  rw [e] at h
  cases h
theorem fact_execK {enters : FuncId → FKind} {CB : CallB} {o : Oper} {T : Tree Value} {h : AHeap} {v : Value} (hf : factK P o T v) : (execB P enters CB o).un T h = some (v, h) := by
  unfold factK at hf
  split at hf
  · rename_i t x lo hi mx ho
    obtain ⟨h1, h2, h3⟩ := hf
    have slow : slowS P enters (callOf CB) o T h = some (v, h) := by
      rw [slowS_eq]
      unfold coreA opA
      rw [ho]
      simp only [optB_eq, rdB_eq] at h1 h2 h3
      dsimp only
      rw [if_pos h1]
      revert h2 h3
      cases rhoA T x <;> intro h2 h3 <;> first | exact absurd rfl (h2 _) | (simp only [h3])
    unfold execB
    rw [ho]
    cases mx with
    | none =>
      show orElseV ((ssB P t).un ((rdB x).un T) ((optB lo).un T) ((optB hi).un T)) h (slowS P enters (callOf CB) o T h) = _
      have e : (ssB P t).un ((rdB x).un T) ((optB lo).un T) ((optB hi).un T) = none := by
        unfold ssB
        split
        · rename_i hu; exact absurd hu (sliceA_und h3)
        · rfl
      rw [e]
      exact slow
    | some m => exact slow
  · rename_i c ho
    split at hf
    · rename_i x t hc ha ht
      obtain ⟨e, b, n, k, h1, h2, h3, rfl⟩ := hf
      have slow : slowS P enters (callOf CB) o T h = some (goInt k, h) := by
        rw [slowS_eq]
        unfold coreA opA
        rw [ho]
        dsimp only
        rw [hc]
        dsimp only
        rw [rdB_eq] at h2
        have : (c.args.map (rhoA T)).toList = [.slice b n k] := by rw [Array.toList_map, ha, List.map_cons, h2]; rfl
        rw [ht, this]
        dsimp only
        rw [h1]
        dsimp only
        rw [show Nat.ble k HALF = true by rw [Nat.ble_eq]; exact h3]
      unfold execB
      rw [ho]
      dsimp only
      rw [hc]
      exact slow
    · exact hf.elim
  · exact hf.elim
/-! An append to a row of any length, or of such a row to none: what is asked of the lengths is noted. -/
def appN (len n k size : Nat) : Prop := Nat.ble (n + k) 1073741824 = true ∧ Nat.beq (n * size) len = true
def appN0 (R : Row) (o k size : Nat) : Prop := Nat.ble k 1073741824 = true ∧ Nat.ble (o + k * size) R.len = true ∧ (R.part o (k * size)).all isCell = true
def appS (P : Program) (ts : Array TypeId) : Option (TypeId × Nat) := match ts[0]? with
  | some t => match P.underlying t with
    | some (.slice elem) => match P.info? elem with
      | some i => match i.zero with
        | some z => match notIntT P ts[1]? && Nat.beq z.cells.size i.size && Nat.ble i.bytes (2 ^ 14) with
          | true => some (elem, i.size)
          | false => none
        | none => none
      | none => none
    | _ => none
  | none => none
noncomputable def appT (elem : TypeId) (size : Nat) (x y : Value) (h : AHeap) (tp : Tape) (lg : Noted) : Option OutC := match x, y with
  | .slice bx n c, .slice (some ⟨b2, o2, none⟩) k _ => match rowIn (heapGet h b2), Nat.blt h.next h.lim && Nat.blt 0 k with
    | some R, true => match bx with
      | some ⟨b, o, none⟩ => match heapGet h b, Nat.beq c OPEN && Nat.beq o 0 with
        | .cells L t', true => match Nat.beq t' elem && Nat.ble (o2 + k * size) R.len && (Nat.beq (R.part o2 (k * size)).length (k * size) && (R.part o2 (k * size)).all isCell) with
          | true => some ⟨.slice (some ⟨h.next, 0, none⟩) (n + k) OPEN, heapPush (heapPut h b .dead) (.cells (L.more (R.part o2 (k * size))) elem), tp, appN L.len n k size :: lg⟩
          | false => none
        | _, _ => none
      | none => match Nat.beq c 0 && Nat.beq n 0 with
        | true => some ⟨.slice (some ⟨h.next, 0, none⟩) k OPEN, heapPush h (.cells (Row.ofList (R.part o2 (k * size))) elem), tp, appN0 R o2 k size :: lg⟩
        | false => none
      | _ => none
    | _, _ => none
  | _, _ => none
theorem appT_eq {ts : Array TypeId} {elem : TypeId} {size : Nat} {x y : Value} {h : AHeap} {tp : Tape} {lg : Noted} {r : OutC} (hs : appS P ts = some (elem, size)) (e : appT elem size x y h tp lg = some r) (hl : NotedOk r.lg) :
    NotedOk lg ∧ appendZ P ts #[x, y] h = none ∧ appendA P ts #[x, y] h = some (r.v, r.h) := by
  unfold appS at hs
  split at hs <;> try (cases hs; done)
  rename_i t ht
  split at hs <;> try (cases hs; done)
  rename_i el hu
  split at hs <;> try (cases hs; done)
  rename_i i hi
  split at hs <;> try (cases hs; done)
  rename_i z hz
  split at hs <;> try (cases hs; done)
  rename_i hc
  simp only [Option.some.injEq, Prod.mk.injEq] at hs
  obtain ⟨rfl, rfl⟩ := hs
  simp only [Bool.and_eq_true] at hc
  obtain ⟨⟨hc1, hc2⟩, hc3⟩ := hc
  unfold appT at e
  split at e <;> try (cases e; done)
  rename_i bx n c b2 o2 k c2
  split at e <;> try (cases e; done)
  rename_i R hR hw
  rw [heapGet_eq] at hR
  simp only [Bool.and_eq_true] at hw
  obtain ⟨hw1, hw2⟩ := hw
  have hk0 : Nat.beq k 0 = false := by
    rw [Bool.eq_false_iff]
    intro q
    rw [Nat.beq_eq] at q
    rw [Nat.blt_eq] at hw2
    omega
  have ez : appendZ P ts #[.slice bx n c, .slice (some ⟨b2, o2, none⟩) k c2] h = none := by
    unfold appendZ
    rw [ht]
    cases ts[1]? <;> rfl
  have hrow : Nat.ble (o2 + k * i.size) R.len = true → rowOf h i.size k (.slice (some ⟨b2, o2, none⟩) k c2) = some (R.part o2 (k * i.size)) := by
    intro q
    simp only [rowOf, hR]
    rw [q]
  split at e
  · rename_i b o
    split at e <;> try (cases e; done)
    rename_i L t' hb hco
    rw [heapGet_eq] at hb
    split at e <;> try (cases e; done)
    rename_i hx
    simp only [Bool.and_eq_true] at hx hco
    obtain ⟨⟨hx1, hx2⟩, hx4, hx3⟩ := hx
    obtain ⟨hco1, hco2⟩ := hco
    rw [Nat.beq_eq] at hco1 hco2
    subst hco1
    subst hco2
    obtain rfl := Option.some.inj e
    obtain ⟨hn1, hn2⟩ : appN L.len n k i.size := hl _ List.mem_cons_self
    refine ⟨fun x hx => hl x (List.mem_cons_of_mem _ hx), ez, ?_⟩
    unfold appendA
    simp only [List.getElem?_toArray, List.getElem?_cons_zero, List.getElem?_cons_succ, ht, show lenA (.slice (some ⟨b2, o2, none⟩) k c2) = some k from rfl, hu, hi, hrow hx2, hc1, hz, hk0, Bool.false_and, Bool.false_eq_true, if_false, hw1, hw2, hx3, hx4, hc2, hc3, Bool.and_self, show Nat.ble (n + k) (2 ^ 30) = true from hn1, Bool.not_true,
      show Nat.ble OPEN HALF = false from rfl, hb, hx1, show (OPEN - OPEN) * i.size = 0 by rw [Nat.sub_self, Nat.zero_mul], show Nat.beq 0 0 = true from rfl, Nat.zero_add, hn2, if_true]
    rw [heapPush_eq, heapPut_eq]
    rfl
  · split at e <;> try (cases e; done)
    rename_i hcn
    simp only [Bool.and_eq_true, Nat.beq_eq] at hcn
    obtain ⟨rfl, rfl⟩ := hcn
    obtain rfl := Option.some.inj e
    obtain ⟨hn1, hn2, hn3⟩ : appN0 R o2 k i.size := hl _ List.mem_cons_self
    refine ⟨fun x hx => hl x (List.mem_cons_of_mem _ hx), ez, ?_⟩
    have hlen : Nat.beq (R.part o2 (k * i.size)).length (k * i.size) = true := by rw [Row.part_length]; exact Nat.beq_refl _
    unfold appendA
    have hk1 : Nat.ble (0 + k) 0 = false := by
      rw [Bool.eq_false_iff]
      intro q
      rw [Nat.ble_eq] at q
      rw [Nat.blt_eq] at hw2
      omega
    have hro : rowOf h i.size 0 (.slice none 0 0) = some [] := rfl
    have h30 : Nat.ble (0 + k) (2 ^ 30) = true := by rw [Nat.zero_add]; exact hn1
    simp only [List.getElem?_toArray, List.getElem?_cons_zero, List.getElem?_cons_succ, ht, show lenA (.slice (some ⟨b2, o2, none⟩) k c2) = some k from rfl, hu, hi, hrow hn2, hc1, hz, hk0, Bool.false_and, Bool.false_eq_true, if_false, hw1, hw2, hn3, hlen, hc2, hc3, Bool.and_self, h30, Bool.not_true, show Nat.ble 0 HALF = true from rfl, if_true, hk1, hro]
    rw [heapPush_eq]
    simp only [Nat.zero_add, List.nil_append]
  · cases e
theorem fact_pure {o : Oper} {T : Tree Value} {h : AHeap} {v : Value} (hp : isPureOp P o = true) (hf : factB P o T h v) : (pureB P o).un T = some v := by
  unfold factB at hf
  unfold pureB
  split at hf
  · rename_i t x i ho
    rw [ho]; exact hf
  · rename_i t a ho
    unfold isPureOp at hp
    rw [ho] at hp
    cases hp
  · rename_i t x i ho
    rw [ho]
    show opPure P (rhoB T) o = some v
    unfold opPure
    rw [ho, rhoB_eq]
    rw [rdB_eq, rdB_eq] at hf
    exact ixB_some hf
  · rename_i t x lo hi ho
    rw [ho]
    show opPure P (rhoB T) o = some v
    unfold opPure
    rw [ho, rhoB_eq]
    rw [rdB_eq, optB_eq, optB_eq] at hf
    obtain ⟨s, q1, q2, q3, q4, q5⟩ := ssB_some hf
    dsimp only [Option.map_none]
    rw [q1, q2, q3]
    simp only [Bool.and_self, optFlat, if_true]
    exact outPv_some q4 q5
  · rename_i op t x y k ho
    rw [ho]
    show (match (binT P op t).un ((rdB x).un T) ((rdB y).un T) with | some v => some v | none => opPure P (rhoB T) o) = some v
    rw [hf]
  · exact hf.elim
theorem fact_read {o : Oper} {T : Tree Value} {h : AHeap} {v : Value} (hp : isPureOp P o = false) (hf : factB P o T h v) : (readB P o).un T h = some v := by
  unfold factB at hf
  unfold readB
  split at hf
  · rename_i t x i ho
    unfold isPureOp at hp
    rw [ho] at hp
    cases hp
  · rename_i t a ho
    rw [ho]; exact hf
  · rename_i t x i ho
    unfold isPureOp at hp
    rw [ho] at hp
    cases hp
  · rename_i t x lo hi ho
    unfold isPureOp at hp
    rw [ho] at hp
    cases hp
  · rename_i op t x y k ho
    unfold isPureOp at hp
    rw [ho] at hp
    cases hp
  · exact hf.elim
def isNilS : Value → Bool
  | .slice none _ _ => true
  | _ => false
noncomputable def appC (P : Program) (enters : FuncId → FKind) (CB : CallB) (o : Oper) : Box (Tree Value → AHeap → Tape → Noted → Option OutC) := match o.op with
  | .call c => match c.callee, c.args.toList, appS P c.argTypes with
    | .builtin .append, [x, y], some (elem, size) => ⟨fun T h tp lg => match isNilS ((rdB y).un T) with
      | true => withC ((execB P enters CB o).un T h) tp lg
      | false => appT elem size ((rdB x).un T) ((rdB y).un T) h tp lg⟩
    | _, _, _ => ⟨fun _ _ _ _ => none⟩
  | _ => ⟨fun _ _ _ _ => none⟩
theorem appC_eq {enters : FuncId → FKind} {CB : CallB} {o : Oper} {T : Tree Value} {h : AHeap} {tp : Tape} {lg : Noted} {r : OutC} (e : (appC P enters CB o).un T h tp lg = some r) (hl : NotedOk r.lg) :
    NotedOk lg ∧ (execB P enters CB o).un T h = some (r.v, r.h) := by
  unfold appC at e
  split at e
  · rename_i c ho
    split at e
    · rename_i x y elem size hc ha hs
      dsimp only at e
      split at e
      · obtain ⟨q1, q2⟩ := withC_some e
        exact ⟨q2 ▸ hl, q1⟩
      obtain ⟨q1, q2, q3⟩ := appT_eq hs e hl
      refine ⟨q1, ?_⟩
      have slow : slowS P enters (callOf CB) o T h = some (r.v, r.h) := by
        rw [slowS_eq]
        unfold coreA opA
        rw [ho]
        dsimp only
        rw [hc]
        dsimp only
        have : c.args.map (rhoA T) = #[(rdB x).un T, (rdB y).un T] := by
          apply Array.ext'
          rw [Array.toList_map, ha, rdB_eq, rdB_eq]
          rfl
        rw [this, q2]
        dsimp only
        rw [q3]
        rfl
      unfold execB
      rw [ho]
      dsimp only
      rw [hc]
      exact slow
    · cases e
  · cases e
/-- Nothing is appended: where it would lie is noted. -/
noncomputable def appE (P : Program) (o : Oper) : Box (Tree Value → AHeap → Tape → Noted → Option OutC) := match o.op with
  | .call c => match c.callee, c.args.toList, appS P c.argTypes with
    | .builtin .append, [x, y], some _ => ⟨fun T h tp lg => match (rdB x).un T, (rdB y).un T with
      | .slice bx n c, .slice (some ⟨b2, o2, none⟩) 0 _ => (match rowIn (heapGet h b2), Nat.ble n c with
        | some R, true => some ⟨.slice bx n c, h, tp, (Nat.ble o2 R.len = true) :: lg⟩
        | _, _ => none)
      | _, _ => none⟩
    | _, _, _ => ⟨fun _ _ _ _ => none⟩
  | _ => ⟨fun _ _ _ _ => none⟩
theorem appE_eq {enters : FuncId → FKind} {CB : CallB} {o : Oper} {T : Tree Value} {h : AHeap} {tp : Tape} {lg : Noted} {r : OutC} (e : (appE P o).un T h tp lg = some r) (hl : NotedOk r.lg) :
    NotedOk lg ∧ (execB P enters CB o).un T h = some (r.v, r.h) := by
  unfold appE at e
  split at e
  · rename_i c ho
    split at e
    · rename_i x y p hc ha hs
      dsimp only at e
      split at e <;> try (cases e; done)
      rename_i bx n k b2 o2 c2 hx hy
      split at e <;> try (cases e; done)
      rename_i R hR hle
      obtain rfl := Option.some.inj e
      refine ⟨fun z hz => hl z (List.mem_cons_of_mem _ hz), ?_⟩
      have hb : Nat.ble o2 R.len = true := hl _ List.mem_cons_self
      rw [heapGet_eq] at hR
      unfold appS at hs
      split at hs <;> try (cases hs; done)
      rename_i t ht
      split at hs <;> try (cases hs; done)
      rename_i el hu
      split at hs <;> try (cases hs; done)
      rename_i i hi
      split at hs <;> try (cases hs; done)
      rename_i z hz
      split at hs <;> try (cases hs; done)
      rename_i hc2
      simp only [Bool.and_eq_true] at hc2
      obtain ⟨⟨hc3, _⟩, _⟩ := hc2
      have ez : appendZ P c.argTypes #[.slice bx n k, .slice (some ⟨b2, o2, none⟩) 0 c2] h = none := by
        unfold appendZ
        rw [ht]
        cases c.argTypes[1]? <;> rfl
      have hrow : rowOf h i.size 0 (.slice (some ⟨b2, o2, none⟩) 0 c2) = some [] := by
        simp only [rowOf, hR]
        rw [Nat.zero_mul, Nat.add_zero, hb]
        dsimp only
        have : (R.part o2 0) = [] := List.eq_nil_of_length_eq_zero (Row.part_length _ _ _)
        rw [this]
      have ea : appendA P c.argTypes #[.slice bx n k, .slice (some ⟨b2, o2, none⟩) 0 c2] h = some (.slice bx n k, h) := by
        unfold appendA
        simp only [List.getElem?_toArray, List.getElem?_cons_zero, List.getElem?_cons_succ, ht, show lenA (.slice (some ⟨b2, o2, none⟩) 0 c2) = some 0 from rfl, hu, hi, hrow, hc3, hz, hle, show Nat.beq 0 0 = true from rfl, List.isEmpty_nil, Bool.and_self, if_true]
      have slow : slowS P enters (callOf CB) o T h = some (.slice bx n k, h) := by
        rw [slowS_eq]
        unfold coreA opA
        rw [ho]
        dsimp only
        rw [hc]
        dsimp only
        have : c.args.map (rhoA T) = #[.slice bx n k, .slice (some ⟨b2, o2, none⟩) 0 c2] := by
          apply Array.ext'
          rw [rdB_eq] at hx hy
          rw [Array.toList_map, ha, ← hx, ← hy]
          rfl
        rw [this, ez]
        dsimp only
        rw [ea]
        rfl
      unfold execB
      rw [ho]
      dsimp only
      rw [hc]
      exact slow
    · cases e
  · cases e
/-! The next character of a text, and a text as bytes, told. -/
def nextFact (s : ByteArray) (pos : Nat) (v : Value) (p : Nat) : Prop := Nat.blt pos s.size = true ∧ ∃ c width, Utf8.decode s pos = (c, width) ∧ v = .tuple #[.bool true, goInt pos, .int .i32 c] ∧ p = pos + width
noncomputable def nextT (it : Value) (h : AHeap) (tp : Tape) (lg : Noted) : Option OutC := match it with
  | .pointer (some ⟨b, 0, none⟩) => match heapGet h b with
    | .iter s pos => match tp with
      | .tuple ⟨[.bool true, x, y]⟩ :: .int _ (.ofNat p) :: tp' => some ⟨.tuple ⟨[.bool true, x, y]⟩, heapPut h b (.iter s p), tp', nextFact s pos (.tuple ⟨[.bool true, x, y]⟩) p :: lg⟩
      | .tuple ⟨[.bool false]⟩ :: tp' => some ⟨.tuple ⟨[.bool false]⟩, h, tp', (Nat.blt pos s.size = false) :: lg⟩
      | _ => none
    | _ => none
  | _ => none
theorem nextT_eq {it : Value} {h : AHeap} {tp : Tape} {lg : Noted} {r : OutC} (e : nextT it h tp lg = some r) (hl : NotedOk r.lg) : NotedOk lg ∧ nextA it h = some (r.v, r.h) := by
  unfold nextT at e
  split at e <;> try (cases e; done)
  rename_i b
  split at e <;> try (cases e; done)
  rename_i s pos hb
  rw [heapGet_eq] at hb
  split at e
  · rename_i x y _ p tp2
    obtain rfl := Option.some.inj e
    refine ⟨fun z hz => hl z (List.mem_cons_of_mem _ hz), ?_⟩
    obtain ⟨h1, c, width, h2, h3, h4⟩ : nextFact s pos (.tuple ⟨[.bool true, x, y]⟩) p := hl _ List.mem_cons_self
    unfold nextA
    simp only [hb]
    rw [h1, h2, h3, h4, heapPut_eq]
    rfl
  · obtain rfl := Option.some.inj e
    refine ⟨fun z hz => hl z (List.mem_cons_of_mem _ hz), ?_⟩
    have h1 : _ = false := hl _ List.mem_cons_self
    unfold nextA
    simp only [hb]
    rw [h1]
    rfl
  · cases e
noncomputable def nextC (_P : Program) (o : Oper) : Box (Tree Value → AHeap → Tape → Noted → Option OutC) := match o.op with
  | .next it true => ⟨fun T h tp lg => nextT ((rdB it).un T) h tp lg⟩
  | _ => ⟨fun _ _ _ _ => none⟩
theorem nextC_eq {enters : FuncId → FKind} {CB : CallB} {o : Oper} {T : Tree Value} {h : AHeap} {tp : Tape} {lg : Noted} {r : OutC} (e : (nextC P o).un T h tp lg = some r) (hl : NotedOk r.lg) :
    NotedOk lg ∧ (execB P enters CB o).un T h = some (r.v, r.h) := by
  unfold nextC at e
  split at e
  · rename_i it ho
    obtain ⟨q1, q2⟩ := nextT_eq e hl
    refine ⟨q1, ?_⟩
    have slow : slowS P enters (callOf CB) o T h = some (r.v, r.h) := by
      rw [slowS_eq]
      unfold coreA opA
      rw [ho]
      dsimp only
      rw [rdB_eq] at q2
      rw [q2]
      rfl
    unfold execB
    rw [ho]
    exact slow
  · cases e
/-- A text as a row of bytes, whatever its length. -/
noncomputable def bytesC (P : Program) (o : Oper) : Box (Tree Value → AHeap → Tape → Noted → Option OutC) := match o.op with
  | .convert src dst x => match P.underlying src, P.underlying dst with
    | some .string, some (.slice e) => match P.underlying e, P.info? e with
      | some (.int .u8), some i => match Nat.beq i.size 1 with
        | true => ⟨fun T h tp lg => match (rdB x).un T with
          | .string s => match Nat.blt h.next h.lim with
            | true => some ⟨.slice (some ⟨h.next, 0, none⟩) s.size OPEN, heapPush h (.cells (Row.ofList (bytesOf s)) e), tp, (Nat.blt s.size (2 ^ 47) = true) :: lg⟩
            | false => none
          | _ => none⟩
        | false => ⟨fun _ _ _ _ => none⟩
      | _, _ => ⟨fun _ _ _ _ => none⟩
    | _, _ => ⟨fun _ _ _ _ => none⟩
  | _ => ⟨fun _ _ _ _ => none⟩
theorem bytesC_eq {enters : FuncId → FKind} {CB : CallB} {o : Oper} {T : Tree Value} {h : AHeap} {tp : Tape} {lg : Noted} {r : OutC} (e : (bytesC P o).un T h tp lg = some r) (hl : NotedOk r.lg) :
    NotedOk lg ∧ (execB P enters CB o).un T h = some (r.v, r.h) := by
  unfold bytesC at e
  split at e <;> try (cases e; done)
  rename_i src dst x ho
  split at e <;> try (cases e; done)
  rename_i el h1 h2
  split at e <;> try (cases e; done)
  rename_i i h3 h4
  split at e <;> try (cases e; done)
  rename_i h5
  dsimp only at e
  split at e <;> try (cases e; done)
  rename_i s hs
  split at e <;> try (cases e; done)
  rename_i hw
  obtain rfl := Option.some.inj e
  refine ⟨fun z hz => hl z (List.mem_cons_of_mem _ hz), ?_⟩
  have hsz : Nat.blt s.size (2 ^ 47) = true := hl _ List.mem_cons_self
  have slow : slowS P enters (callOf CB) o T h = some (.slice (some ⟨h.next, 0, none⟩) s.size OPEN, heapPush h (.cells (Row.ofList (bytesOf s)) el)) := by
    rw [slowS_eq]
    unfold coreA opA
    rw [ho]
    dsimp only
    rw [rdB_eq] at hs
    rw [hs, h1, h2]
    dsimp only
    rw [h3, h4]
    dsimp only
    rw [hw, h5, hsz, heapPush_eq]
    rfl
  unfold execB
  rw [ho]
  dsimp only
  rw [h1, h2]
  exact slow
/-! A call of what is known, told: what it gives over every memory is noted. -/
noncomputable def callT (enters : FuncId → FKind) (CB : CallB) (o : Oper) : Box (Tree Value → AHeap → Tape → Noted → Option OutC) := match o.op with
  | .call c => match c.callee with
    | .value (.func g) => match enters g with
      | .enter => ⟨fun T h tp lg => match tp with | [] => none | v :: tp => some ⟨v, h, tp, (∀ h' : AHeap, (CB g).un ⟨(argsB c.args.toList).un T⟩ h' = some (v, h')) :: lg⟩⟩
      | _ => ⟨fun _ _ _ _ => none⟩
    | _ => ⟨fun _ _ _ _ => none⟩
  | _ => ⟨fun _ _ _ _ => none⟩
theorem callT_eq {enters : FuncId → FKind} {CB : CallB} {o : Oper} {T : Tree Value} {h : AHeap} {tp : Tape} {lg : Noted} {r : OutC} (e : (callT enters CB o).un T h tp lg = some r) (hl : NotedOk r.lg) :
    NotedOk lg ∧ (execB P enters CB o).un T h = some (r.v, r.h) := by
  unfold callT at e
  split at e
  · rename_i c ho
    split at e
    · rename_i g hg
      split at e
      · rename_i hen
        dsimp only at e
        split at e
        · cases e
        · rename_i v tp2
          obtain rfl := Option.some.inj e
          refine ⟨fun z hz => hl z (List.mem_cons_of_mem _ hz), ?_⟩
          have hf : ∀ h' : AHeap, (CB g).un ⟨(argsB c.args.toList).un T⟩ h' = some (v, h') := hl _ List.mem_cons_self
          unfold execB
          rw [ho]; dsimp only; rw [hg]; dsimp only; rw [hen]
          exact hf h
      · cases e
    · cases e
  · cases e
/-- The same where one block is looked at: the memories are those that hold there what this one does. -/
noncomputable def callK (enters : FuncId → FKind) (CB : CallB) (k : Nat) (o : Oper) : Box (Tree Value → AHeap → Tape → Noted → Option OutC) := match o.op with
  | .call c => match c.callee with
    | .value (.func g) => match enters g with
      | .enter => ⟨fun T h tp lg => match tp with | [] => none | v :: tp => some ⟨v, h, tp, (∀ h' : AHeap, heapGet h' k = heapGet h k → (CB g).un ⟨(argsB c.args.toList).un T⟩ h' = some (v, h')) :: lg⟩⟩
      | _ => ⟨fun _ _ _ _ => none⟩
    | _ => ⟨fun _ _ _ _ => none⟩
  | _ => ⟨fun _ _ _ _ => none⟩
theorem callK_eq {enters : FuncId → FKind} {CB : CallB} {k : Nat} {o : Oper} {T : Tree Value} {h : AHeap} {tp : Tape} {lg : Noted} {r : OutC} (e : (callK enters CB k o).un T h tp lg = some r) (hl : NotedOk r.lg) :
    NotedOk lg ∧ (execB P enters CB o).un T h = some (r.v, r.h) := by
  unfold callK at e
  split at e
  · rename_i c ho
    split at e
    · rename_i g hg
      split at e
      · rename_i hen
        dsimp only at e
        split at e
        · cases e
        · rename_i v tp2
          obtain rfl := Option.some.inj e
          refine ⟨fun z hz => hl z (List.mem_cons_of_mem _ hz), ?_⟩
          have hf : ∀ h' : AHeap, heapGet h' k = heapGet h k → (CB g).un ⟨(argsB c.args.toList).un T⟩ h' = some (v, h') := hl _ List.mem_cons_self
          unfold execB
          rw [ho]; dsimp only; rw [hg]; dsimp only; rw [hen]
          exact hf h rfl
      · cases e
    · cases e
  · cases e
noncomputable def execC (P : Program) (enters : FuncId → FKind) (CB : CallB) (CC : CallC) (mk : Mk) (o : Oper) : Box (Tree Value → AHeap → Tape → Noted → Option OutC) :=
  match markOf mk o.dst with
  | 0 => coreC P enters CB CC o
  | 1 => ⟨fun T h tp lg => match (coreC P enters CB CC o).un T h tp lg with | some r => tellC r | none => none⟩
  | 4 => ⟨fun T h tp lg => match tp with | [] => none | v :: tp => some ⟨v, h, tp, factO P o T h v :: lg⟩⟩
  | 5 => ⟨fun T h tp lg => match tp with | [] => none | v :: tp => some ⟨v, h, tp, factK P o T v :: lg⟩⟩
  | 6 => appC P enters CB o
  | 7 => nextC P o
  | 8 => bytesC P o
  | 9 => callT enters CB o
  | 10 => callK enters CB (mk 1000000) o
  | 11 => appE P o
  | _ => ⟨fun T h tp lg => match tp with | [] => none | v :: tp => some ⟨v, h, tp, factB P o T h v :: lg⟩⟩
theorem coreC_eq {enters : FuncId → FKind} {CB : CallB} {CC : CallC} (hC : CallEq CB CC) {o : Oper} {T : Tree Value} {h : AHeap} {tp : Tape} {lg : Noted} {r : OutC} (e : (coreC P enters CB CC o).un T h tp lg = some r) (hl : NotedOk r.lg) :
    NotedOk lg ∧ (execB P enters CB o).un T h = some (r.v, r.h) := by
  have plain : withC ((execB P enters CB o).un T h) tp lg = some r → NotedOk lg ∧ (execB P enters CB o).un T h = some (r.v, r.h) := by
    intro q
    obtain ⟨q1, q2⟩ := withC_some q
    exact ⟨q2 ▸ hl, q1⟩
  unfold coreC at e
  split at e
  · rename_i c ho
    split at e
    · rename_i g hg
      split at e
      · rename_i hen
        dsimp only at e
        obtain ⟨q1, q2⟩ := hC _ _ _ _ _ _ e hl
        refine ⟨q1, ?_⟩
        unfold execB
        rw [ho]; dsimp only; rw [hg]; dsimp only; rw [hen]
        exact q2
      · exact plain e
    · rename_i x hx hg
      dsimp only at e
      split at e
      · rename_i g first cap hf
        split at e
        · rename_i hen
          obtain ⟨q1, q2⟩ := hC _ _ _ _ _ _ e hl
          refine ⟨q1, ?_⟩
          have slow : slowS P enters (callOf CB) o T h = some (r.v, r.h) := by
            rw [slowS_eq]
            unfold coreA opA
            rw [ho]
            dsimp only
            rw [hg]
            dsimp only
            rw [rdB_eq] at hf
            rw [hf]
            dsimp only
            rw [hen]
            dsimp only
            unfold callOf
            rw [argsB_eq, listOf_eq, listOf_eq] at q2
            have ea : (first ++ Array.map (rhoA T) c.args ++ cap : Array Value) = ⟨first.toList ++ (List.map (rhoA T) c.args.toList ++ cap.toList)⟩ := by
              apply Array.ext'
              simp only [Array.toList_append, Array.toList_map, List.append_assoc]
            rw [ea]
            exact q2
          unfold execB
          rw [ho]
          dsimp only
          rw [hg]
          cases x with
          | func g' => exact absurd rfl (hx g')
          | _ => exact slow
        · exact plain e
      · exact plain e
    · exact plain e
  · exact plain e
theorem tellC_some {r r2 : OutC} (e : tellC r = some r2) (hl : NotedOk r2.lg) : NotedOk r.lg ∧ r2.v = r.v ∧ r2.h = r.h := by
  unfold tellC at e
  split at e
  · cases e; exact ⟨hl, rfl, rfl⟩
  · cases e
    exact ⟨fun x hx => hl x (List.mem_cons_of_mem _ hx), (hl _ List.mem_cons_self).symm, rfl⟩
theorem execC_eq {enters : FuncId → FKind} {CB : CallB} {CC : CallC} (hC : CallEq CB CC) {mk : Mk} {o : Oper} {T : Tree Value} {h : AHeap} {tp : Tape} {lg : Noted} {r : OutC} (e : (execC P enters CB CC mk o).un T h tp lg = some r) (hl : NotedOk r.lg) :
    NotedOk lg ∧ (execB P enters CB o).un T h = some (r.v, r.h) := by
  unfold execC at e
  split at e
  · exact coreC_eq hC e hl
  · dsimp only at e
    split at e
    · rename_i r1 h1
      obtain ⟨q1, q2, q3⟩ := tellC_some e hl
      obtain ⟨p1, p2⟩ := coreC_eq hC h1 q1
      exact ⟨p1, by rw [q2, q3]; exact p2⟩
    · cases e
  · dsimp only at e
    split at e
    · cases e
    · cases e
      exact ⟨fun x hx => hl x (List.mem_cons_of_mem _ hx), fact_exec (factO_B (hl _ List.mem_cons_self))⟩
  · dsimp only at e
    split at e
    · cases e
    · cases e
      exact ⟨fun x hx => hl x (List.mem_cons_of_mem _ hx), fact_execK (hl _ List.mem_cons_self)⟩
  · exact appC_eq e hl
  · exact nextC_eq e hl
  · exact bytesC_eq e hl
  · exact callT_eq e hl
  · exact callK_eq e hl
  · exact appE_eq e hl
  · dsimp only at e
    split at e
    · cases e
    · cases e
      exact ⟨fun x hx => hl x (List.mem_cons_of_mem _ hx), fact_exec (hl _ List.mem_cons_self)⟩

noncomputable def stepC (P : Program) (enters : FuncId → FKind) (CB : CallB) (CC : CallC) (mk : Mk) (ops : Array Oper) (o : Oper) : Box (Tree Value → AHeap → Tape → Noted → Option OutC) :=
  match o.guard with
  | none => execC P enters CB CC mk o
  | some (j, want) => match (ops[j]?).bind (·.dst) with
    | some d => ⟨fun T h tp lg => vBool ((getB undef (Path.of d)).un T) (fun b => match sameB b want with | true => (execC P enters CB CC mk o).un T h tp lg | false => some ⟨undef, h, tp, lg⟩) (some ⟨undef, h, tp, lg⟩)⟩
    | none => ⟨fun _ h tp lg => some ⟨undef, h, tp, lg⟩⟩
theorem stepC_eq {enters : FuncId → FKind} {CB : CallB} {CC : CallC} (hC : CallEq CB CC) {mk : Mk} {ops : Array Oper} {o : Oper} {T : Tree Value} {h : AHeap} {tp : Tape} {lg : Noted} {r : OutC} (e : (stepC P enters CB CC mk ops o).un T h tp lg = some r) (hl : NotedOk r.lg) :
    NotedOk lg ∧ (stepB P enters CB ops o).un T h = some (r.v, r.h) := by
  unfold stepC at e
  unfold stepB
  split at e
  · rename_i hg
    rw [hg]
    exact execC_eq hC e hl
  · rename_i j want hg
    rw [hg]
    dsimp only
    split at e
    · rename_i d hd
      dsimp only at e
      rw [hd]
      dsimp only
      rcases vBool_ways (v := (getB undef (Path.of d)).un T) (f := fun b => match sameB b want with | true => (execC P enters CB CC mk o).un T h tp lg | false => some ⟨undef, h, tp, lg⟩) (d := some ⟨undef, h, tp, lg⟩) with ⟨b, hb, q⟩ | ⟨hb, q⟩
      · rw [q] at e
        rw [hb]
        show NotedOk lg ∧ (match sameB b want with | true => (execB P enters CB o).un T h | false => some (undef, h)) = some (r.v, r.h)
        cases hs : sameB b want with
        | true => rw [hs] at e; exact execC_eq hC e hl
        | false => rw [hs] at e; cases e; exact ⟨hl, rfl⟩
      · rw [q] at e
        cases e
        refine ⟨hl, ?_⟩
        generalize (getB undef (Path.of d)).un T = y at hb
        cases y <;> first | rfl | exact absurd rfl (hb _)
    · rename_i hd
      rw [hd]
      cases e
      exact ⟨hl, rfl⟩
structure OutT where
  T : Tree Value
  h : AHeap
  tp : Tape
  lg : Noted
noncomputable def opsC (P : Program) (enters : FuncId → FKind) (CB : CallB) (CC : CallC) (mk : Mk) (ops : Array Oper) : List Oper → Box (Tree Value → AHeap → Tape → Noted → Option OutT)
  | [] => ⟨fun T h tp lg => some ⟨T, h, tp, lg⟩⟩
  | o :: r => ⟨fun T h tp lg => match (stepC P enters CB CC mk ops o).un T h tp lg with | some ⟨v, h', tp', lg'⟩ => (opsC P enters CB CC mk ops r).un ((putB o.dst).un T v) h' tp' lg' | none => none⟩
theorem opsC_eq {enters : FuncId → FKind} {CB : CallB} {CC : CallC} (hC : CallEq CB CC) {mk : Mk} {ops : Array Oper} : ∀ {l : List Oper} {T : Tree Value} {h : AHeap} {tp : Tape} {lg : Noted} {r : OutT}, (opsC P enters CB CC mk ops l).un T h tp lg = some r → NotedOk r.lg →
    NotedOk lg ∧ (opsB P enters CB ops l).un T h = some (r.T, r.h) := by
  intro l
  induction l with
  | nil => intro T h tp lg r e hl; cases e; exact ⟨hl, rfl⟩
  | cons o l ih =>
    intro T h tp lg r e hl
    simp only [opsC] at e
    split at e
    · rename_i v h' tp' lg' h1
      obtain ⟨q1, q2⟩ := ih e hl
      obtain ⟨p1, p2⟩ := stepC_eq hC h1 q1
      refine ⟨p1, ?_⟩
      simp only [opsB]
      rw [p2]
      exact q2
    · cases e


/-- In drawn regions: a call may be told. -/
noncomputable def coreM (P : Program) (enters : FuncId → FKind) (CB : CallB) (CC : CallC) (mk : Mk) (o : Oper) : Box (Tree Value → AHeap → Tape → Noted → Option OutC) := match markOf mk o.dst with
  | 6 => appC P enters CB o
  | 9 => callT enters CB o
  | 10 => callK enters CB (mk 1000000) o
  | _ => coreC P enters CB CC o
theorem coreM_eq {enters : FuncId → FKind} {CB : CallB} {CC : CallC} (hC : CallEq CB CC) {mk : Mk} {o : Oper} {T : Tree Value} {h : AHeap} {tp : Tape} {lg : Noted} {r : OutC} (e : (coreM P enters CB CC mk o).un T h tp lg = some r) (hl : NotedOk r.lg) :
    NotedOk lg ∧ (execB P enters CB o).un T h = some (r.v, r.h) := by
  unfold coreM at e
  split at e
  · exact appC_eq e hl
  · exact callT_eq e hl
  · exact callK_eq e hl
  · exact coreC_eq hC e hl
/-! ### Regions that draw their order, told -/
/-- A part of a slice, told, in a drawn region. -/
def factS (P : Program) (o : Oper) (T : Tree Value) (v : Value) : Prop := match o.op with
  | .slice t x lo hi mx => sliceFact P t ((rdB x).un T) ((optB lo).un T) ((optB hi).un T) ((optB mx).un T) v
  | _ => False
theorem fact_pureS {o : Oper} {T : Tree Value} {v : Value} (hf : factS P o T v) : (pureB P o).un T = some v := by
  unfold factS at hf
  unfold pureB
  split at hf
  · rename_i t x lo hi mx ho
    obtain ⟨h1, h2, h3⟩ := hf
    rw [ho]
    show opPure P (rhoB T) o = some v
    unfold opPure
    rw [ho, rhoB_eq]
    simp only [optB_eq, rdB_eq] at h1 h2 h3
    dsimp only
    rw [if_pos h1]
    revert h2 h3
    cases rhoA T x <;> intro h2 h3 <;> first | exact absurd rfl (h2 _) | exact h3
  · exact hf.elim
structure GoT where
  r : GoR
  tp : Tape
  lg : Noted
abbrev GoTF := Nat → Tree Value → AHeap → List (Nat × AObj) → Tape → Noted → Option GoT
def tellG (v : Value) (tp : Tape) (lg : Noted) (f : Value → Tape → Noted → Option GoT) : Option GoT := match tp with
  | [] => f v [] lg
  | v' :: tp' => f v' tp' ((v = v') :: lg)
def consGT (G : AHeap) (x : Option GoT) : Option GoT := match x with
  | some ⟨⟨T, Gs, os, ck⟩, tp, lg⟩ => some ⟨⟨T, G :: Gs, os, ck⟩, tp, lg⟩
  | none => none
def consCT (c : Nat × Tree Value × Value) (x : Option GoT) : Option GoT := match x with
  | some ⟨⟨T, Gs, os, ck⟩, tp, lg⟩ => some ⟨⟨T, Gs, os, c :: ck⟩, tp, lg⟩
  | none => none
theorem consGT_some {G : AHeap} {x : Option GoT} {r : GoT} (h : consGT G x = some r) : ∃ y, x = some y ∧ r = ⟨⟨y.r.T, G :: y.r.Gs, y.r.os, y.r.ck⟩, y.tp, y.lg⟩ := by
  cases x with
  | none => cases h
  | some y => exact ⟨y, rfl, (Option.some.inj h).symm⟩
theorem consCT_some {c : Nat × Tree Value × Value} {x : Option GoT} {r : GoT} (h : consCT c x = some r) : ∃ y, x = some y ∧ r = ⟨⟨y.r.T, y.r.Gs, y.r.os, c :: y.r.ck⟩, y.tp, y.lg⟩ := by
  cases x with
  | none => cases h
  | some y => exact ⟨y, rfl, (Option.some.inj h).symm⟩
noncomputable def goT (P : Program) (enters : FuncId → FKind) (CB : CallB) (CC : CallC) (mk : Mk) (ops : Array Oper) (ms : List Nat) : List Oper → Nat → Box GoTF
  | [], _ => ⟨fun _ T _ objs tp lg => some ⟨⟨T, [], objs, []⟩, tp, lg⟩⟩
  | o :: rest, j => match clsOf P o with
    | .plain => match isPureOp P o with
      | true => match markOf mk o.dst with
        | 1 => ⟨fun base T G objs tp lg => match (wantB ops o).un T with
          | false => consGT G ((goT P enters CB CC mk ops ms rest (j + 1)).un base ((putB o.dst).un T undef) G objs tp lg)
          | true => match (pureB P o).un T with
            | some v => tellG v tp lg (fun v' tp' lg' => consGT G ((goT P enters CB CC mk ops ms rest (j + 1)).un base ((putB o.dst).un T v') G objs tp' lg'))
            | none => none⟩
        | 2 => ⟨fun base T G objs tp lg => match (wantB ops o).un T with
          | false => consGT G ((goT P enters CB CC mk ops ms rest (j + 1)).un base ((putB o.dst).un T undef) G objs tp lg)
          | true => match tp with
            | v :: tp' => consGT G ((goT P enters CB CC mk ops ms rest (j + 1)).un base ((putB o.dst).un T v) G objs tp' (factB P o T G v :: lg))
            | [] => none⟩
        | 5 => ⟨fun base T G objs tp lg => match (wantB ops o).un T with
          | false => consGT G ((goT P enters CB CC mk ops ms rest (j + 1)).un base ((putB o.dst).un T undef) G objs tp lg)
          | true => match tp with
            | v :: tp' => consGT G ((goT P enters CB CC mk ops ms rest (j + 1)).un base ((putB o.dst).un T v) G objs tp' (factS P o T v :: lg))
            | [] => none⟩
        | _ => ⟨fun base T G objs tp lg => match (wantB ops o).un T with
          | false => consGT G ((goT P enters CB CC mk ops ms rest (j + 1)).un base ((putB o.dst).un T undef) G objs tp lg)
          | true => match (pureB P o).un T with
            | some v => consGT G ((goT P enters CB CC mk ops ms rest (j + 1)).un base ((putB o.dst).un T v) G objs tp lg)
            | none => none⟩
      | false => match (todoAt P ops ms j).isEmpty with
        | true => match markOf mk o.dst with
          | 2 => ⟨fun base T G objs tp lg => match (wantB ops o).un T with
            | false => consGT G ((goT P enters CB CC mk ops ms rest (j + 1)).un base ((putB o.dst).un T undef) G objs tp lg)
            | true => match tp with
              | v :: tp' => consGT G ((goT P enters CB CC mk ops ms rest (j + 1)).un base ((putB o.dst).un T v) G objs tp' (factB P o T (fillB (prd ms j) base objs G) v :: lg))
              | [] => none⟩
          | 4 => ⟨fun base T G objs tp lg => match (wantB ops o).un T with
            | false => consGT G ((goT P enters CB CC mk ops ms rest (j + 1)).un base ((putB o.dst).un T undef) G objs tp lg)
            | true => match tp with
              | v :: tp' => consGT G ((goT P enters CB CC mk ops ms rest (j + 1)).un base ((putB o.dst).un T v) G objs tp' (factO P o T (fillB (prd ms j) base objs G) v :: lg))
              | [] => none⟩
          | _ => ⟨fun base T G objs tp lg => match (wantB ops o).un T with
            | false => consGT G ((goT P enters CB CC mk ops ms rest (j + 1)).un base ((putB o.dst).un T undef) G objs tp lg)
            | true => match (readB P o).un T (fillB (prd ms j) base objs G) with
              | some v => consGT G ((goT P enters CB CC mk ops ms rest (j + 1)).un base ((putB o.dst).un T v) G objs tp lg)
              | none => none⟩
        | false => ⟨fun base T G objs tp lg => match (wantB ops o).un T with
          | false => consGT G ((goT P enters CB CC mk ops ms rest (j + 1)).un base ((putB o.dst).un T undef) G objs tp lg)
          | true => match (readB P o).un T (fillB (prd ms j) base objs G) with
            | some v => consCT (j, T, v) (consGT G ((goT P enters CB CC mk ops ms rest (j + 1)).un base ((putB o.dst).un T v) G objs tp lg))
            | none => none⟩
    | .alloc => ⟨fun base T G objs tp lg => match (wantB ops o).un T with
      | false => consGT G ((goT P enters CB CC mk ops ms rest (j + 1)).un base ((putB o.dst).un T undef) G objs tp lg)
      | true => match opN P (rhoB T) o (base + j) with
        | some (v, ob) => consGT G ((goT P enters CB CC mk ops ms rest (j + 1)).un base ((putB o.dst).un T v) G ((j, ob) :: objs) tp lg)
        | none => none⟩
    | .loud => ⟨fun base T G objs tp lg => match (wantB ops o).un T with
      | false => consGT G ((goT P enters CB CC mk ops ms rest (j + 1)).un base ((putB o.dst).un T undef) G objs tp lg)
      | true => match (coreM P enters CB CC mk o).un T (fillB (prd ms j) base objs G) tp lg with
        | some ⟨v, G', tp', lg'⟩ => match liveB base objs (fillB (prd ms j) base objs G) G' with
          | true => consGT G' ((goT P enters CB CC mk ops ms rest (j + 1)).un base ((putB o.dst).un T v) G' objs tp' lg')
          | false => none
        | none => none⟩
theorem goT_eq {enters : FuncId → FKind} {CB : CallB} {CC : CallC} (hC : CallEq CB CC) {mk : Mk} {ops : Array Oper} {ms : List Nat} {base : Nat} : ∀ (l : List Oper) (j : Nat) (T : Tree Value) (G : AHeap) (objs : List (Nat × AObj)) (tp : Tape) (lg : Noted) (r : GoT),
    (goT P enters CB CC mk ops ms l j).un base T G objs tp lg = some r → NotedOk r.lg → NotedOk lg ∧ (goB P enters CB ops ms l j).un base T G objs = some r.r := by
  intro l
  induction l with
  | nil =>
    intro j T G objs tp lg r e hl
    simp only [goT, Option.some.injEq] at e
    subst e
    exact ⟨hl, rfl⟩
  | cons o rest ih =>
    intro j T G objs tp lg r e hl
    have step : ∀ {G1 : AHeap} {T1 : Tree Value} {objs1 : List (Nat × AObj)} {tp1 : Tape} {lg1 : Noted} {r : GoT}, consGT G1 ((goT P enters CB CC mk ops ms rest (j + 1)).un base T1 G1 objs1 tp1 lg1) = some r → NotedOk r.lg →
        NotedOk lg1 ∧ consG G1 ((goB P enters CB ops ms rest (j + 1)).un base T1 G1 objs1) = some r.r := by
      intro G1 T1 objs1 tp1 lg1 r e hl
      obtain ⟨y, hy, rfl⟩ := consGT_some e
      obtain ⟨q1, q2⟩ := ih _ _ _ _ _ _ _ hy hl
      exact ⟨q1, by rw [q2]; rfl⟩
    simp only [goT] at e
    simp only [goB]
    cases hc : clsOf P o with
    | plain =>
      rw [hc] at e
      dsimp only at e ⊢
      cases hp : isPureOp P o with
      | true =>
        rw [hp] at e
        dsimp only at e ⊢
        split at e
        · dsimp only at e
          cases hw : (wantB ops o).un T with
          | false => rw [hw] at e; exact step e hl
          | true =>
            rw [hw] at e
            dsimp only at e ⊢
            cases hv : (pureB P o).un T with
            | none => rw [hv] at e; cases e
            | some v =>
              rw [hv] at e
              dsimp only at e ⊢
              cases tp with
              | nil => exact step e hl
              | cons v' tp' =>
                obtain ⟨q1, q2⟩ := step e hl
                have hvv : v = v' := q1 _ List.mem_cons_self
                subst hvv
                exact ⟨fun x hx => q1 x (List.mem_cons_of_mem _ hx), q2⟩
        · dsimp only at e
          cases hw : (wantB ops o).un T with
          | false => rw [hw] at e; exact step e hl
          | true =>
            rw [hw] at e
            dsimp only at e ⊢
            cases tp with
            | nil => cases e
            | cons v tp' =>
              obtain ⟨q1, q2⟩ := step e hl
              rw [fact_pure hp (q1 _ List.mem_cons_self)]
              exact ⟨fun x hx => q1 x (List.mem_cons_of_mem _ hx), q2⟩
        · dsimp only at e
          cases hw : (wantB ops o).un T with
          | false => rw [hw] at e; exact step e hl
          | true =>
            rw [hw] at e
            dsimp only at e ⊢
            cases tp with
            | nil => cases e
            | cons v tp' =>
              obtain ⟨q1, q2⟩ := step e hl
              rw [fact_pureS (q1 _ List.mem_cons_self)]
              exact ⟨fun x hx => q1 x (List.mem_cons_of_mem _ hx), q2⟩
        · dsimp only at e
          cases hw : (wantB ops o).un T with
          | false => rw [hw] at e; exact step e hl
          | true =>
            rw [hw] at e
            dsimp only at e ⊢
            cases hv : (pureB P o).un T with
            | none => rw [hv] at e; cases e
            | some v => rw [hv] at e; exact step e hl
      | false =>
        rw [hp] at e
        dsimp only at e ⊢
        cases ht : (todoAt P ops ms j).isEmpty with
        | true =>
          rw [ht] at e
          dsimp only at e ⊢
          split at e
          · dsimp only at e
            cases hw : (wantB ops o).un T with
            | false => rw [hw] at e; exact step e hl
            | true =>
              rw [hw] at e
              dsimp only at e ⊢
              cases tp with
              | nil => cases e
              | cons v tp' =>
                obtain ⟨q1, q2⟩ := step e hl
                rw [fact_read hp (q1 _ List.mem_cons_self)]
                exact ⟨fun x hx => q1 x (List.mem_cons_of_mem _ hx), q2⟩
          · dsimp only at e
            cases hw : (wantB ops o).un T with
            | false => rw [hw] at e; exact step e hl
            | true =>
              rw [hw] at e
              dsimp only at e ⊢
              cases tp with
              | nil => cases e
              | cons v tp' =>
                obtain ⟨q1, q2⟩ := step e hl
                rw [fact_read hp (factO_B (q1 _ List.mem_cons_self))]
                exact ⟨fun x hx => q1 x (List.mem_cons_of_mem _ hx), q2⟩
          · dsimp only at e
            cases hw : (wantB ops o).un T with
            | false => rw [hw] at e; exact step e hl
            | true =>
              rw [hw] at e
              dsimp only at e ⊢
              cases hv : (readB P o).un T (fillB (prd ms j) base objs G) with
              | none => rw [hv] at e; cases e
              | some v => rw [hv] at e; exact step e hl
        | false =>
          rw [ht] at e
          dsimp only at e ⊢
          cases hw : (wantB ops o).un T with
          | false => rw [hw] at e; exact step e hl
          | true =>
            rw [hw] at e
            dsimp only at e ⊢
            cases hv : (readB P o).un T (fillB (prd ms j) base objs G) with
            | none => rw [hv] at e; cases e
            | some v =>
              rw [hv] at e
              dsimp only at e ⊢
              obtain ⟨y, hy, rfl⟩ := consCT_some e
              obtain ⟨q1, q2⟩ := step hy hl
              exact ⟨q1, by rw [q2]; rfl⟩
    | alloc =>
      rw [hc] at e
      dsimp only at e ⊢
      cases hw : (wantB ops o).un T with
      | false => rw [hw] at e; exact step e hl
      | true =>
        rw [hw] at e
        dsimp only at e ⊢
        cases hv : opN P (rhoB T) o (base + j) with
        | none => rw [hv] at e; cases e
        | some x => obtain ⟨v, ob⟩ := x; rw [hv] at e; exact step e hl
    | loud =>
      rw [hc] at e
      dsimp only at e ⊢
      cases hw : (wantB ops o).un T with
      | false => rw [hw] at e; exact step e hl
      | true =>
        rw [hw] at e
        dsimp only at e ⊢
        cases hv : (coreM P enters CB CC mk o).un T (fillB (prd ms j) base objs G) tp lg with
        | none => rw [hv] at e; cases e
        | some x =>
          obtain ⟨v, G', tp', lg'⟩ := x
          rw [hv] at e
          dsimp only at e
          cases hb : liveB base objs (fillB (prd ms j) base objs G) G' with
          | false => rw [hb] at e; cases e
          | true =>
            rw [hb] at e
            obtain ⟨q1, q2⟩ := step e hl
            obtain ⟨p1, p2⟩ := coreM_eq hC hv q1
            refine ⟨p1, ?_⟩
            rw [p2]
            dsimp only
            rw [hb]
            exact q2
abbrev DrawC := Mk → Array Oper → Box (Tree Value → AHeap → Tape → Noted → Option OutT)
def DrawEq (DB : DrawB) (DC : DrawC) : Prop := ∀ mk ops T h tp lg r, (DC mk ops).un T h tp lg = some r → NotedOk r.lg → NotedOk lg ∧ (DB ops).un T h = some (r.T, r.h)
/-- Is something marked here? -/
def anyMark (mk : Mk) (ops : Array Oper) : Bool := ops.toList.any fun o => (match markOf mk o.dst with | 0 => false | _ => true) || (match o.op with | .call c => (match c.callee with | .value _ => true | _ => false) | _ => false)
/-- 3: what a region's reads must give in other orders is noted too. -/
def ckMark (mk : Mk) (ops : Array Oper) : Bool := ops.toList.any fun o => Nat.beq (markOf mk o.dst) 3
noncomputable def drawC (P : Program) (enters : FuncId → FKind) (CB : CallB) (CC : CallC) (mk : Mk) (ops : Array Oper) : Box (Tree Value → AHeap → Tape → Noted → Option OutT) :=
  match anyMark mk ops with
  | true => ⟨fun T h tp lg => match h with
    | ⟨t, n, l⟩ => match Nat.ble (Nat.add n ops.size) l with
      | true => match (goT P enters CB CC mk ops (masksGo ops.toList []) ops.toList 0).un n T ⟨t, Nat.add n ops.size, l⟩ [] tp lg with
        | some ⟨r, tp', lg'⟩ => match ckMark mk ops with
          | true => some ⟨r.T, fillB (fun _ => true) n r.os (heapAt ⟨t, Nat.add n ops.size, l⟩ r.Gs ops.size), tp', (checkB P ops (masksGo ops.toList []) n ⟨t, Nat.add n ops.size, l⟩ r = true) :: lg'⟩
          | false => match checkB P ops (masksGo ops.toList []) n ⟨t, Nat.add n ops.size, l⟩ r with
            | true => some ⟨r.T, fillB (fun _ => true) n r.os (heapAt ⟨t, Nat.add n ops.size, l⟩ r.Gs ops.size), tp', lg'⟩
            | false => none
        | none => none
      | false => none⟩
  | false => ⟨fun T h tp lg => match (drawB P enters CB ops).un T h with | some (T', h') => some ⟨T', h', tp, lg⟩ | none => none⟩
theorem drawC_eq {enters : FuncId → FKind} {CB : CallB} {CC : CallC} (hC : CallEq CB CC) : DrawEq (drawB P enters CB) (drawC P enters CB CC) := by
  intro mk ops T h tp lg r e hl
  unfold drawC at e
  split at e
  · obtain ⟨t, n, l⟩ := h
    dsimp only at e
    unfold drawB
    dsimp only
    split at e
    · rename_i hb
      rw [hb]
      dsimp only
      split at e
      · rename_i r' tp' lg' hgo
        split at e
        · cases e
          have hck := hl _ List.mem_cons_self
          obtain ⟨q1, q2⟩ := goT_eq hC _ _ _ _ _ _ _ _ hgo (fun x hx => hl x (List.mem_cons_of_mem _ hx))
          dsimp only at q2
          refine ⟨q1, ?_⟩
          rw [q2]
          dsimp only
          rw [hck]
        · split at e
          · rename_i hck
            cases e
            obtain ⟨q1, q2⟩ := goT_eq hC _ _ _ _ _ _ _ _ hgo hl
            dsimp only at q2
            refine ⟨q1, ?_⟩
            rw [q2]
            dsimp only
            rw [hck]
          · cases e
      · cases e
    · cases e
  · dsimp only at e
    split at e
    · rename_i T' h' q
      cases e
      exact ⟨hl, q⟩
    · cases e
/-! ### Code -/
inductive RCC where
  | none
  | normal (T : Tree Value) (h : AHeap) (tp : Tape) (lg : Noted)
  | exit (id : Nat) (T : Tree Value) (h : AHeap) (tp : Tape) (lg : Noted)
  | ret (T : Tree Value) (h : AHeap) (tp : Tape) (lg : Noted)
/-- What it stands for, if all that was noted is equal. -/
def RCC.is (lg : Noted) (y : RC) : RCC → Prop
  | .none => True
  | .normal T h _ lg' => NotedOk lg' → NotedOk lg ∧ y = .normal T h
  | .exit id T h _ lg' => NotedOk lg' → NotedOk lg ∧ y = .exit id T h
  | .ret T h _ lg' => NotedOk lg' → NotedOk lg ∧ y = .ret T h
def rccOf (x : Option OutT) : RCC := match x with | some ⟨T, h, tp, lg⟩ => .normal T h tp lg | none => .none
def rccOf2 (x : Option (Tree Value × AHeap)) (tp : Tape) (lg : Noted) : RCC := match x with | some (T, h) => .normal T h tp lg | none => .none
noncomputable def loopC (f : Tree Value → AHeap → Tape → Noted → RCC) (K : Nat) : Tree Value → AHeap → Tape → Noted → RCC :=
  Nat.rec (motive := fun _ => Tree Value → AHeap → Tape → Noted → RCC) (fun _ _ _ _ => .none) (fun _ ih T h tp lg => match f T h tp lg with | .normal T' h' tp' lg' => ih T' h' tp' lg' | .none => .none | .exit id T' h' tp' lg' => .exit id T' h' tp' lg' | .ret T' h' tp' lg' => .ret T' h' tp' lg') K
noncomputable def codeC (P : Program) (enters : FuncId → FKind) (CB : CallB) (CC : CallC) (DC : DrawC) (mk : Mk) (K : Nat) : Code → Box (Tree Value → AHeap → Tape → Noted → RCC)
  | .skip => ⟨fun T h tp lg => .normal T h tp lg⟩
  | .label _ => ⟨fun T h tp lg => .normal T h tp lg⟩
  | .exit id => ⟨fun T h tp lg => .exit id T h tp lg⟩
  | .ret => ⟨fun T h tp lg => .ret T h tp lg⟩
  | .region _ ops false => ⟨fun T h tp lg => rccOf ((opsC P enters CB CC mk ops ops.toList).un T h tp lg)⟩
  | .region _ ops true => ⟨fun T h tp lg => rccOf ((DC mk ops).un T h tp lg)⟩
  | .seq a b => ⟨fun T h tp lg => match (codeC P enters CB CC DC mk K a).un T h tp lg with | .normal T' h' tp' lg' => (codeC P enters CB CC DC mk K b).un T' h' tp' lg' | .none => .none | .exit id T' h' tp' lg' => .exit id T' h' tp' lg' | .ret T' h' tp' lg' => .ret T' h' tp' lg'⟩
  | .cond c a b => ⟨fun T h tp lg => vBool ((rdB c).un T) (fun t => match t with | true => (codeC P enters CB CC DC mk K a).un T h tp lg | false => (codeC P enters CB CC DC mk K b).un T h tp lg) .none⟩
  | .block id c => ⟨fun T h tp lg => match (codeC P enters CB CC DC mk K c).un T h tp lg with | .exit id' T' h' tp' lg' => (match Nat.beq id' id with | true => .normal T' h' tp' lg' | false => .exit id' T' h' tp' lg') | .none => .none | .normal T' h' tp' lg' => .normal T' h' tp' lg' | .ret T' h' tp' lg' => .ret T' h' tp' lg'⟩
  | .loop c => ⟨fun T h tp lg => loopC (codeC P enters CB CC DC mk K c).un K T h tp lg⟩
  | .scope c => codeC P enters CB CC DC mk K c
  | _ => ⟨fun _ _ _ _ => .none⟩
theorem codeC_eq {enters : FuncId → FKind} {CB : CallB} {CC : CallC} {DB : DrawB} {DC : DrawC} (hC : CallEq CB CC) (hDC : DrawEq DB DC) (mk : Mk) (K : Nat) : ∀ (c : Code) (T : Tree Value) (h : AHeap) (tp : Tape) (lg : Noted),
    ((codeC P enters CB CC DC mk K c).un T h tp lg).is lg ((codeB P enters CB DB K c).un T h) := by
  intro c
  induction c with
  | skip => intro T h tp lg hl; exact ⟨hl, rfl⟩
  | label _ => intro T h tp lg hl; exact ⟨hl, rfl⟩
  | exit id => intro T h tp lg hl; exact ⟨hl, rfl⟩
  | ret => intro T h tp lg hl; exact ⟨hl, rfl⟩
  | region id ops d =>
    intro T h tp lg
    cases d with
    | false =>
      simp only [codeC, codeB]
      cases e : (opsC P enters CB CC mk ops ops.toList).un T h tp lg with
      | none => exact trivial
      | some r =>
        obtain ⟨T', h', tp', lg'⟩ := r
        intro hl
        obtain ⟨q1, q2⟩ := opsC_eq hC e hl
        exact ⟨q1, by rw [q2]; rfl⟩
    | true =>
      simp only [codeC, codeB]
      cases e : (DC mk ops).un T h tp lg with
      | none => exact trivial
      | some r =>
        obtain ⟨T', h', tp', lg'⟩ := r
        intro hl
        obtain ⟨q1, q2⟩ := hDC _ _ _ _ _ _ _ e hl
        exact ⟨q1, by rw [q2]; rfl⟩
  | seq x y ihx ihy =>
    intro T h tp lg
    simp only [codeC, codeB]
    have q := ihx T h tp lg
    revert q
    cases (codeC P enters CB CC DC mk K x).un T h tp lg with
    | none => intro _; exact trivial
    | normal T' h' tp' lg' =>
      intro q
      dsimp only
      have q2 := ihy T' h' tp' lg'
      have fin : ∀ z, NotedOk lg' ∧ (codeB P enters CB DB K y).un T' h' = z → NotedOk lg ∧ (match (codeB P enters CB DB K x).un T h with | .normal T' h' => (codeB P enters CB DB K y).un T' h' | .none => .none | .exit id T' h' => .exit id T' h' | .ret T' h' => .ret T' h') = z := by
        intro z hz
        obtain ⟨p1, p2⟩ := q hz.1
        exact ⟨p1, by rw [p2]; exact hz.2⟩
      revert q2
      cases (codeC P enters CB CC DC mk K y).un T' h' tp' lg' with
      | none => intro _; exact trivial
      | normal T2 h2 tp2 lg2 => intro q2 hl; exact fin _ (q2 hl)
      | exit id T2 h2 tp2 lg2 => intro q2 hl; exact fin _ (q2 hl)
      | ret T2 h2 tp2 lg2 => intro q2 hl; exact fin _ (q2 hl)
    | exit id T' h' tp' lg' => intro q hl; obtain ⟨p1, p2⟩ := q hl; exact ⟨p1, by rw [p2]⟩
    | ret T' h' tp' lg' => intro q hl; obtain ⟨p1, p2⟩ := q hl; exact ⟨p1, by rw [p2]⟩
  | cond c0 x y ihx ihy =>
    intro T h tp lg
    simp only [codeC, codeB]
    cases (rdB c0).un T with
    | bool b => cases b with
      | true => exact ihx T h tp lg
      | false => exact ihy T h tp lg
    | _ => exact trivial
  | block id c0 ih =>
    intro T h tp lg
    simp only [codeC, codeB]
    have q := ih T h tp lg
    revert q
    cases (codeC P enters CB CC DC mk K c0).un T h tp lg with
    | none => intro _; exact trivial
    | normal T' h' tp' lg' => intro q hl; obtain ⟨p1, p2⟩ := q hl; exact ⟨p1, by rw [p2]⟩
    | ret T' h' tp' lg' => intro q hl; obtain ⟨p1, p2⟩ := q hl; exact ⟨p1, by rw [p2]⟩
    | exit id' T' h' tp' lg' =>
      intro q
      dsimp only
      cases e : Nat.beq id' id with
      | true => intro hl; obtain ⟨p1, p2⟩ := q hl; exact ⟨p1, by rw [p2]; dsimp only; rw [e]⟩
      | false => intro hl; obtain ⟨p1, p2⟩ := q hl; exact ⟨p1, by rw [p2]; dsimp only; rw [e]⟩
  | loop c0 ih =>
    have key : ∀ (k : Nat) (T : Tree Value) (h : AHeap) (tp : Tape) (lg : Noted), (loopC (codeC P enters CB CC DC mk K c0).un k T h tp lg).is lg (loopB (codeB P enters CB DB K c0).un k T h) := by
      intro k
      induction k with
      | zero => intro T h tp lg; exact trivial
      | succ k ihk =>
        intro T h tp lg
        show RCC.is lg (match (codeB P enters CB DB K c0).un T h with | .normal T' h' => loopB (codeB P enters CB DB K c0).un k T' h' | .none => .none | .exit id T' h' => .exit id T' h' | .ret T' h' => .ret T' h')
          (match (codeC P enters CB CC DC mk K c0).un T h tp lg with | .normal T' h' tp' lg' => loopC (codeC P enters CB CC DC mk K c0).un k T' h' tp' lg' | .none => .none | .exit id T' h' tp' lg' => .exit id T' h' tp' lg' | .ret T' h' tp' lg' => .ret T' h' tp' lg')
        have q := ih T h tp lg
        revert q
        cases (codeC P enters CB CC DC mk K c0).un T h tp lg with
        | none => intro _; exact trivial
        | normal T' h' tp' lg' =>
          intro q
          dsimp only
          have q2 := ihk T' h' tp' lg'
          have fin : ∀ z, NotedOk lg' ∧ loopB (codeB P enters CB DB K c0).un k T' h' = z → NotedOk lg ∧ (match (codeB P enters CB DB K c0).un T h with | .normal T' h' => loopB (codeB P enters CB DB K c0).un k T' h' | .none => .none | .exit id T' h' => .exit id T' h' | .ret T' h' => .ret T' h') = z := by
            intro z hz
            obtain ⟨p1, p2⟩ := q hz.1
            exact ⟨p1, by rw [p2]; exact hz.2⟩
          revert q2
          cases loopC (codeC P enters CB CC DC mk K c0).un k T' h' tp' lg' with
          | none => intro _; exact trivial
          | normal T2 h2 tp2 lg2 => intro q2 hl; exact fin _ (q2 hl)
          | exit id T2 h2 tp2 lg2 => intro q2 hl; exact fin _ (q2 hl)
          | ret T2 h2 tp2 lg2 => intro q2 hl; exact fin _ (q2 hl)
        | exit id T' h' tp' lg' => intro q hl; obtain ⟨p1, p2⟩ := q hl; exact ⟨p1, by rw [p2]⟩
        | ret T' h' tp' lg' => intro q hl; obtain ⟨p1, p2⟩ := q hl; exact ⟨p1, by rw [p2]⟩
    intro T h tp lg
    exact key K T h tp lg
  | scope c0 ih => intro T h tp lg; exact ih T h tp lg
  | _ => intro T h tp lg; exact trivial

/-! ### Calls -/
noncomputable def endC (P : Program) (rs : List ResultVar) (x : RCC) : Option OutC := match x with
  | .normal T h tp lg => (match (resB P rs).un h T with | some vs => some ⟨oneA vs, h, tp, lg⟩ | none => none)
  | .ret T h tp lg => (match (resB P rs).un h T with | some vs => some ⟨oneA vs, h, tp, lg⟩ | none => none)
  | _ => none
noncomputable def bodyC (P : Program) (enters : FuncId → FKind) (CB : CallB) (CC : CallC) (DC : DrawC) (mk : Mk) (K : Nat) (fn : Option Func) : Box (Array Value → AHeap → Tape → Noted → Option OutC) :=
  match fn with
  | some fn => match fn.body with
    | some c => ⟨fun args h tp lg => match Nat.ble (lenV (listOf args)) fn.ntmps with
      | true => endC P fn.results.toList ((codeC P enters CB CC DC mk K c).un (treeOfB (listOf args) 0 .leaf) h tp lg)
      | false => none⟩
    | none => ⟨fun _ _ _ _ => none⟩
  | none => ⟨fun _ _ _ _ => none⟩
noncomputable def callC (P : Program) (enters : FuncId → FKind) (FT : FuncId → Option Func) (sp : Known) (draw : CallB → DrawB) (drawc : CallB → CallC → DrawC) (mk : Marks) (K : Nat) : Nat → CallC
  | 0, _ => ⟨fun _ _ _ _ => none⟩
  | d + 1, f => match sp f with
    | some g => ⟨fun args h tp lg => withC (g args h) tp lg⟩
    | none => bodyC P enters (callB P enters FT sp draw K d) (callC P enters FT sp draw drawc mk K d) (drawc (callB P enters FT sp draw K d) (callC P enters FT sp draw drawc mk K d)) (mk f) K (FT f)
theorem callC_eq {enters : FuncId → FKind} {FT : FuncId → Option Func} {sp : Known} {draw : CallB → DrawB} {drawc : CallB → CallC → DrawC} (hdc : ∀ CB CC, CallEq CB CC → DrawEq (draw CB) (drawc CB CC)) (mk : Marks) (K : Nat) : ∀ d, CallEq (callB P enters FT sp draw K d) (callC P enters FT sp draw drawc mk K d) := by
  intro d
  induction d with
  | zero => intro f args h tp lg r e; cases e
  | succ d ih =>
    intro f args h tp lg r e hl
    have e0 : (match sp f with
      | some g => (⟨fun args h tp lg => withC (g args h) tp lg⟩ : Box (Array Value → AHeap → Tape → Noted → Option OutC))
      | none => bodyC P enters (callB P enters FT sp draw K d) (callC P enters FT sp draw drawc mk K d) (drawc (callB P enters FT sp draw K d) (callC P enters FT sp draw drawc mk K d)) (mk f) K (FT f)).un args h tp lg = some r := e
    show NotedOk lg ∧ (match sp f with
      | some g => (⟨g⟩ : Box (Array Value → AHeap → Option (Value × AHeap)))
      | none => bodyB P enters (callB P enters FT sp draw K d) (draw (callB P enters FT sp draw K d)) K (FT f)).un args h = some (r.v, r.h)
    clear e
    cases hsp : sp f with
    | some g =>
      rw [hsp] at e0
      obtain ⟨q1, q2⟩ := withC_some (x := g args h) e0
      exact ⟨q2 ▸ hl, q1⟩
    | none =>
      rw [hsp] at e0
      dsimp only at e0 ⊢
      unfold bodyC at e0
      unfold bodyB
      cases hfn : FT f with
      | none => rw [hfn] at e0; cases e0
      | some fn =>
        rw [hfn] at e0
        dsimp only at e0 ⊢
        cases hb : fn.body with
        | none => rw [hb] at e0; cases e0
        | some c =>
          rw [hb] at e0
          dsimp only at e0 ⊢
          cases hs : Nat.ble (lenV (listOf args)) fn.ntmps with
          | false => rw [hs] at e0; cases e0
          | true =>
            rw [hs] at e0
            dsimp only at e0 ⊢
            have q := codeC_eq (P := P) (enters := enters) (DB := draw (callB P enters FT sp draw K d)) ih (hdc _ _ ih) (mk f) K c (treeOfB (listOf args) 0 .leaf) h tp lg
            revert q e0
            cases (codeC P enters (callB P enters FT sp draw K d) (callC P enters FT sp draw drawc mk K d) (drawc (callB P enters FT sp draw K d) (callC P enters FT sp draw drawc mk K d)) (mk f) K c).un (treeOfB (listOf args) 0 .leaf) h tp lg with
            | none => intro e0; cases e0
            | exit => intro e0; cases e0
            | normal T' h' tp' lg' =>
              intro e0 q
              simp only [endC] at e0
              split at e0
              · rename_i vs hvs
                cases e0
                obtain ⟨p1, p2⟩ := q hl
                refine ⟨p1, ?_⟩
                rw [p2]
                simp only [endB, hvs]
              · cases e0
            | ret T' h' tp' lg' =>
              intro e0 q
              simp only [endC] at e0
              split at e0
              · rename_i vs hvs
                cases e0
                obtain ⟨p1, p2⟩ := q hl
                refine ⟨p1, ?_⟩
                rw [p2]
                simp only [endB, hvs]
              · cases e0
end
end Go.Ab
