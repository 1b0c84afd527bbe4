import Derived.Test.YthapjgecggdliaaGreatDoorAbFc
namespace Go.Ab
open Go
section
variable {P : Program}

/-! ## Runs over memory, step by step -/
theorem runA_und {α : Type} {t : TypeId} {d : TypeDesc} (h : P.underlying t = some d) (f : TypeDesc → Sem α) (hp : AHeap) : (Go.underlying t >>= f).runA P hp = (f d).runA P hp := by
  have : (Go.underlying t).runA P hp = some (d, hp) := by
    unfold Go.underlying
    rw [runA_bind']
    simp only [Go.program, Sem.runA, h]
    rfl
  exact runA_bind_some this
theorem runA_info {α : Type} {t : TypeId} {i : TypeInfo} (h : P.info? t = some i) (f : TypeInfo → Sem α) (hp : AHeap) : (Go.typeInfo t >>= f).runA P hp = (f i).runA P hp := by
  have : (Go.typeInfo t).runA P hp = some (i, hp) := by
    unfold Go.typeInfo
    rw [runA_bind']
    simp only [Go.program, Sem.runA, h]
    rfl
  exact runA_bind_some this
theorem runA_size {α : Type} {t : TypeId} {i : TypeInfo} (h : P.info? t = some i) (f : Nat → Sem α) (hp : AHeap) : (Go.sizeOf t >>= f).runA P hp = (f i.size).runA P hp := by
  have : (Go.sizeOf t).runA P hp = some (i.size, hp) := by
    unfold Go.sizeOf
    rw [runA_info h]; rfl
  exact runA_bind_some this
theorem runA_isAgg {α : Type} {t : TypeId} {d : TypeDesc} (h : P.underlying t = some d) (f : Bool → Sem α) (hp : AHeap) : (Go.isAgg t >>= f).runA P hp = (f (isAggD d)).runA P hp := by
  have : (Go.isAgg t).runA P hp = some (isAggD d, hp) := by
    unfold Go.isAgg
    rw [runA_und h]
    cases d <;> rfl
  exact runA_bind_some this
theorem runA_zero {α : Type} {t : TypeId} {i : TypeInfo} {z : Value} (h : P.info? t = some i) (hz : i.zero = some z) (f : Value → Sem α) (hp : AHeap) : (Go.zeroValue t >>= f).runA P hp = (f z).runA P hp := by
  have : (Go.zeroValue t).runA P hp = some (z, hp) := by
    unfold Go.zeroValue
    rw [runA_info h, hz]; rfl
  exact runA_bind_some this
theorem runA_load (a : Addr) (hp : AHeap) : (Go.load a).runA P hp = match hp.cell? a with | some v => some (v, hp) | none => none := by
  unfold Go.load
  simp only [Sem.runA]
  cases hp.cell? a <;> rfl

theorem add_none (b o n : Nat) : (⟨b, o, none⟩ : Addr).add n = ⟨b, o + n, none⟩ := by unfold Addr.add; split <;> simp_all
noncomputable def partB (n : Nat) : Tree Value → Nat → List Value :=
  Nat.rec (motive := fun _ => Tree Value → Nat → List Value) (fun _ _ => []) (fun _ ih t i => (getB undef (Path.of i)).un t :: ih t (Nat.succ i)) n
theorem partB_eq (r : Row) : ∀ (n i : Nat), partB n r.t i = r.part i n := by
  intro n
  induction n with
  | zero => intro i; rfl
  | succ n ih =>
    intro i
    have : partB (n + 1) r.t i = (getB undef (Path.of i)).un r.t :: partB n r.t (Nat.succ i) := rfl
    rw [this, ih, getB_eq]; rfl
theorem runA_loadCellsFrom {h : AHeap} {b o : Nat} {c : Row} (hb : rowIn (h.get b) = some c) : ∀ (n i : Nat) (acc : Array Value), o + i + n ≤ c.len →
    (Go.loadCellsFrom ⟨b, o, none⟩ i n acc).runA P h = some (acc ++ (c.part (o + i) n).toArray, h) := by
  intro n
  induction n with
  | zero => intro i acc _; simp [Go.loadCellsFrom, Row.part, runA_pure]
  | succ n ih =>
    intro i acc hl
    have hc : h.cell? ⟨b, o + i, none⟩ = some (c.t.get undef (o + i)) := by
      rw [AHeap.cell?_row hb, Row.get?_eq, if_pos (by omega)]
    unfold Go.loadCellsFrom
    rw [add_none, runA_bind_some (by rw [runA_load, hc]), ih (i + 1) _ (by omega)]
    simp only [Row.part]
    congr 2
    apply Array.ext'
    simp [Nat.add_assoc]
theorem runA_loadAgg {h : AHeap} {b o n : Nat} {c : Row} (hb : rowIn (h.get b) = some c) (hl : o + n ≤ c.len) : (Go.loadCells ⟨b, o, none⟩ n).runA P h = some ((c.part o n).toArray, h) := by
  unfold Go.loadCells
  rw [runA_loadCellsFrom hb n 0 _ (by omega)]
  simp

theorem Tree.setP_setP {α : Type} (d x y : α) : ∀ (p : Path) (t : Tree α), Tree.setP d p (Tree.setP d p t x) y = Tree.setP d p t y := by
  intro p
  induction p with
  | z => intro t; cases t <;> rfl
  | _ p ih => intro t; cases t <;> simp only [Tree.setP, ih]
theorem AHeap.put_put (h : AHeap) (b : Nat) (x y : AObj) : (h.put b x).put b y = h.put b y := by
  unfold AHeap.put Tree.set
  simp only [Tree.setP_setP]
theorem runA_store_cell {h h' : AHeap} {a : Addr} {v : Value} (hv : isCell v = true) (hs : h.setCell a v = some h') : (Go.store a v).runA P h = some ((), h') := by
  unfold Go.store
  cases v <;> first | (cases hv; done) | (simp only [Sem.runA, hs]; done) | (simp only [Sem.runA, hs]; rfl)
theorem runA_storeCells {b o : Nat} {e : TypeId} : ∀ (l : List Value) (i : Nat) (h : AHeap) (c : Row), l ≠ [] → h.get b = .cells c e → l.all isCell = true → o + i + l.length ≤ c.len →
    (Go.storeCells ⟨b, o, none⟩ l i).runA P h = some ((), h.put b (.cells (c.lay (o + i) l) e)) := by
  intro l
  induction l with
  | nil => intro i h c hne; exact absurd rfl hne
  | cons v l ih =>
    intro i h c _ hb hv hl
    simp only [List.all_cons, Bool.and_eq_true] at hv
    simp only [List.length_cons] at hl
    have hs : h.setCell ⟨b, o + i, none⟩ v = some (h.put b (.cells (c.set (o + i) v) e)) := by
      simp only [AHeap.setCell, hb]
      rw [show Nat.blt (o + i) c.len = true by simp; omega]
    unfold Go.storeCells
    rw [add_none, runA_bind_some (runA_store_cell hv.1 hs)]
    cases l with
    | nil => rfl
    | cons u l =>
      rw [ih (i + 1) _ (c.set (o + i) v) (by simp) (by rw [AHeap.get_put, if_pos rfl]) hv.2 (by simp only [Row.set, List.length_cons] at *; omega), AHeap.put_put]
      rfl

/-! ## One operation -/
def coreA (P : Program) (enters : FuncId → FKind) (callF : CallF) (o : Oper) (T : Tree Value) (h : AHeap) : Option (Value × AHeap) :=
  match opA P enters (rhoA T) o h with
  | some (.val v, h') => some (v, h')
  | some (.skip, h') => some (undef, h')
  | some (.call f args, h') => callF f args h'
  | none => none
theorem stepA_core {enters : FuncId → FKind} {callF : CallF} {ops : Array Oper} {o : Oper} {T : Tree Value} {h : AHeap} (hw : wantedA ops o T = true) : stepA P enters callF ops o T h = coreA P enters callF o T h := by
  unfold stepA; rw [hw]; rfl
abbrev StepF := Tree Value → AHeap → Option (Value × AHeap)
noncomputable def slowS (P : Program) (enters : FuncId → FKind) (callF : CallF) (o : Oper) : StepF := fun T h =>
  match opA P enters (rhoB T) o h with
  | some (.val v, h') => some (v, h')
  | some (.skip, h') => some (undef, h')
  | some (.call f args, h') => callF f args h'
  | none => none
theorem slowS_eq {enters : FuncId → FKind} {callF : CallF} {o : Oper} {T : Tree Value} {h : AHeap} : slowS P enters callF o T h = coreA P enters callF o T h := by
  unfold slowS coreA; rw [rhoB_eq]

def orElseV (x : Option Value) (h : AHeap) (d : Option (Value × AHeap)) : Option (Value × AHeap) := match x with | some v => some (v, h) | none => d
theorem orElseV_some {x : Option Value} {h : AHeap} {d : Option (Value × AHeap)} {r : Value × AHeap} (e : orElseV x h d = some r) : (∃ v, x = some v ∧ r = (v, h)) ∨ (x = none ∧ d = some r) := by
  cases x with
  | some v => exact .inl ⟨v, rfl, (Option.some.inj e).symm⟩
  | none => exact .inr ⟨rfl, e⟩
def idxOf {β : Type} (j : Int) (n : Nat) (f : Nat → Option β) : Option β := match j with | .ofNat m => (match Nat.blt m n with | true => f m | false => none) | .negSucc _ => none
theorem idxOf_some {β : Type} {j : Int} {n : Nat} {f : Nat → Option β} {r : β} (h : idxOf j n f = some r) : ∃ m : Nat, j = Int.ofNat m ∧ m < n ∧ f m = some r := by
  unfold idxOf at h
  split at h
  · split at h
    · rename_i hb; exact ⟨_, rfl, by simpa using hb, h⟩
    · cases h
  · cases h
noncomputable def nthV (l : List Value) : Nat → Option Value :=
  List.rec (motive := fun _ => Nat → Option Value) (fun _ => none) (fun x _ ih n => Nat.rec (motive := fun _ => Option Value) (some x) (fun m _ => ih m) n) l
theorem nthV_eq : ∀ (l : List Value) (n : Nat), nthV l n = l[n]? := by
  intro l
  induction l with
  | nil => intro n; rfl
  | cons x l ih => intro n; cases n with | zero => rfl | succ n => exact ih n
def listOf (c : Array Value) : List Value := match c with | ⟨l⟩ => l
theorem listOf_eq (c : Array Value) : listOf c = c.toList := rfl

/-- Reading a place. -/
noncomputable def ldB (P : Program) (t : TypeId) : Box (Value → AHeap → Option Value) :=
  match P.underlying t, P.info? t with
  | some d, some i =>
    match isAggD d with
    | false => ⟨fun v h => vPtr v (fun b o => match rowIn (heapGet h b) with | some c => rowGet c o | none => none) none⟩
    | true => ⟨fun v h => vPtr v (fun b o => match rowIn (heapGet h b) with | some c => (match c with | ⟨n, t⟩ => (match Nat.ble (Nat.add o i.size) n with | true => some (.agg ⟨partB i.size t o⟩) | false => none)) | none => none) none⟩
  | _, _ => ⟨fun _ _ => none⟩
theorem ldB_some {t : TypeId} {v r : Value} {h : AHeap} (e : (ldB P t).un v h = some r) : (Instr.loadAt t v).runA P h = some (r, h) := by
  unfold ldB at e
  split at e
  · rename_i d i hd hi
    split at e
    · rename_i hag
      dsimp only at e
      obtain ⟨b, o, rfl, e2⟩ := vPtr_some e
      rw [heapGet_eq] at e2
      split at e2
      · rename_i c hb
        rw [rowGet_eq] at e2
        unfold Instr.loadAt Instr.sureAddr Go.loadVar
        rw [pure_bind, runA_isAgg hd, hag]
        simp only [Bool.false_eq_true, if_false]
        rw [runA_load, AHeap.cell?_row hb, e2]
      · cases e2
    · rename_i hag
      dsimp only at e
      obtain ⟨b, o, rfl, e2⟩ := vPtr_some e
      rw [heapGet_eq] at e2
      split at e2
      · rename_i c hb
        obtain ⟨n, tr⟩ := c
        dsimp only at e2
        split at e2
        · rename_i hl
          rw [Nat.ble_eq] at hl
          obtain rfl := Option.some.inj e2
          unfold Instr.loadAt Instr.sureAddr Go.loadVar
          rw [pure_bind, runA_isAgg hd, hag]
          simp only [if_true]
          rw [runA_size hi, runA_bind_some (runA_loadAgg hb hl), runA_pure]
          have := partB_eq ⟨n, tr⟩ i.size o
          dsimp only at this
          rw [this]
        · cases e2
      · cases e2
  · cases e
/-- Writing a place. -/
noncomputable def allCell (l : List Value) : Bool := List.rec (motive := fun _ => Bool) true (fun x _ ih => Bool.rec (motive := fun _ => Bool) false ih (isCell x)) l
theorem allCell_eq (l : List Value) : allCell l = l.all isCell := by
  induction l with
  | nil => rfl
  | cons x l ih =>
    have : allCell (x :: l) = Bool.rec (motive := fun _ => Bool) false (allCell l) (isCell x) := rfl
    rw [this, List.all_cons, ih]
    cases isCell x <;> rfl
noncomputable def lenV (l : List Value) : Nat := List.rec (motive := fun _ => Nat) 0 (fun _ _ ih => Nat.succ ih) l
theorem lenV_eq (l : List Value) : lenV l = l.length := by
  induction l with
  | nil => rfl
  | cons x l ih => exact congrArg Nat.succ ih
noncomputable def stB (P : Program) (t : TypeId) : Box (Value → Value → AHeap → Option AHeap) :=
  match P.info? t with
  | some i =>
    match i.size with
    | 0 => ⟨fun _ _ _ => none⟩
    | 1 => ⟨fun v x h => vPtr v (fun b o => match heapGet h b with
        | .cells c e => (match isCell x, Nat.blt o c.len with | true, true => some (heapPut h b (.cells (rowSet c o x) e)) | _, _ => none)
        | _ => none) none⟩
    | k + 2 => ⟨fun v x h => vPtr v (fun b o => vAgg x (fun l => match heapGet h b with
        | .cells c e => (match c with | ⟨n, t⟩ => (match Nat.ble (Nat.add o (k + 2)) n, Nat.beq (lenV (listOf l)) (k + 2), allCell (listOf l) with | true, true, true => some (heapPut h b (.cells ⟨n, treeOfB (listOf l) o t⟩ e)) | _, _, _ => none))
        | _ => none) none) none⟩
  | none => ⟨fun _ _ _ => none⟩
theorem cells_of_cell {x : Value} (h : isCell x = true) : x.cells = #[x] := by cases x <;> first | rfl | cases h
theorem stB_some {t : TypeId} {v x : Value} {h h' : AHeap} (e : (stB P t).un v x h = some h') : (Instr.storeAt t v x).runA P h = some ((), h') := by
  unfold stB at e
  split at e
  · rename_i i hi
    split at e
    · cases e
    · rename_i hsz
      dsimp only at e
      obtain ⟨b, o, rfl, e2⟩ := vPtr_some e
      rw [heapGet_eq] at e2
      split at e2
      · rename_i c t' hb
        split at e2
        · rename_i hx hl
          rw [Nat.blt_eq] at hl
          obtain rfl := Option.some.inj e2
          unfold Instr.storeAt Instr.sureAddr Go.storeVar
          rw [pure_bind, runA_size hi, cells_of_cell hx, hsz]
          simp only [List.size_toArray, List.length_cons, List.length_nil, Nat.zero_add, ne_eq, not_true, if_false]
          rw [runA_storeCells [x] 0 h c (by simp) hb (by simpa using hx) (by simp; omega), heapPut_eq, rowSet_eq]
          rfl
        · cases e2
      · cases e2
    · rename_i k hsz
      dsimp only at e
      obtain ⟨b, o, rfl, e2⟩ := vPtr_some e
      obtain ⟨l, rfl, e3⟩ := vAgg_some e2
      rw [heapGet_eq] at e3
      split at e3
      · rename_i c t' hb
        obtain ⟨n, tr⟩ := c
        dsimp only at e3
        split at e3
        · rename_i h1 h2 h3
          rw [Nat.ble_eq] at h1
          rw [Nat.beq_eq, lenV_eq, listOf_eq] at h2
          rw [allCell_eq, listOf_eq] at h3
          obtain rfl := Option.some.inj e3
          unfold Instr.storeAt Instr.sureAddr Go.storeVar
          rw [pure_bind, runA_size hi, hsz]
          have hls : l.size = k + 2 := by simpa using h2
          simp only [Value.cells, hls, ne_eq, not_true, if_false]
          have h1' : o + (k + 2) ≤ n := h1
          rw [runA_storeCells l.toList 0 h ⟨n, tr⟩ (by intro q; rw [q] at h2; simp at h2) hb h3 (by rw [h2]; exact h1'), heapPut_eq, treeOfB_eq]
          rfl
        · cases e3
      · cases e3
  · cases e
end
end Go.Ab
