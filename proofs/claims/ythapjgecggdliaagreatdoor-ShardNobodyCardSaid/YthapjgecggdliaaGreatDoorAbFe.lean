import Derived.Test.YthapjgecggdliaaGreatDoorAbFd
namespace Go.Ab
open Go
section
variable {P : Program}

/-! ## What each operation does, once its static part is known -/
theorem runA_newVar (t : TypeId) (v : Value) (h : AHeap) : (Go.newVar t v).runA P h = match Nat.blt h.next h.lim with | true => some (⟨h.next, 0, none⟩, h.push (.cells (Row.ofList v.cells.toList) t)) | false => none := by
  unfold Go.newVar Go.newRow
  rw [runA_bind']
  simp only [newObj, Sem.runA]
  cases Nat.blt h.next h.lim <;> rfl
def allocS (row : Row) (t : TypeId) (h : AHeap) : Option (Value × AHeap) := match Nat.blt h.next h.lim with
  | true => some (.pointer (some ⟨h.next, 0, none⟩), h.push (.cells row t))
  | false => none
noncomputable def allocF (row : Row) (t : TypeId) (h : AHeap) : Option (Value × AHeap) := match h with
  | ⟨tr, n, l⟩ => match Nat.blt n l with
    | true => some (.pointer (some ⟨n, 0, none⟩), ⟨(setB AObj.dead (Path.of n)).un tr (.cells row t), Nat.succ n, l⟩)
    | false => none
theorem allocF_eq (row : Row) (t : TypeId) (h : AHeap) : allocF row t h = allocS row t h := by
  unfold allocF allocS
  simp only [setB_eq]
  rfl
noncomputable def rowOfB (l : List Value) : Row := ⟨lenV l, treeOfB l 0 .leaf⟩
theorem rowOfB_eq (l : List Value) : rowOfB l = Row.ofList l := by unfold rowOfB Row.ofList; rw [lenV_eq, treeOfB_eq]
def cellsL (v : Value) : List Value := match v with | .agg c => listOf c | x => [x]
theorem cellsL_eq (v : Value) : cellsL v = v.cells.toList := by cases v <;> rfl

theorem runP_bind {α β : Type} (s : Sem α) (f : α → Sem β) : (s >>= f).runP P = match s.runP P with | some a => (f a).runP P | none => none := by
  show (s.bind f).runP P = _
  induction s with
  | pure a => rfl
  | program k ih => exact ih P
  | mark md k ih => exact ih
  | _ => rfl
theorem runP_bind_some {α β : Type} {s : Sem α} {f : α → Sem β} {a : α} (h : s.runP P = some a) : (s >>= f).runP P = (f a).runP P := by rw [runP_bind, h]
theorem runP_und {α : Type} {t : TypeId} {d : TypeDesc} (h : P.underlying t = some d) (f : TypeDesc → Sem α) : (Go.underlying t >>= f).runP P = (f d).runP P := by
  refine runP_bind_some ?_
  unfold Go.underlying
  rw [runP_bind]
  simp only [Go.program, Sem.runP, h]
  rfl
theorem runP_info {α : Type} {t : TypeId} {i : TypeInfo} (h : P.info? t = some i) (f : TypeInfo → Sem α) : (Go.typeInfo t >>= f).runP P = (f i).runP P := by
  refine runP_bind_some ?_
  unfold Go.typeInfo
  rw [runP_bind]
  simp only [Go.program, Sem.runP, h]
  rfl
theorem runP_size {α : Type} {t : TypeId} {i : TypeInfo} (h : P.info? t = some i) (f : Nat → Sem α) : (Go.sizeOf t >>= f).runP P = (f i.size).runP P := by
  refine runP_bind_some ?_
  unfold Go.sizeOf
  rw [runP_info h]; rfl
theorem runP_isAgg {α : Type} {t : TypeId} {d : TypeDesc} (h : P.underlying t = some d) (f : Bool → Sem α) : (Go.isAgg t >>= f).runP P = (f (isAggD d)).runP P := by
  refine runP_bind_some ?_
  unfold Go.isAgg
  rw [runP_und h]
  cases d <;> rfl
theorem runP_pure {α : Type} (a : α) : (Pure.pure a : Sem α).runP P = some a := rfl

/-- Where a field lies. -/
def faOff (P : Program) (s : TypeId) (f : Nat) : Option Nat :=
  match P.underlying s with
  | some (.struct fields) => match fields[f]? with
    | some fl => match P.info? fl.type with
      | some i => match Nat.beq i.size 0 with | true => none | false => some fl.offset
      | none => none
    | none => none
  | _ => none
theorem faOff_some {s : TypeId} {f off b o : Nat} (e : faOff P s f = some off) : (Instr.fieldAt s (.pointer (some ⟨b, o, none⟩)) f).runP P = some (.pointer (some ⟨b, o + off, none⟩)) := by
  unfold faOff at e
  split at e <;> try (cases e; done)
  rename_i fields hs
  split at e <;> try (cases e; done)
  rename_i fl hf
  split at e <;> try (cases e; done)
  rename_i i hi
  split at e <;> try (cases e; done)
  rename_i hz
  obtain rfl := Option.some.inj e
  have hz' : i.size ≠ 0 := by intro q; rw [q] at hz; cases hz
  unfold Instr.fieldAt
  rw [runP_und hs]
  dsimp only
  rw [hf]
  dsimp only [Instr.sureAddr]
  rw [pure_bind]
  unfold fieldPlace
  refine (runP_bind_some (a := ⟨b, o + fl.offset, none⟩) ?_).trans rfl
  rw [runP_size hi, if_neg hz', add_none]
  rfl
/-- A part of a struct's cells. -/
noncomputable def fdB (P : Program) (s : TypeId) (f : Nat) : Box (Value → Option Value) :=
  match P.underlying s with
  | some (.struct fields) => match fields[f]? with
    | some fl => match P.underlying fl.type, P.info? fl.type with
      | some d, some i => match isAggD d with
        | false => ⟨fun v => vAgg v (fun c => nthV (listOf c) fl.offset) none⟩
        | true => ⟨fun v => vAgg v (fun c => some (.agg ⟨(c.toList.drop fl.offset).take i.size⟩)) none⟩
      | _, _ => ⟨fun _ => none⟩
    | none => ⟨fun _ => none⟩
  | _ => ⟨fun _ => none⟩
theorem fdB_some {s : TypeId} {f : Nat} {v r : Value} (e : (fdB P s f).un v = some r) : (Instr.field s v f).runP P = some r := by
  unfold fdB at e
  split at e <;> try (cases e; done)
  rename_i fields hs
  split at e <;> try (cases e; done)
  rename_i fl hf
  split at e <;> try (cases e; done)
  rename_i d i hd hi
  unfold Instr.field
  rw [runP_und hs]
  dsimp only
  rw [hf]
  dsimp only
  split at e
  · rename_i hag
    dsimp only at e
    obtain ⟨c, rfl, e2⟩ := vAgg_some e
    rw [nthV_eq, listOf_eq] at e2
    dsimp only [Go.asAgg]
    rw [pure_bind]
    unfold Go.part
    rw [runP_isAgg hd, hag]
    simp only [Bool.false_eq_true, if_false]
    rw [Array.getElem?_toList] at e2
    rw [e2]; rfl
  · rename_i hag
    dsimp only at e
    obtain ⟨c, rfl, e2⟩ := vAgg_some e
    obtain rfl := Option.some.inj e2
    dsimp only [Go.asAgg]
    rw [pure_bind]
    unfold Go.part
    rw [runP_isAgg hd, hag]
    simp only [if_true]
    rw [runP_size hi, runP_pure]
    congr 2
    apply Array.ext'
    simp [List.take_drop]
/-- An element's place. -/
noncomputable def iaB (P : Program) (t : TypeId) : Box (Value → Value → Option Value) :=
  match P.underlying t with
  | some (.slice e) => match P.info? e with
    | some ei => ⟨fun v j => vSlice v (fun b o n _ => vInt j (fun _ i => idxOf i n (fun m => some (.pointer (some ⟨b, Nat.add o (Nat.mul m ei.size), none⟩)))) none) none⟩
    | none => ⟨fun _ _ => none⟩
  | some (.array n e) => match P.info? e with
    | some ei => ⟨fun v j => vPtr v (fun b o => vInt j (fun _ i => idxOf i n (fun m => some (.pointer (some ⟨b, Nat.add o (Nat.mul m ei.size), none⟩)))) none) none⟩
    | none => ⟨fun _ _ => none⟩
  | _ => ⟨fun _ _ => none⟩
theorem iaB_some {t : TypeId} {v j r : Value} (e : (iaB P t).un v j = some r) : (Instr.indexAt t v j).runP P = some r := by
  have tail : ∀ (b o n m : Nat) (k : IntKind) (elem : TypeId) (ei : TypeInfo) (d : TypeDesc), P.underlying t = some d → P.info? elem = some ei → m < n →
      (Ab.idxTail t k (Int.ofNat m) (some ⟨b, o, none⟩) n elem).runP P = some (.pointer (some ⟨b, o + m * ei.size, none⟩)) := by
    intro b o n m k elem ei d hd hi hm
    unfold Ab.idxTail
    rw [runP_und hd]
    dsimp only
    rw [if_pos (by simp only [Int.ofNat_eq_natCast]; omega), runP_size hi, add_none]
    rfl
  unfold iaB at e
  split at e <;> try (cases e; done)
  · rename_i elem hd
    split at e <;> try (cases e; done)
    rename_i ei hi
    dsimp only at e
    obtain ⟨b, o, n, c, rfl, e2⟩ := vSlice_some e
    obtain ⟨k, i, rfl, e3⟩ := vInt_some e2
    obtain ⟨m, rfl, hm, e4⟩ := idxOf_some e3
    obtain rfl := Option.some.inj e4
    unfold Instr.indexAt
    dsimp only [Go.asIntOf]
    rw [pure_bind, runP_und hd]
    exact tail b o n m k elem ei _ hd hi hm
  · rename_i n elem hd
    split at e <;> try (cases e; done)
    rename_i ei hi
    dsimp only at e
    obtain ⟨b, o, rfl, e2⟩ := vPtr_some e
    obtain ⟨k, i, rfl, e3⟩ := vInt_some e2
    obtain ⟨m, rfl, hm, e4⟩ := idxOf_some e3
    obtain rfl := Option.some.inj e4
    unfold Instr.indexAt
    dsimp only [Go.asIntOf]
    rw [pure_bind, runP_und hd]
    exact tail b o n m k elem ei _ hd hi hm
/-- A text's byte. -/
noncomputable def ixB (P : Program) (t : TypeId) : Box (Value → Value → Option Value) :=
  match P.underlying t with
  | some .string => ⟨fun v j => vStr v (fun s => vInt j (fun _ i => match i with | .ofNat m => (match nthL (byteList s) m with | some n => some (.int .u8 (Int.ofNat n)) | none => none) | .negSucc _ => none) none) none⟩
  | _ => ⟨fun _ _ => none⟩
theorem ixB_some {t : TypeId} {v j r : Value} (e : (ixB P t).un v j = some r) : (Instr.index t v j).runP P = some r := by
  unfold ixB at e
  split at e <;> try (cases e; done)
  rename_i hd
  dsimp only at e
  obtain ⟨s, rfl, e2⟩ := vStr_some e
  obtain ⟨k, i, rfl, e3⟩ := vInt_some e2
  split at e3 <;> try (cases e3; done)
  rename_i m
  split at e3 <;> try (cases e3; done)
  rename_i n hn
  obtain rfl := Option.some.inj e3
  rw [nthL_eq, byteList_eq] at hn
  unfold Instr.index
  dsimp only [Go.asIntOf]
  rw [pure_bind, runP_und hd]
  dsimp only
  obtain ⟨u, hu, rfl⟩ := Option.map_eq_some_iff.1 hn
  have h0 : s[(Int.ofNat m).toNat]? = some u := by
    have hm : m < s.data.toList.length := by
      rcases Nat.lt_or_ge m s.data.toList.length with q | q
      · exact q
      · rw [List.getElem?_eq_none q] at hu; cases hu
    have hm2 : m < s.size := by simpa using hm
    have : (Int.ofNat m).toNat = m := rfl
    rw [this, getElem?_pos s m hm2]
    rw [List.getElem?_eq_getElem hm] at hu
    rw [← hu]
    rfl
  rw [if_pos (by simp only [Int.ofNat_eq_natCast]; omega), h0]
  rfl
/-- A length. -/
noncomputable def lnB (P : Program) (ts : Array TypeId) : Box (Value → Option Value) :=
  match ts[0]? with
  | some t => match P.underlying t with
    | some .string => ⟨fun v => vStr v (fun s => some (.int .i64 (Int.ofNat (lenL (byteList s))))) none⟩
    | some (.slice _) => ⟨fun v => match v with | .slice _ n _ => some (.int .i64 (Int.ofNat n)) | _ => none⟩
    | some (.array n _) => ⟨fun _ => some (.int .i64 (Int.ofNat n))⟩
    | _ => ⟨fun _ => none⟩
  | none => ⟨fun _ => none⟩
theorem lnB_some {ts : Array TypeId} {ty : TypeId} {v r : Value} (e : (lnB P ts).un v = some r) : (Builtin.len_ ts ty #[v]).runP P = some r := by
  unfold lnB at e
  split at e <;> try (cases e; done)
  rename_i t ht
  unfold Builtin.len_
  rw [ht]
  simp only [List.getElem?_toArray, List.getElem?_cons_zero]
  split at e <;> try (cases e; done)
  · rename_i hd
    dsimp only at e
    obtain ⟨s, rfl, e2⟩ := vStr_some e
    obtain rfl := Option.some.inj e2
    rw [runP_und hd]
    dsimp only
    rw [lenL_eq, byteList_eq, Array.length_toList]
    rfl
  · rename_i el hd
    dsimp only at e
    split at e <;> try (cases e; done)
    obtain rfl := Option.some.inj e
    rw [runP_und hd]
    rfl
  · rename_i n el hd
    dsimp only at e
    obtain rfl := Option.some.inj e
    rw [runP_und hd]
    rfl
/-- A text's part. -/
noncomputable def boundF (v : Option Value) (d : Nat) (f : Nat → Option Value) : Option Value := match v with
  | some v => vInt v (fun _ i => match i with | .ofNat m => f m | .negSucc _ => none) none
  | none => f d
noncomputable def ssB (P : Program) (t : TypeId) : Box (Value → Option Value → Option Value → Option Value) :=
  match P.underlying t with
  | some .string => ⟨fun v lo hi => vStr v (fun s => boundF hi (lenL (byteList s)) (fun b => boundF lo 0 (fun a =>
      match Nat.ble b (lenL (byteList s)), Nat.ble a b with
      | true, true => some (.string ⟨⟨takeL' (Nat.sub b a) (dropL a (byteList s))⟩⟩)
      | _, _ => none))) none⟩
  | _ => ⟨fun _ _ _ => none⟩
theorem sliceBound_ok (k : IntKind) (m y : Nat) (c : BoundsCode) (h : m ≤ y) : Instr.sliceBound (.int k (Int.ofNat m)) y c = pure m := by
  unfold Instr.sliceBound
  simp only [Go.asIntOf, pure_bind]
  rw [if_pos (by simp only [Int.ofNat_eq_natCast]; omega)]
  rfl
theorem boundF_some {v : Option Value} {d : Nat} {f : Nat → Option Value} {r : Value} (h : boundF v d f = some r) : ∃ m, f m = some r ∧ ((v = none ∧ m = d) ∨ ∃ k, v = some (.int k (Int.ofNat m))) := by
  unfold boundF at h
  split at h
  · obtain ⟨k, i, rfl, e⟩ := vInt_some h
    split at e
    · exact ⟨_, e, .inr ⟨k, rfl⟩⟩
    · cases e
  · exact ⟨d, h, .inl ⟨rfl, rfl⟩⟩
theorem ssB_some {t : TypeId} {v r : Value} {lo hi : Option Value} (e : (ssB P t).un v lo hi = some r) : ∃ s, v = .string s ∧ optFlat lo = true ∧ optFlat hi = true ∧ Sem.runP P (Instr.sliceAt t (.string s) lo hi none) = some r ∧ flatV r = true := by
  unfold ssB at e
  split at e <;> try (cases e; done)
  rename_i hd
  dsimp only at e
  obtain ⟨s, rfl, e2⟩ := vStr_some e
  obtain ⟨b, e3, hb⟩ := boundF_some e2
  obtain ⟨a, e4, ha⟩ := boundF_some e3
  split at e4 <;> try (cases e4; done)
  rename_i h1 h2
  rw [Nat.ble_eq] at h1 h2
  obtain rfl := Option.some.inj e4
  have hls : lenL (byteList s) = s.size := by rw [lenL_eq, byteList_eq, Array.length_toList]; rfl
  rw [hls] at h1 hb
  have hx : (⟨⟨takeL' (Nat.sub b a) (dropL a (byteList s))⟩⟩ : ByteArray) = s.extract a b := by
    apply WideShapes.bytes_inj
    simp [takeL'_eq, dropL_eq, byteList_eq]
  rw [hx]
  have und : Sem.runP P (Go.underlying t) = some .string := by
    unfold Go.underlying
    show Sem.runP P (match P.underlying t with | some d => pure d | none => stuck _) = _
    rw [hd]; rfl
  have undb : ∀ {α : Type} (f : TypeDesc → Sem α), Sem.runP P (Go.underlying t >>= f) = Sem.runP P (f .string) := by
    intro α f
    unfold Go.underlying
    show Sem.runP P ((match P.underlying t with | some d => pure d | none => stuck _) >>= f) = _
    rw [hd]; rfl
  have hsl : Sem.runP P (Instr.sliceAt t (.string s) lo hi none) = some (.string (s.extract a b)) := by
    unfold Instr.sliceAt
    rw [undb]
    dsimp only
    unfold Instr.slice
    rw [undb]
    dsimp only
    unfold Instr.sliceBounds
    rcases hb with ⟨rfl, rfl⟩ | ⟨k, rfl⟩ <;> rcases ha with ⟨rfl, rfl⟩ | ⟨k', rfl⟩ <;> first
      | rfl
      | (simp only [sliceBound_ok _ _ _ _ h1, pure_bind]; rfl)
      | (simp only [sliceBound_ok _ _ _ _ h1, sliceBound_ok _ _ _ _ h2, pure_bind]; rfl)
  refine ⟨s, rfl, ?_, ?_, hsl, rfl⟩
  · rcases ha with ⟨rfl, rfl⟩ | ⟨k, rfl⟩ <;> rfl
  · rcases hb with ⟨rfl, rfl⟩ | ⟨k, rfl⟩ <;> rfl

/-! ## Structs of plain parts are the same -/
def sameB : Bool → Bool → Bool
  | true, b => b
  | false, b => notB b
theorem sameB_eq (a b : Bool) : sameB a b = (a == b) := by cases a <;> cases b <;> rfl
theorem strEq (a c : ByteArray) : eqL (byteList a) (byteList c) = (a == c) := by
  rw [eqL_eq, byteList_eq, byteList_eq, Bool.eq_iff_iff, beq_iff_eq]
  constructor
  · intro h
    have : a = c := WideShapes.bytes_inj h
    rw [this]
    show (c == c) = true
    exact (show (c.data == c.data) = true by simp)
  · intro h
    have h2 : a.data = c.data := by
      have : (a.data == c.data) = true := h
      exact eq_of_beq this
    rw [h2]
def andB : Bool → Bool → Bool
  | true, b => b
  | false, _ => false
theorem andB_true (a : Bool) : andB a true = a := by cases a <;> rfl
theorem andB_assoc (a b c : Bool) : andB (andB a b) c = andB a (andB b c) := by cases a <;> rfl
/-- 0: truth values, 1: numbers, 2: texts. -/
noncomputable def eqK : Nat → Box (Value → Value → Option Bool)
  | 0 => ⟨fun x y => vBool x (fun a => vBool y (fun b => some (sameB a b)) none) none⟩
  | 1 => ⟨fun x y => ints x y (fun _ a b => some (intEq a b))⟩
  | _ + 2 => ⟨fun x y => vStr x (fun a => vStr y (fun b => some (eqL (byteList a) (byteList b))) none) none⟩
noncomputable def eqCells : List Nat → Box (List Value → List Value → Option Bool)
  | [] => ⟨fun l l' => match l with | [] => (match l' with | [] => some true | _ :: _ => none) | _ :: _ => none⟩
  | k :: ks => ⟨fun l l' => match l with
    | [] => none
    | x :: xs => match l' with
      | [] => none
      | y :: ys => match (eqK k).un x y, (eqCells ks).un xs ys with
        | some a, some b => some (andB a b)
        | _, _ => none⟩
def leavesFs (P : Program) (lv : TypeId → Option (List Nat)) : List Field → Nat → Option (List Nat)
  | [], _ => some []
  | f :: rest, k => match lv f.type, P.info? f.type with
    | some ks, some i => if (f.name != "_") && (Nat.beq f.offset k && Nat.beq i.size ks.length) then
        match leavesFs P lv rest (k + ks.length) with
        | some r => some (ks ++ r)
        | none => none
      else none
    | _, _ => none
def leaves (P : Program) : Nat → TypeId → Option (List Nat)
  | 0, _ => none
  | d + 1, t => match P.underlying t with
    | some .bool => some [0]
    | some (.int _) => some [1]
    | some .string => some [2]
    | some (.struct fs) => if P.stoodInHeld t then none else leavesFs P (leaves P d) fs.toList 0
    | _ => none
theorem eqCells_append : ∀ (ks ks' : List Nat) (a b c d : List Value), a.length = ks.length → b.length = ks.length → (eqCells (ks ++ ks')).un (a ++ c) (b ++ d) = match (eqCells ks).un a b, (eqCells ks').un c d with | some r, some r' => some (andB r r') | _, _ => none := by
  intro ks
  induction ks with
  | nil =>
    intro ks' a b c d h1 h2
    obtain rfl : a = [] := List.length_eq_zero_iff.1 h1
    obtain rfl : b = [] := List.length_eq_zero_iff.1 h2
    show (eqCells ks').un c d = _
    cases (eqCells ks').un c d <;> rfl
  | cons k ks ih =>
    intro ks' a b c d h1 h2
    cases a with
    | nil => simp at h1
    | cons x a =>
      cases b with
      | nil => simp at h2
      | cons y b =>
        simp only [List.cons_append, eqCells]
        rw [ih ks' a b c d (by simpa using h1) (by simpa using h2)]
        cases (eqK k).un x y <;> cases (eqCells ks).un a b <;> cases (eqCells ks').un c d <;> simp only [andB_assoc]
def valOf (agg : Bool) (l : List Value) : Value := match agg with | true => .agg ⟨l⟩ | false => l.headD undef
theorem part_valOf {t : TypeId} {d : TypeDesc} {i : TypeInfo} {cs : Array Value} {off : Nat} (hd : P.underlying t = some d) (hi : P.info? t = some i) (h1 : isAggD d = false → i.size = 1) (h : off + i.size ≤ cs.size) :
    (Go.part t cs off).runP P = some (valOf (isAggD d) ((cs.toList.drop off).take i.size)) := by
  unfold Go.part
  rw [runP_isAgg hd]
  cases ha : isAggD d with
  | true =>
    simp only [if_true]
    rw [runP_size hi, runP_pure]
    unfold valOf
    congr 2
    apply Array.ext'
    simp [List.take_drop]
  | false =>
    simp only [Bool.false_eq_true, if_false]
    have hs := h1 ha
    rw [hs] at h ⊢
    have hlt : off < cs.toList.length := by simp; omega
    have e : cs[off]? = some (cs.toList[off]) := by rw [← Array.getElem?_toList, List.getElem?_eq_getElem hlt]
    rw [e]
    unfold valOf
    rw [List.drop_eq_getElem_cons hlt]
    rfl
def EqGood (P : Program) (D : Nat) (t : TypeId) (ks : List Nat) : Prop := ∃ dd, P.underlying t = some dd ∧ (isAggD dd = false → ks.length = 1) ∧
  ∀ l l' b, l.length = ks.length → l'.length = ks.length → (eqCells ks).un l l' = some b → (Op.equalIn D t (valOf (isAggD dd) l) (valOf (isAggD dd) l')).runP P = some b
theorem eqCells_one {k : Nat} {l l' : List Value} {b : Bool} (h1 : l.length = 1) (h2 : l'.length = 1) (h : (eqCells [k]).un l l' = some b) : ∃ x y, l = [x] ∧ l' = [y] ∧ (eqK k).un x y = some b := by
  match l, h1, l', h2 with
  | [x], _, [y], _ =>
    refine ⟨x, y, rfl, rfl, ?_⟩
    simp only [eqCells] at h
    cases e : (eqK k).un x y with
    | none => rw [e] at h; cases h
    | some r =>
      rw [e] at h
      simp only [Option.some.injEq, andB_true] at h
      rw [h]
theorem eqFields {lv : TypeId → Option (List Nat)} {D : Nat} (ih : ∀ t ks, lv t = some ks → EqGood P D t ks) {xs ys : Array Value} : ∀ (fs : List Field) (k : Nat) (ks : List Nat) (b : Bool), leavesFs P lv fs k = some ks → k + ks.length ≤ xs.size → k + ks.length ≤ ys.size →
    (eqCells ks).un ((xs.toList.drop k).take ks.length) ((ys.toList.drop k).take ks.length) = some b →
    (forIn fs ((none, ()) : Option Bool × Unit) fun f (_ : Option Bool × Unit) =>
              if f.name ≠ "_" then do
                let a ← part f.type xs f.offset
                let c ← part f.type ys f.offset
                let e ← Op.equalIn D f.type a c
                if (!e) = true then pure (ForInStep.done (some false, ()))
                  else pure (ForInStep.yield (none, ()))
              else pure (ForInStep.yield (none, ())) : Sem (Option Bool × Unit)).runP P = some (if b then none else some false, ()) := by
  intro fs
  induction fs with
  | nil =>
    intro k ks b h _ _ he
    simp only [leavesFs, Option.some.injEq] at h
    subst h
    simp only [List.length_nil, List.take_zero, eqCells, Option.some.injEq] at he
    subst he
    rfl
  | cons f fs ihf =>
    intro k ks b h hx hy he
    simp only [leavesFs] at h
    split at h
    · rename_i ks1 i hl hi
      split at h
      · rename_i hc
        simp only [Bool.and_eq_true, bne_iff_ne, Nat.beq_eq] at hc
        obtain ⟨hnm, hoff, hsz⟩ := hc
        split at h
        · rename_i ks2 h2
          obtain rfl := Option.some.inj h
          rw [List.length_append] at hx hy he
          obtain ⟨dd, hd, hone, hgood⟩ := ih _ _ hl
          have hp : ∀ cs : Array Value, k + (ks1.length + ks2.length) ≤ cs.size → (Go.part f.type cs f.offset).runP P = some (valOf (isAggD dd) ((cs.toList.drop k).take ks1.length)) := by
            intro cs hcs
            have := part_valOf (cs := cs) (off := f.offset) hd hi (fun ha => by rw [hsz]; exact hone ha) (by omega)
            rw [hsz, hoff] at this
            rw [hoff]; exact this
          have split : ∀ cs : Array Value, k + (ks1.length + ks2.length) ≤ cs.size → (cs.toList.drop k).take (ks1.length + ks2.length) = (cs.toList.drop k).take ks1.length ++ (cs.toList.drop (k + ks1.length)).take ks2.length := by
            intro cs hcs
            rw [List.take_add, List.drop_drop]
          rw [split xs hx, split ys hy] at he
          have hlen : ∀ cs : Array Value, k + (ks1.length + ks2.length) ≤ cs.size → ((cs.toList.drop k).take ks1.length).length = ks1.length := by
            intro cs hcs; simp; omega
          rw [eqCells_append _ _ _ _ _ _ (hlen xs hx) (hlen ys hy)] at he
          rw [List.forIn_cons, runP_bind, if_pos hnm, runP_bind_some (hp xs hx), runP_bind_some (hp ys hy)]
          cases hq : (eqCells ks1).un ((xs.toList.drop k).take ks1.length) ((ys.toList.drop k).take ks1.length) with
          | none => rw [hq] at he; cases he
          | some r =>
            rw [hq] at he
            have hg := hgood _ _ r (hlen xs hx) (hlen ys hy) hq
            rw [runP_bind_some hg]
            cases hq2 : (eqCells ks2).un ((xs.toList.drop (k + ks1.length)).take ks2.length) ((ys.toList.drop (k + ks1.length)).take ks2.length) with
            | none => rw [hq2] at he; cases he
            | some r2 =>
              rw [hq2] at he
              simp only [Option.some.injEq] at he
              cases r with
              | false => subst he; rfl
              | true =>
                have he' : r2 = b := he
                subst he'
                exact ihf (k + ks1.length) ks2 _ h2 (by omega) (by omega) hq2
        · cases h
      · cases h
    · cases h
theorem leaves_good : ∀ (d D : Nat), d ≤ D → ∀ t ks, leaves P d t = some ks → EqGood P D t ks := by
  intro d
  induction d with
  | zero => intro D _ t ks h; cases h
  | succ d ih =>
    intro D hD t ks h
    obtain ⟨D', rfl⟩ : ∃ D', D = D' + 1 := ⟨D - 1, by omega⟩
    simp only [leaves] at h
    split at h
    · rename_i hd
      obtain rfl := Option.some.inj h
      refine ⟨_, hd, fun _ => rfl, fun l l' b h1 h2 h3 => ?_⟩
      obtain ⟨x, y, rfl, rfl, e⟩ := eqCells_one h1 h2 h3
      obtain ⟨a, rfl, e2⟩ := vBool_some e
      obtain ⟨c, rfl, e3⟩ := vBool_some e2
      rw [← Option.some.inj e3, sameB_eq]
      show (Op.equalIn (D' + 1) t (.bool a) (.bool c)).runP P = _
      unfold Op.equalIn
      rw [runP_und hd]
      rfl
    · rename_i k0 hd
      obtain rfl := Option.some.inj h
      refine ⟨_, hd, fun _ => rfl, fun l l' b h1 h2 h3 => ?_⟩
      obtain ⟨x, y, rfl, rfl, e⟩ := eqCells_one h1 h2 h3
      obtain ⟨k, a, c, rfl, rfl, e2⟩ := ints_some e
      rw [← Option.some.inj e2, intEq_eq]
      show (Op.equalIn (D' + 1) t (.int k a) (.int k c)).runP P = _
      unfold Op.equalIn
      rw [runP_und hd]
      simp only [if_true]
      rfl
    · rename_i hd
      obtain rfl := Option.some.inj h
      refine ⟨_, hd, fun _ => rfl, fun l l' b h1 h2 h3 => ?_⟩
      obtain ⟨x, y, rfl, rfl, e⟩ := eqCells_one h1 h2 h3
      obtain ⟨a, rfl, e2⟩ := vStr_some e
      obtain ⟨c, rfl, e3⟩ := vStr_some e2
      rw [← Option.some.inj e3, strEq]
      show (Op.equalIn (D' + 1) t (.string a) (.string c)).runP P = _
      unfold Op.equalIn
      rw [runP_und hd]
      rfl
    · rename_i fs hd
      split at h
      · cases h
      · rename_i hst
        refine ⟨_, hd, fun ha => (by cases ha), fun l l' b h1 h2 h3 => ?_⟩
        have hst' : P.stoodInHeld t = false := by simpa using hst
        show (Op.equalIn (D' + 1) t (.agg ⟨l⟩) (.agg ⟨l'⟩)).runP P = some b
        unfold Op.equalIn
        rw [runP_und hd]
        dsimp only
        rw [runP_bind]
        simp only [Go.program, Sem.runP, hst', Bool.false_eq_true, if_false]
        have hf := eqFields (P := P) (D := D') (fun t ks h => ih D' (by omega) t ks h) (xs := ⟨l⟩) (ys := ⟨l'⟩) fs.toList 0 ks b h (by simp [h1]) (by simp [h2]) (by
          simp only [List.drop_zero]
          rw [List.take_of_length_le (by omega), List.take_of_length_le (by omega)]
          exact h3)
        rw [← Array.forIn_toList]
        rw [runP_bind_some hf]
        cases b <;> rfl
    · cases h

/-! ## '==' by the type -/
def nilP (v : Value) : Option Bool := match v with | .pointer none => some true | .pointer (some _) => some false | _ => none
def nilS (v : Value) : Option Bool := match v with | .slice none _ _ => some true | .slice (some _) _ _ => some false | _ => none
def nilBoth (a b : Option Bool) : Option Bool := match a with
  | some true => b
  | some false => (match b with | some true => some false | _ => none)
  | none => none
noncomputable def basicL (l : List Value) : Bool := List.rec (motive := fun _ => Bool) true (fun x _ ih => vInt x (fun _ _ => ih) (vStr x (fun _ => ih) (vBool x (fun _ => ih) false))) l
theorem basicL_flat : ∀ l : List Value, basicL l = true → l.all (vflat 7) = true := by
  intro l
  induction l with
  | nil => intro _; rfl
  | cons x l ih =>
    intro h
    have h' : vInt x (fun _ _ => basicL l) (vStr x (fun _ => basicL l) (vBool x (fun _ => basicL l) false)) = true := h
    cases x <;> first
      | (have h2 : basicL l = true := h'
         simp only [List.all_cons, ih h2, Bool.and_true]; rfl)
      | cases h'
noncomputable def eqT (P : Program) (t : TypeId) : Option (Box (Value → Value → Option Bool)) :=
  match P.underlying t with
  | some .bool => some (eqK 0)
  | some (.pointer _) => some ⟨fun x y => nilBoth (nilP x) (nilP y)⟩
  | some (.slice _) => some ⟨fun x y => nilBoth (nilS x) (nilS y)⟩
  | some (.struct _) => match P.eqGuardType P.depth t with
    | true => none
    | false => match leaves P 30 t with
      | some ks => some ⟨fun x y => vAgg x (fun a => vAgg y (fun b => (match Nat.beq (lenV (listOf a)) ks.length, Nat.beq (lenV (listOf b)) ks.length, basicL (listOf a), basicL (listOf b) with | true, true, true, true => (eqCells ks).un (listOf a) (listOf b) | _, _, _, _ => none)) none) none⟩
      | none => none
  | _ => none
noncomputable def binT (P : Program) (op : BinOp) (t : TypeId) : Box (Value → Value → Option Value) :=
  match op with
  | .eql => match eqT P t with
    | some b => ⟨fun x y => match b.un x y with | some r => some (.bool r) | none => none⟩
    | none => binB .eql
  | .neq => match eqT P t with
    | some b => ⟨fun x y => match b.un x y with | some r => some (.bool (notB r)) | none => none⟩
    | none => binB .neq
  | op => binB op
def BinWay (P : Program) (op : BinOp) (t : TypeId) (v w r : Value) : Prop :=
  (flatV v = true ∧ flatV w = true ∧ flatV r = true ∧ ∀ x y, Sem.runP P (do eqGuard op t x y v w; binOp op t v w) = some r) ∨ ((flatV v && flatV w) = false ∧ nilEqA P op t v w = some r)
theorem BinWay.of_good {op : BinOp} {t : TypeId} {v w r : Value} (h : BinGood P op v w r) : BinWay P op t v w r :=
  .inl ⟨(h t (.const v) (.const w)).2.1, (h t (.const v) (.const w)).2.2.1, (h t (.const v) (.const w)).2.2.2, fun x y => (h t x y).1⟩
/-- What is shown of '==' and '!='. -/
def EqWay (P : Program) (t : TypeId) (v w : Value) (r : Bool) : Prop := BinWay P .eql t v w (.bool r) ∧ BinWay P .neq t v w (.bool (notB r))
theorem eqWay_flat {t : TypeId} {v w : Value} {r : Bool} (hv : flatV v = true) (hw : flatV w = true) (hg : ∀ op x y, (eqGuard op t x y v w).runP P = some ()) (he : (Op.equal t v w).runP P = some r)
    (h1 : binOp .eql t v w = (do pure (.bool (← Op.equal t v w)))) (h2 : binOp .neq t v w = (do pure (.bool (!(← Op.equal t v w))))) : EqWay P t v w r := by
  refine ⟨.inl ⟨hv, hw, rfl, fun x y => ?_⟩, .inl ⟨hv, hw, rfl, fun x y => ?_⟩⟩
  · rw [runP_bind_some (hg _ x y), h1, runP_bind_some he]; rfl
  · rw [runP_bind_some (hg _ x y), h2, runP_bind_some he, notB_eq]; rfl
theorem eqWay_nil {t : TypeId} {v w : Value} {r : Bool} (hn : (flatV v && flatV w) = false) (hk : refKind P t v w = true) (hi : (isNilV v || isNilV w) = true) (hr : r = (isNilV v && isNilV w)) : EqWay P t v w r := by
  subst hr
  refine ⟨.inr ⟨hn, ?_⟩, .inr ⟨hn, ?_⟩⟩
  · unfold nilEqA; rw [hk, hi]; rfl
  · unfold nilEqA; rw [hk, hi, notB_eq]; rfl
theorem eqT_way {t : TypeId} {b : Box (Value → Value → Option Bool)} {v w : Value} {r : Bool} (hb : eqT P t = some b) (h : b.un v w = some r) : EqWay P t v w r := by
  unfold eqT at hb
  split at hb
  · rename_i hd
    obtain rfl := Option.some.inj hb
    obtain ⟨a, rfl, e2⟩ := vBool_some h
    obtain ⟨c, rfl, e3⟩ := vBool_some e2
    refine eqWay_flat rfl rfl (fun op x y => by cases op <;> rfl) ?_ rfl rfl
    rw [← Option.some.inj e3, sameB_eq]
    show (Op.equalIn 10000 t (.bool a) (.bool c)).runP P = _
    unfold Op.equalIn
    rw [runP_und hd]
    rfl
  · rename_i e0 hd
    obtain rfl := Option.some.inj hb
    dsimp only at h
    have two : ∀ a c : Option Addr, v = .pointer a → w = .pointer c → EqWay P t v w r := by
      intro a c hv hw
      subst hv; subst hw
      cases a with
      | none =>
        cases c with
        | none =>
          obtain rfl : true = r := Option.some.inj h
          refine eqWay_flat rfl rfl (fun op x y => by cases op <;> rfl) ?_ rfl rfl
          show (Op.equalIn 10000 t (.pointer none) (.pointer none)).runP P = _
          unfold Op.equalIn
          rw [runP_und hd]
          rfl
        | some c =>
          obtain rfl : false = r := Option.some.inj h
          exact eqWay_nil rfl (by unfold refKind; rw [hd]) rfl rfl
      | some a =>
        cases c with
        | none =>
          obtain rfl : false = r := Option.some.inj h
          exact eqWay_nil rfl (by unfold refKind; rw [hd]) rfl rfl
        | some c => cases h
    cases v <;> first
      | (cases h; done)
      | (rename_i a
         cases w <;> first
           | (cases a <;> cases h; done)
           | exact two _ _ rfl rfl)
  · rename_i e0 hd
    obtain rfl := Option.some.inj hb
    dsimp only at h
    have two : ∀ (a c : Option Addr) (n k n' k' : Nat), v = .slice a n k → w = .slice c n' k' → EqWay P t v w r := by
      intro a c n k n' k' hv hw
      subst hv; subst hw
      cases a with
      | none =>
        cases c with
        | none =>
          obtain rfl : true = r := Option.some.inj h
          refine eqWay_flat rfl rfl (fun op x y => by cases op <;> rfl) ?_ rfl rfl
          show (Op.equalIn 10000 t (.slice none n k) (.slice none n' k')).runP P = _
          unfold Op.equalIn
          rw [runP_und hd]
          rfl
        | some c =>
          obtain rfl : false = r := Option.some.inj h
          exact eqWay_nil rfl (by unfold refKind; rw [hd]) rfl rfl
      | some a =>
        cases c with
        | none =>
          obtain rfl : false = r := Option.some.inj h
          exact eqWay_nil rfl (by unfold refKind; rw [hd]) rfl rfl
        | some c => cases h
    cases v <;> first
      | (cases h; done)
      | (rename_i a n k
         cases w <;> first
           | (cases a <;> cases h; done)
           | exact two _ _ _ _ _ _ rfl rfl)
  · rename_i fs hd
    split at hb
    · cases hb
    · rename_i hgt
      split at hb
      · rename_i ks hks
        obtain rfl := Option.some.inj hb
        dsimp only at h
        obtain ⟨a, rfl, e2⟩ := vAgg_some h
        obtain ⟨c, rfl, e3⟩ := vAgg_some e2
        split at e3
        · rename_i l1 l2 b1 b2
          rw [Nat.beq_eq, lenV_eq, listOf_eq] at l1 l2
          rw [listOf_eq] at b1 b2
          obtain ⟨dd, hdd, _, hgood⟩ := leaves_good (P := P) 30 10000 (by decide) t ks hks
          rw [hd] at hdd
          obtain rfl := Option.some.inj hdd
          have := hgood a.toList c.toList r l1 l2 e3
          refine eqWay_flat (basicL_flat _ b1) (basicL_flat _ b2) (fun op x y => ?_) this rfl rfl
          cases op <;> first | rfl | (simp [eqGuard, runP_bind, Go.program, Sem.runP, hgt]; done) | (simp [eqGuard, runP_bind, Go.program, Sem.runP, hgt]; rfl)
        · cases e3
      · cases hb
  · cases hb
theorem binT_way {op : BinOp} {t : TypeId} {v w r : Value} (h : (binT P op t).un v w = some r) : BinWay P op t v w r := by
  unfold binT at h
  split at h
  · split at h
    · rename_i b hb
      dsimp only at h
      split at h
      · rename_i x hx
        obtain rfl := Option.some.inj h
        exact (eqT_way hb hx).1
      · cases h
    · exact .of_good (binB_good h)
  · split at h
    · rename_i b hb
      dsimp only at h
      split at h
      · rename_i x hx
        obtain rfl := Option.some.inj h
        exact (eqT_way hb hx).2
      · cases h
    · exact .of_good (binB_good h)
  · exact .of_good (binB_good h)
end
end Go.Ab
