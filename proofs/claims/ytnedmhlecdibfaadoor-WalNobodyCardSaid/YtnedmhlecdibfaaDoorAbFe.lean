import Derived.Test.YtnedmhlecdibfaaDoorAbFd
namespace Go.Ab
open Go
section
variable {P : Program}

/-! ## What each operation does, once its static part is known -/
theorem runA_newVar (t : TypeId) (v : Value) (h : AHeap) : (Go.newVar t v).runA P h = match Nat.blt h.next h.lim with | true => some (⟨h.next, 0, none⟩, h.push (.cells (Row.ofList v.cells.toList) t)) | false => none := by
  unfold Go.newVar Go.newRow
  rw [runA_bind']
  simp only [newObj, Sem.runA]
  cases Nat.blt h.next h.lim <;> rfl
def allocS (row : Row) (t : TypeId) (h : AHeap) : Option (Value × AHeap) := match Nat.blt h.next h.lim with
  | true => some (.pointer (some ⟨h.next, 0, none⟩), h.push (.cells row t))
  | false => none
noncomputable def allocF (row : Row) (t : TypeId) (h : AHeap) : Option (Value × AHeap) := match h with
  | ⟨tr, n, l⟩ => match Nat.blt n l with
    | true => some (.pointer (some ⟨n, 0, none⟩), ⟨(setB AObj.dead (Path.of n)).un tr (.cells row t), Nat.succ n, l⟩)
    | false => none
theorem allocF_eq (row : Row) (t : TypeId) (h : AHeap) : allocF row t h = allocS row t h := by
  unfold allocF allocS
  simp only [setB_eq]
  rfl
noncomputable def rowOfB (l : List Value) : Row := ⟨lenV l, treeOfB l 0 .leaf⟩
theorem rowOfB_eq (l : List Value) : rowOfB l = Row.ofList l := by unfold rowOfB Row.ofList; rw [lenV_eq, treeOfB_eq]
def cellsL (v : Value) : List Value := match v with | .agg c => listOf c | x => [x]
theorem cellsL_eq (v : Value) : cellsL v = v.cells.toList := by cases v <;> rfl

theorem runP_bind {α β : Type} (s : Sem α) (f : α → Sem β) : (s >>= f).runP P = match s.runP P with | some a => (f a).runP P | none => none := by
  show (s.bind f).runP P = _
  induction s with
  | pure a => rfl
  | program k ih => exact ih P
  | mark md k ih => exact ih
  | _ => rfl
theorem runP_bind_some {α β : Type} {s : Sem α} {f : α → Sem β} {a : α} (h : s.runP P = some a) : (s >>= f).runP P = (f a).runP P := by rw [runP_bind, h]
theorem runP_und {α : Type} {t : TypeId} {d : TypeDesc} (h : P.underlying t = some d) (f : TypeDesc → Sem α) : (Go.underlying t >>= f).runP P = (f d).runP P := by
  refine runP_bind_some ?_
  unfold Go.underlying
  rw [runP_bind]
  simp only [Go.program, Sem.runP, h]
  rfl
theorem runP_info {α : Type} {t : TypeId} {i : TypeInfo} (h : P.info? t = some i) (f : TypeInfo → Sem α) : (Go.typeInfo t >>= f).runP P = (f i).runP P := by
  refine runP_bind_some ?_
  unfold Go.typeInfo
  rw [runP_bind]
  simp only [Go.program, Sem.runP, h]
  rfl
theorem runP_size {α : Type} {t : TypeId} {i : TypeInfo} (h : P.info? t = some i) (f : Nat → Sem α) : (Go.sizeOf t >>= f).runP P = (f i.size).runP P := by
  refine runP_bind_some ?_
  unfold Go.sizeOf
  rw [runP_info h]; rfl
theorem runP_isAgg {α : Type} {t : TypeId} {d : TypeDesc} (h : P.underlying t = some d) (f : Bool → Sem α) : (Go.isAgg t >>= f).runP P = (f (isAggD d)).runP P := by
  refine runP_bind_some ?_
  unfold Go.isAgg
  rw [runP_und h]
  cases d <;> rfl
theorem runP_pure {α : Type} (a : α) : (Pure.pure a : Sem α).runP P = some a := rfl

/-- Where a field lies. -/
def faOff (P : Program) (s : TypeId) (f : Nat) : Option Nat :=
  match P.underlying s with
  | some (.struct fields) => match fields[f]? with
    | some fl => match P.info? fl.type with
      | some i => match Nat.beq i.size 0 with | true => none | false => some fl.offset
      | none => none
    | none => none
  | _ => none
theorem faOff_some {s : TypeId} {f off b o : Nat} (e : faOff P s f = some off) : (Instr.fieldAt s (.pointer (some ⟨b, o, none⟩)) f).runP P = some (.pointer (some ⟨b, o + off, none⟩)) := by
  unfold faOff at e
  split at e <;> try (cases e; done)
  rename_i fields hs
  split at e <;> try (cases e; done)
  rename_i fl hf
  split at e <;> try (cases e; done)
  rename_i i hi
  split at e <;> try (cases e; done)
  rename_i hz
  obtain rfl := Option.some.inj e
  have hz' : i.size ≠ 0 := by intro q; rw [q] at hz; cases hz
  unfold Instr.fieldAt
  rw [runP_und hs]
  dsimp only
  rw [hf]
  dsimp only [Instr.sureAddr]
  rw [pure_bind]
  unfold fieldPlace
  refine (runP_bind_some (a := ⟨b, o + fl.offset, none⟩) ?_).trans rfl
  rw [runP_size hi, if_neg hz', add_none]
  rfl
/-- A part of a struct's cells. -/
noncomputable def fdB (P : Program) (s : TypeId) (f : Nat) : Box (Value → Option Value) :=
  match P.underlying s with
  | some (.struct fields) => match fields[f]? with
    | some fl => match P.underlying fl.type, P.info? fl.type with
      | some d, some i => match isAggD d with
        | false => ⟨fun v => vAgg v (fun c => nthV (listOf c) fl.offset) none⟩
        | true => ⟨fun v => vAgg v (fun c => some (.agg ⟨(c.toList.drop fl.offset).take i.size⟩)) none⟩
      | _, _ => ⟨fun _ => none⟩
    | none => ⟨fun _ => none⟩
  | _ => ⟨fun _ => none⟩
theorem fdB_some {s : TypeId} {f : Nat} {v r : Value} (e : (fdB P s f).un v = some r) : (Instr.field s v f).runP P = some r := by
  unfold fdB at e
  split at e <;> try (cases e; done)
  rename_i fields hs
  split at e <;> try (cases e; done)
  rename_i fl hf
  split at e <;> try (cases e; done)
  rename_i d i hd hi
  unfold Instr.field
  rw [runP_und hs]
  dsimp only
  rw [hf]
  dsimp only
  split at e
  · rename_i hag
    dsimp only at e
    obtain ⟨c, rfl, e2⟩ := vAgg_some e
    rw [nthV_eq, listOf_eq] at e2
    dsimp only [Go.asAgg]
    rw [pure_bind]
    unfold Go.part
    rw [runP_isAgg hd, hag]
    simp only [Bool.false_eq_true, if_false]
    rw [Array.getElem?_toList] at e2
    rw [e2]; rfl
  · rename_i hag
    dsimp only at e
    obtain ⟨c, rfl, e2⟩ := vAgg_some e
    obtain rfl := Option.some.inj e2
    dsimp only [Go.asAgg]
    rw [pure_bind]
    unfold Go.part
    rw [runP_isAgg hd, hag]
    simp only [if_true]
    rw [runP_size hi, runP_pure]
    congr 2
    apply Array.ext'
    simp [List.take_drop]
/-- An element's place. -/
noncomputable def iaB (P : Program) (t : TypeId) : Box (Value → Value → Option Value) :=
  match P.underlying t with
  | some (.slice e) => match P.info? e with
    | some ei => ⟨fun v j => vSlice v (fun b o n _ => vInt j (fun _ i => idxOf i n (fun m => some (.pointer (some ⟨b, Nat.add o (Nat.mul m ei.size), none⟩)))) none) none⟩
    | none => ⟨fun _ _ => none⟩
  | some (.array n e) => match P.info? e with
    | some ei => ⟨fun v j => vPtr v (fun b o => vInt j (fun _ i => idxOf i n (fun m => some (.pointer (some ⟨b, Nat.add o (Nat.mul m ei.size), none⟩)))) none) none⟩
    | none => ⟨fun _ _ => none⟩
  | _ => ⟨fun _ _ => none⟩
theorem iaB_some {t : TypeId} {v j r : Value} (e : (iaB P t).un v j = some r) : (Instr.indexAt t v j).runP P = some r := by
  have tail : ∀ (b o n m : Nat) (k : IntKind) (elem : TypeId) (ei : TypeInfo) (d : TypeDesc), P.underlying t = some d → P.info? elem = some ei → m < n →
      (Ab.idxTail t k (Int.ofNat m) (some ⟨b, o, none⟩) n elem).runP P = some (.pointer (some ⟨b, o + m * ei.size, none⟩)) := by
    intro b o n m k elem ei d hd hi hm
    unfold Ab.idxTail
    rw [runP_und hd]
    dsimp only
    rw [if_pos (by simp only [Int.ofNat_eq_natCast]; omega), runP_size hi, add_none]
    rfl
  unfold iaB at e
  split at e <;> try (cases e; done)
  · rename_i elem hd
    split at e <;> try (cases e; done)
    rename_i ei hi
    dsimp only at e
    obtain ⟨b, o, n, c, rfl, e2⟩ := vSlice_some e
    obtain ⟨k, i, rfl, e3⟩ := vInt_some e2
    obtain ⟨m, rfl, hm, e4⟩ := idxOf_some e3
    obtain rfl := Option.some.inj e4
    unfold Instr.indexAt
    dsimp only [Go.asIntOf]
    rw [pure_bind, runP_und hd]
    exact tail b o n m k elem ei _ hd hi hm
  · rename_i n elem hd
    split at e <;> try (cases e; done)
    rename_i ei hi
    dsimp only at e
    obtain ⟨b, o, rfl, e2⟩ := vPtr_some e
    obtain ⟨k, i, rfl, e3⟩ := vInt_some e2
    obtain ⟨m, rfl, hm, e4⟩ := idxOf_some e3
    obtain rfl := Option.some.inj e4
    unfold Instr.indexAt
    dsimp only [Go.asIntOf]
    rw [pure_bind, runP_und hd]
    exact tail b o n m k elem ei _ hd hi hm
/-- A text's byte. -/
noncomputable def ixB (P : Program) (t : TypeId) : Box (Value → Value → Option Value) :=
  match P.underlying t with
  | some .string => ⟨fun v j => vStr v (fun s => vInt j (fun _ i => match i with | .ofNat m => (match nthL (byteList s) m with | some n => some (.int .u8 (Int.ofNat n)) | none => none) | .negSucc _ => none) none) none⟩
  | _ => ⟨fun _ _ => none⟩
theorem ixB_some {t : TypeId} {v j r : Value} (e : (ixB P t).un v j = some r) : (Instr.index t v j).runP P = some r := by
  unfold ixB at e
  split at e <;> try (cases e; done)
  rename_i hd
  dsimp only at e
  obtain ⟨s, rfl, e2⟩ := vStr_some e
  obtain ⟨k, i, rfl, e3⟩ := vInt_some e2
  split at e3 <;> try (cases e3; done)
  rename_i m
  split at e3 <;> try (cases e3; done)
  rename_i n hn
  obtain rfl := Option.some.inj e3
  rw [nthL_eq, byteList_eq] at hn
  unfold Instr.index
  dsimp only [Go.asIntOf]
  rw [pure_bind, runP_und hd]
  dsimp only
  obtain ⟨u, hu, rfl⟩ := Option.map_eq_some_iff.1 hn
  have h0 : s[(Int.ofNat m).toNat]? = some u := by
    have hm : m < s.data.toList.length := by
      rcases Nat.lt_or_ge m s.data.toList.length with q | q
      · exact q
      · rw [List.getElem?_eq_none q] at hu; cases hu
    have hm2 : m < s.size := by simpa using hm
    have : (Int.ofNat m).toNat = m := rfl
    rw [this, getElem?_pos s m hm2]
    rw [List.getElem?_eq_getElem hm] at hu
    rw [← hu]
    rfl
  rw [if_pos (by simp only [Int.ofNat_eq_natCast]; omega), h0]
  rfl
/-- A length. -/
noncomputable def lnB (P : Program) (ts : Array TypeId) : Box (Value → Option Value) :=
  match ts[0]? with
  | some t => match P.underlying t with
    | some .string => ⟨fun v => vStr v (fun s => some (.int .i64 (Int.ofNat (lenL (byteList s))))) none⟩
    | some (.slice _) => ⟨fun v => match v with | .slice _ n _ => some (.int .i64 (Int.ofNat n)) | _ => none⟩
    | some (.array n _) => ⟨fun _ => some (.int .i64 (Int.ofNat n))⟩
    | _ => ⟨fun _ => none⟩
  | none => ⟨fun _ => none⟩
theorem lnB_some {ts : Array TypeId} {ty : TypeId} {v r : Value} (e : (lnB P ts).un v = some r) : (Builtin.len_ ts ty #[v]).runP P = some r := by
  unfold lnB at e
  split at e <;> try (cases e; done)
  rename_i t ht
  unfold Builtin.len_
  rw [ht]
  simp only [List.getElem?_toArray, List.getElem?_cons_zero]
  split at e <;> try (cases e; done)
  · rename_i hd
    dsimp only at e
    obtain ⟨s, rfl, e2⟩ := vStr_some e
    obtain rfl := Option.some.inj e2
    rw [runP_und hd]
    dsimp only
    rw [lenL_eq, byteList_eq, Array.length_toList]
    rfl
  · rename_i el hd
    dsimp only at e
    split at e <;> try (cases e; done)
    obtain rfl := Option.some.inj e
    rw [runP_und hd]
    rfl
  · rename_i n el hd
    dsimp only at e
    obtain rfl := Option.some.inj e
    rw [runP_und hd]
    rfl
/-- A text's part. -/
noncomputable def boundF (v : Option Value) (d : Nat) (f : Nat → Option Value) : Option Value := match v with
  | some v => vInt v (fun _ i => match i with | .ofNat m => f m | .negSucc _ => none) none
  | none => f d
noncomputable def ssB (P : Program) (t : TypeId) : Box (Value → Option Value → Option Value → Option Value) :=
  match P.underlying t with
  | some .string => ⟨fun v lo hi => vStr v (fun s => boundF hi (lenL (byteList s)) (fun b => boundF lo 0 (fun a =>
      match Nat.ble b (lenL (byteList s)), Nat.ble a b with
      | true, true => some (.string ⟨⟨takeL' (Nat.sub b a) (dropL a (byteList s))⟩⟩)
      | _, _ => none))) none⟩
  | _ => ⟨fun _ _ _ => none⟩
theorem sliceBound_ok (k : IntKind) (m y : Nat) (c : BoundsCode) (h : m ≤ y) : Instr.sliceBound (.int k (Int.ofNat m)) y c = pure m := by
  unfold Instr.sliceBound
  simp only [Go.asIntOf, pure_bind]
  rw [if_pos (by simp only [Int.ofNat_eq_natCast]; omega)]
  rfl
theorem boundF_some {v : Option Value} {d : Nat} {f : Nat → Option Value} {r : Value} (h : boundF v d f = some r) : ∃ m, f m = some r ∧ ((v = none ∧ m = d) ∨ ∃ k, v = some (.int k (Int.ofNat m))) := by
  unfold boundF at h
  split at h
  · obtain ⟨k, i, rfl, e⟩ := vInt_some h
    split at e
    · exact ⟨_, e, .inr ⟨k, rfl⟩⟩
    · cases e
  · exact ⟨d, h, .inl ⟨rfl, rfl⟩⟩
theorem ssB_some {t : TypeId} {v r : Value} {lo hi : Option Value} (e : (ssB P t).un v lo hi = some r) : ∃ s, v = .string s ∧ optFlat lo = true ∧ optFlat hi = true ∧ Sem.runP P (Instr.sliceAt t (.string s) lo hi none) = some r ∧ flatV r = true := by
  unfold ssB at e
  split at e <;> try (cases e; done)
  rename_i hd
  dsimp only at e
  obtain ⟨s, rfl, e2⟩ := vStr_some e
  obtain ⟨b, e3, hb⟩ := boundF_some e2
  obtain ⟨a, e4, ha⟩ := boundF_some e3
  split at e4 <;> try (cases e4; done)
  rename_i h1 h2
  rw [Nat.ble_eq] at h1 h2
  obtain rfl := Option.some.inj e4
  have hls : lenL (byteList s) = s.size := by rw [lenL_eq, byteList_eq, Array.length_toList]; rfl
  rw [hls] at h1 hb
  have hx : (⟨⟨takeL' (Nat.sub b a) (dropL a (byteList s))⟩⟩ : ByteArray) = s.extract a b := by
    apply WideShapes.bytes_inj
    simp [takeL'_eq, dropL_eq, byteList_eq]
  rw [hx]
  have und : Sem.runP P (Go.underlying t) = some .string := by
    unfold Go.underlying
    show Sem.runP P (match P.underlying t with | some d => pure d | none => stuck _) = _
    rw [hd]; rfl
  have undb : ∀ {α : Type} (f : TypeDesc → Sem α), Sem.runP P (Go.underlying t >>= f) = Sem.runP P (f .string) := by
    intro α f
    unfold Go.underlying
    show Sem.runP P ((match P.underlying t with | some d => pure d | none => stuck _) >>= f) = _
    rw [hd]; rfl
  have hsl : Sem.runP P (Instr.sliceAt t (.string s) lo hi none) = some (.string (s.extract a b)) := by
    unfold Instr.sliceAt
    rw [undb]
    dsimp only
    unfold Instr.slice
    rw [undb]
    dsimp only
    unfold Instr.sliceBounds
    rcases hb with ⟨rfl, rfl⟩ | ⟨k, rfl⟩ <;> rcases ha with ⟨rfl, rfl⟩ | ⟨k', rfl⟩ <;> first
      | rfl
      | (simp only [sliceBound_ok _ _ _ _ h1, pure_bind]; rfl)
      | (simp only [sliceBound_ok _ _ _ _ h1, sliceBound_ok _ _ _ _ h2, pure_bind]; rfl)
  refine ⟨s, rfl, ?_, ?_, hsl, rfl⟩
  · rcases ha with ⟨rfl, rfl⟩ | ⟨k, rfl⟩ <;> rfl
  · rcases hb with ⟨rfl, rfl⟩ | ⟨k, rfl⟩ <;> rfl
end
end Go.Ab
