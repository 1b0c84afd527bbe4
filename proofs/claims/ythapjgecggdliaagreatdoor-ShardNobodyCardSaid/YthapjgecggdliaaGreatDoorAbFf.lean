import Derived.Test.YthapjgecggdliaaGreatDoorAbFe
namespace Go.Ab
open Go
section
variable {P : Program}

/-! ## Maps whose keys are whole numbers, quickly -/
noncomputable def findI (k : IntKind) (n : Int) (l : List MapEntry) : Nat → Option (Option (Nat × Value)) :=
  List.rec (motive := fun _ => Nat → Option (Option (Nat × Value))) (fun _ => some none) (fun e _ ih i => vInt e.key (fun k' n' => match Nat.beq (kb k) (kb k') with
    | true => (match intEq n n' with | true => some (some (i, e.val)) | false => ih (Nat.succ i))
    | false => none) none) l
theorem findI_some {kk : IntKind} {k : IntKind} {n : Int} : ∀ (l : List MapEntry) (i : Nat) (r : Option (Nat × Value)), findI k n l i = some r → Instr.findNow (.int kk) (.int k n) l i = some r := by
  intro l
  induction l with
  | nil => intro i r h; exact h
  | cons e l ih =>
    intro i r h
    obtain ⟨key, val, born⟩ := e
    have h0 : vInt key (fun k' n' => match Nat.beq (kb k) (kb k') with
      | true => (match intEq n n' with | true => some (some (i, val)) | false => findI k n l (Nat.succ i))
      | false => none) none = some r := h
    obtain ⟨k', n', rfl, h1⟩ := vInt_some h0
    split at h1
    · rename_i e
      rw [Nat.beq_eq] at e
      obtain rfl := kb_inj e
      simp only [Instr.findNow, Instr.sameNow, if_true]
      rw [← intEq_eq]
      split at h1
      · rename_i e2; rw [e2]; exact h1
      · rename_i e2; rw [e2]; exact ih _ _ h1
    · cases h1
noncomputable def snocL (x : MapEntry) (l : List MapEntry) : List MapEntry := List.rec (motive := fun _ => List MapEntry) [x] (fun e _ ih => e :: ih) l
theorem snocL_eq (x : MapEntry) (l : List MapEntry) : snocL x l = l ++ [x] := by
  induction l with
  | nil => rfl
  | cons e l ih => show e :: snocL x l = _; rw [ih]; rfl
def modL (k v : Value) : List MapEntry → Nat → List MapEntry
  | [], _ => []
  | e :: l, 0 => { e with key := k, val := v } :: l
  | e :: l, i + 1 => e :: modL k v l i
theorem modL_eq (k v : Value) : ∀ (l : List MapEntry) (i : Nat), modL k v l i = l.modify i fun e => { e with key := k, val := v } := by
  intro l
  induction l with
  | nil => intro i; simp [modL]
  | cons e l ih => intro i; cases i <;> simp [modL, ih]
def entriesOf (es : Array MapEntry) : List MapEntry := match es with | ⟨l⟩ => l
theorem entriesOf_eq (es : Array MapEntry) : entriesOf es = es.toList := rfl
def vMap {β : Type} (v : Value) : (Nat → β) → β → β := match v with | .map (some b) => fun f _ => f b | _ => fun _ d => d
theorem vMap_some {β : Type} {v : Value} {f : Nat → Option β} {r : β} (h : vMap v f none = some r) : ∃ b, v = .map (some b) ∧ f b = some r := by
  unfold vMap at h
  split at h
  · exact ⟨_, rfl, h⟩
  · cases h
noncomputable def muF (x k v : Value) (h : AHeap) : Option AHeap := vMap x (fun b => vInt k (fun kk n => match heapGet h b with
  | .map es c => (match findI kk n (entriesOf es) 0 with
    | some (some (i, _)) => some (heapPut h b (.map ⟨modL k v (entriesOf es) i⟩ c))
    | some none => some (heapPut h b (.map ⟨snocL ⟨k, v, c⟩ (entriesOf es)⟩ (c + 1)))
    | none => none)
  | _ => none) none) none
theorem muF_some {t key elem : TypeId} {kk : IntKind} {x k v : Value} {h h' : AHeap} (ht : P.underlying t = some (.map key elem)) (hk : P.underlying key = some (.int kk)) (e : muF x k v h = some h') :
    (mapUpdateS t x k v).runA P h = some ((), h') := by
  unfold muF at e
  obtain ⟨b, rfl, e1⟩ := vMap_some e
  obtain ⟨k', n, rfl, e2⟩ := vInt_some e1
  rw [heapGet_eq] at e2
  split at e2
  · rename_i es c hg
    rw [entriesOf_eq] at e2
    unfold mapUpdateS
    rw [runA_und ht]
    dsimp only
    rw [runA_bind_some (show (Go.getObj b).runA P h = some (.map es c, h) by simp only [Go.getObj, Sem.runA, hg])]
    dsimp only
    rw [runA_und hk]
    rw [runA_bind_some (show Go.program.runA P h = some (P, h) from rfl)]
    unfold findK
    simp only [nowKind, if_true]
    split at e2
    · rename_i i u hf
      rw [findI_some _ _ _ hf]
      dsimp only
      obtain rfl := Option.some.inj e2
      rw [heapPut_eq, modL_eq]
      simp only [Go.setObj, Sem.runA, hg]
      congr 4
      apply Array.ext'
      simp
    · rename_i hf
      rw [findI_some _ _ _ hf]
      dsimp only
      obtain rfl := Option.some.inj e2
      rw [heapPut_eq, snocL_eq]
      simp only [Go.setObj, Sem.runA, hg]
      congr 4
      apply Array.ext'
      simp
    · cases e2
  · cases e2

abbrev CallB := FuncId → Box (Array Value → AHeap → Option (Value × AHeap))
noncomputable def callOf (CB : CallB) : CallF := fun f args h => (CB f).un args h
noncomputable def argsB : List Operand → Box (Tree Value → List Value)
  | [] => ⟨fun _ => []⟩
  | x :: r => ⟨fun T => (rdB x).un T :: (argsB r).un T⟩
theorem argsB_eq (T : Tree Value) : ∀ l : List Operand, (argsB l).un T = l.map (rhoA T) := by
  intro l
  induction l with
  | nil => rfl
  | cons x l ih => simp only [argsB, List.map_cons, ih, rdB_eq]
noncomputable def optB : Option Operand → Box (Tree Value → Option Value)
  | none => ⟨fun _ => none⟩
  | some x => ⟨fun T => some ((rdB x).un T)⟩
theorem optB_eq (T : Tree Value) (o : Option Operand) : (optB o).un T = o.map (rhoA T) := by
  cases o with
  | none => rfl
  | some x => simp only [optB, Option.map_some, rdB_eq]

noncomputable def execB (P : Program) (enters : FuncId → FKind) (CB : CallB) (o : Oper) : Box StepF :=
  match o.op with
  | .move x => ⟨fun T h => some ((rdB x).un T, h)⟩
  | .assign x => ⟨fun T h => some ((rdB x).un T, h)⟩
  | .pick c a b => ⟨fun T h => vBool ((rdB c).un T) (fun t => match t with | true => some ((rdB a).un T, h) | false => some ((rdB b).un T, h)) none⟩
  | .nilCheck x => ⟨fun T h => vPtr ((rdB x).un T) (fun b o => some (.pointer (some ⟨b, o, none⟩), h)) none⟩
  | .binOp op t x y _ => ⟨fun T h => orElseV ((binT P op t).un ((rdB x).un T) ((rdB y).un T)) h (slowS P enters (callOf CB) o T h)⟩
  | .unOp .not _ x => ⟨fun T h => vBool ((rdB x).un T) (fun b => some (.bool (notB b), h)) none⟩
  | .convert src dst x => match P.underlying src, P.underlying dst with
    | some _, some (.int k) => ⟨fun T h => orElseV (vInt ((rdB x).un T) (fun _ n => some (.int k (wrapF k n))) none) h (slowS P enters (callOf CB) o T h)⟩
    | _, _ => ⟨slowS P enters (callOf CB) o⟩
  | .load t a => ⟨fun T h => orElseV ((ldB P t).un ((rdB a).un T) h) h none⟩
  | .store t a x => ⟨fun T h => match (stB P t).un ((rdB a).un T) ((rdB x).un T) h with | some h' => some (undef, h') | none => slowS P enters (callOf CB) o T h⟩
  | .fieldAddr s x f => match faOff P s f with
    | some off => ⟨fun T h => vPtr ((rdB x).un T) (fun b o => some (.pointer (some ⟨b, Nat.add o off, none⟩), h)) none⟩
    | none => ⟨slowS P enters (callOf CB) o⟩
  | .indexAddr t x i => ⟨fun T h => orElseV ((iaB P t).un ((rdB x).un T) ((rdB i).un T)) h none⟩
  | .index t x i => ⟨fun T h => orElseV ((ixB P t).un ((rdB x).un T) ((rdB i).un T)) h (slowS P enters (callOf CB) o T h)⟩
  | .field s x f => ⟨fun T h => orElseV ((fdB P s f).un ((rdB x).un T)) h none⟩
  | .extract x i => ⟨fun T h => vTuple ((rdB x).un T) (fun c => orElseV (nthV (listOf c) i) h none) none⟩
  | .slice t x lo hi none => ⟨fun T h => orElseV ((ssB P t).un ((rdB x).un T) ((optB lo).un T) ((optB hi).un T)) h (slowS P enters (callOf CB) o T h)⟩
  | .alloc t => match P.info? t with
    | some i => match i.zero with
      | some z => ⟨fun _ h => allocF (Row.ofList z.cells.toList) t h⟩
      | none => ⟨slowS P enters (callOf CB) o⟩
    | none => ⟨slowS P enters (callOf CB) o⟩
  | .mapUpdate t x i y => match P.underlying t with
    | some (.map key _) => match P.underlying key with
      | some (.int _) => ⟨fun T h => match muF ((rdB x).un T) ((rdB i).un T) ((rdB y).un T) h with | some h' => some (undef, h') | none => slowS P enters (callOf CB) o T h⟩
      | _ => ⟨slowS P enters (callOf CB) o⟩
    | _ => ⟨slowS P enters (callOf CB) o⟩
  | .box t x => ⟨fun T h => allocF (rowOfB (cellsL ((rdB x).un T))) t h⟩
  | .call c => match c.callee with
    | .value (.func g) => match enters g with
      | .enter => ⟨fun T h => (CB g).un ⟨(argsB c.args.toList).un T⟩ h⟩
      | _ => ⟨slowS P enters (callOf CB) o⟩
    | .builtin .len => match c.args.toList with
      | [x] => ⟨fun T h => orElseV ((lnB P c.argTypes).un ((rdB x).un T)) h (slowS P enters (callOf CB) o T h)⟩
      | _ => ⟨slowS P enters (callOf CB) o⟩
    | _ => ⟨slowS P enters (callOf CB) o⟩
  | _ => ⟨slowS P enters (callOf CB) o⟩

theorem runP_outP {s : Sem Value} {v : Value} {h : AHeap} (e : Sem.runP P s = some v) (hf : flatV v = true) : outP (Sem.runP P s) h = some (.val v, h) := by
  rw [e]; simp only [outP, hf, if_true]

theorem execB_some {enters : FuncId → FKind} {CB : CallB} {o : Oper} {T : Tree Value} {h : AHeap} {r : Value × AHeap} (e : (execB P enters CB o).un T h = some r) : coreA P enters (callOf CB) o T h = some r := by
  have slow : slowS P enters (callOf CB) o T h = some r → coreA P enters (callOf CB) o T h = some r := fun q => slowS_eq.symm.trans q
  have val : ∀ v : Value, opA P enters (rhoA T) o h = some (.val v, h) → coreA P enters (callOf CB) o T h = some (v, h) := by
    intro v q; unfold coreA; rw [q]
  unfold execB at e
  split at e
  · rename_i x ho
    obtain rfl := Option.some.inj e
    exact val _ (by unfold opA; rw [ho, rdB_eq])
  · rename_i x ho
    obtain rfl := Option.some.inj e
    exact val _ (by unfold opA; rw [ho, rdB_eq])
  · rename_i c a b ho
    dsimp only at e
    obtain ⟨t, h1, h2⟩ := vBool_some e
    rw [rdB_eq] at h1
    cases t with
    | true => obtain rfl := Option.some.inj h2; exact val _ (by unfold opA; rw [ho]; dsimp only; rw [h1, rdB_eq]; rfl)
    | false => obtain rfl := Option.some.inj h2; exact val _ (by unfold opA; rw [ho]; dsimp only; rw [h1, rdB_eq]; rfl)
  · rename_i x ho
    dsimp only at e
    obtain ⟨b, o', h1, h2⟩ := vPtr_some e
    rw [rdB_eq] at h1
    obtain rfl := Option.some.inj h2
    exact val _ (by unfold opA; rw [ho]; dsimp only; rw [h1])
  · rename_i op t x y yt ho
    rcases orElseV_some e with ⟨v, h1, rfl⟩ | ⟨_, h1⟩
    · rw [rdB_eq, rdB_eq] at h1
      rcases binT_way h1 with ⟨q2, q3, q4, q1⟩ | ⟨q1, q2⟩
      · exact val _ (by unfold opA; rw [ho]; dsimp only; rw [q2, q3]; simp only [Bool.and_self, if_true]; exact runP_outP (q1 x y) q4)
      · exact val _ (by unfold opA; rw [ho]; dsimp only; rw [q1, q2]; simp only [Bool.false_eq_true, if_false])
    · exact slow h1
  · rename_i t x ho
    dsimp only at e
    obtain ⟨b, h1, h2⟩ := vBool_some e
    rw [rdB_eq] at h1
    obtain rfl := Option.some.inj h2
    exact val _ (by unfold opA; rw [ho]; dsimp only; rw [h1, notB_eq]; rfl)
  · rename_i src dst x ho
    split at e
    · rename_i d k hd1 hd2
      rcases orElseV_some e with ⟨v, h1, rfl⟩ | ⟨_, h1⟩
      · obtain ⟨k', n, h2, h3⟩ := vInt_some h1
        rw [rdB_eq] at h2
        obtain rfl := Option.some.inj h3
        refine val _ ?_
        unfold opA
        rw [ho]
        dsimp only
        rw [h2, hd1, hd2]
        have hc : Sem.runP P (convert src dst (.int k' n)) = some (.int k (wrapF k n)) := by
          unfold convert Go.underlying
          simp only [Go.program]
          show Sem.runP P ((match P.underlying src with | some d => pure d | none => stuck _) >>= fun d1 => _) = _
          rw [hd1]
          show Sem.runP P ((match P.underlying dst with | some d => pure d | none => stuck _) >>= fun d1 => _) = _
          rw [hd2, wrapF_eq]
          cases d <;> rfl
        split
        · rename_i q1 q2; cases q2
        · rename_i q1 q2 q3; cases q3
        · exact (by rw [show flatV (.int k' n) = true from rfl]; exact runP_outP hc rfl)
      · exact slow h1
    · exact slow e
  · rename_i t a ho
    rcases orElseV_some e with ⟨v, h1, rfl⟩ | ⟨_, h1⟩
    · rw [rdB_eq] at h1
      exact val _ (by unfold opA; rw [ho]; dsimp only; rw [ldB_some h1]; rfl)
    · cases h1
  · rename_i t a x ho
    dsimp only at e
    split at e
    · rename_i h' h1
      obtain rfl := Option.some.inj e
      rw [rdB_eq, rdB_eq] at h1
      have : opA P enters (rhoA T) o h = some (.skip, h') := by unfold opA; rw [ho]; dsimp only; rw [stB_some h1]; rfl
      unfold coreA; rw [this]
    · exact slow e
  · rename_i s x f ho
    split at e
    · rename_i off hoff
      dsimp only at e
      obtain ⟨b, o', h1, h2⟩ := vPtr_some e
      rw [rdB_eq] at h1
      obtain rfl := Option.some.inj h2
      exact val _ (by unfold opA; rw [ho]; dsimp only; rw [h1, runP_runA (faOff_some hoff)]; rfl)
    · exact slow e
  · rename_i t x i ho
    rcases orElseV_some e with ⟨v, h1, rfl⟩ | ⟨_, h1⟩
    · rw [rdB_eq, rdB_eq] at h1
      exact val _ (by unfold opA; rw [ho]; dsimp only; rw [runP_runA (iaB_some h1)]; rfl)
    · cases h1
  · rename_i t x i ho
    rcases orElseV_some e with ⟨v, h1, rfl⟩ | ⟨_, h1⟩
    · rw [rdB_eq, rdB_eq] at h1
      exact val _ (by unfold opA; rw [ho]; dsimp only; rw [runP_runA (ixB_some h1)]; rfl)
    · exact slow h1
  · rename_i s x f ho
    rcases orElseV_some e with ⟨v, h1, rfl⟩ | ⟨_, h1⟩
    · rw [rdB_eq] at h1
      exact val _ (by unfold opA; rw [ho]; dsimp only; rw [runP_runA (fdB_some h1)]; rfl)
    · cases h1
  · rename_i x i ho
    dsimp only at e
    obtain ⟨c, h1, h2⟩ := vTuple_some e
    rw [rdB_eq] at h1
    rcases orElseV_some h2 with ⟨v, h3, rfl⟩ | ⟨_, h3⟩
    · rw [nthV_eq, listOf_eq, Array.getElem?_toList] at h3
      exact val _ (by unfold opA; rw [ho]; dsimp only; rw [h1]; unfold Instr.extract; dsimp only; rw [h3]; rfl)
    · cases h3
  · rename_i t x lo hi ho
    rcases orElseV_some e with ⟨v, h1, rfl⟩ | ⟨_, h1⟩
    · rw [rdB_eq, optB_eq, optB_eq] at h1
      obtain ⟨s, q1, q2, q3, q4, q5⟩ := ssB_some h1
      refine val _ ?_
      unfold opA
      rw [ho]
      dsimp only [Option.map_none]
      rw [q1, q2, q3]
      simp only [Bool.and_self, optFlat, if_true]
      exact runP_outP q4 q5
    · exact slow h1
  · rename_i t ho
    split at e
    · rename_i i hi
      split at e
      · rename_i z hz
        dsimp only at e
        rw [allocF_eq] at e
        unfold allocS at e
        split at e
        · rename_i hl
          obtain rfl := Option.some.inj e
          have : opA P enters (rhoA T) o h = some (.val (.pointer (some ⟨h.next, 0, none⟩)), h.push (.cells (Row.ofList z.cells.toList) t)) := by
            unfold opA; rw [ho]; dsimp only
            unfold Instr.alloc
            rw [runA_zero hi hz]
            dsimp only
            rw [runA_bind_some (by rw [runA_newVar, hl])]
            rfl
          unfold coreA; rw [this]
        · cases e
      · exact slow e
    · exact slow e
  · rename_i t x i y ho
    split at e
    · rename_i key elem ht
      split at e
      · rename_i kk hk
        dsimp only at e
        split at e
        · rename_i h' h1
          obtain rfl := Option.some.inj e
          rw [rdB_eq, rdB_eq, rdB_eq] at h1
          have : opA P enters (rhoA T) o h = some (.skip, h') := by unfold opA; rw [ho]; dsimp only; rw [muF_some ht hk h1]; rfl
          unfold coreA; rw [this]
        · exact slow e
      · exact slow e
    · exact slow e
  · rename_i t x ho
    dsimp only at e
    rw [allocF_eq] at e
    unfold allocS at e
    split at e
    · rename_i hl
      obtain rfl := Option.some.inj e
      have : opA P enters (rhoA T) o h = some (.val (.pointer (some ⟨h.next, 0, none⟩)), h.push (.cells (rowOfB (cellsL ((rdB x).un T))) t)) := by
        unfold opA; rw [ho]; dsimp only
        unfold Instr.box
        rw [runA_bind_some (by rw [runA_newVar, hl]), rowOfB_eq, cellsL_eq, rdB_eq]
        rfl
      unfold coreA; rw [this]
    · cases e
  · rename_i c ho
    split at e
    · rename_i g hg
      split at e
      · rename_i hen
        dsimp only at e
        have : opA P enters (rhoA T) o h = some (.call g ⟨(argsB c.args.toList).un T⟩, h) := by
          unfold opA; rw [ho]; dsimp only; rw [hg]
          simp only [rhoA, hen]
          congr 3
          apply Array.ext'
          simp [argsB_eq]
        unfold coreA; rw [this]; exact e
      · exact slow e
    · rename_i hb
      split at e
      · rename_i x hx
        rcases orElseV_some e with ⟨v, h1, rfl⟩ | ⟨_, h1⟩
        · rw [rdB_eq] at h1
          refine val _ ?_
          unfold opA; rw [ho]; dsimp only; rw [hb]
          have ha : c.args = #[x] := Array.ext' hx
          dsimp only
          rw [ha]
          have := runP_runA (lnB_some (ty := o.type) h1) h
          simp only [List.map_toArray, List.map_cons, List.map_nil]
          rw [this]; rfl
        · exact slow h1
      · exact slow e
    · exact slow e
  · exact slow e

noncomputable def stepB (P : Program) (enters : FuncId → FKind) (CB : CallB) (ops : Array Oper) (o : Oper) : Box StepF :=
  match o.guard with
  | none => execB P enters CB o
  | some (j, want) => match (ops[j]?).bind (·.dst) with
    | some d => ⟨fun T h => vBool ((getB undef (Path.of d)).un T) (fun b => match sameB b want with | true => (execB P enters CB o).un T h | false => some (undef, h)) (some (undef, h))⟩
    | none => ⟨fun _ h => some (undef, h)⟩
theorem vBool_ways {β : Type} {v : Value} {f : Bool → β} {d : β} : (∃ b, v = .bool b ∧ vBool v f d = f b) ∨ ((∀ b, v ≠ .bool b) ∧ vBool v f d = d) := by
  cases v <;> first | exact .inl ⟨_, rfl, rfl⟩ | exact .inr ⟨fun b e => (by cases e), rfl⟩
theorem stepB_some {enters : FuncId → FKind} {CB : CallB} {ops : Array Oper} {o : Oper} {T : Tree Value} {h : AHeap} {r : Value × AHeap} (e : (stepB P enters CB ops o).un T h = some r) : stepA P enters (callOf CB) ops o T h = some r := by
  unfold stepB at e
  split at e
  · rename_i hg
    rw [stepA_core (by unfold wantedA; rw [hg])]
    exact execB_some e
  · rename_i j want hg
    split at e
    · rename_i d hd
      dsimp only at e
      have hgt : (getB undef (Path.of d)).un T = Tget T d := getB_eq undef _ T
      rw [hgt] at e
      rcases vBool_ways (v := Tget T d) (f := fun b => match sameB b want with | true => (execB P enters CB o).un T h | false => some (undef, h)) (d := some (undef, h)) with ⟨b, hb, q⟩ | ⟨hb, q⟩
      · rw [q] at e
        have hw : wantedA ops o T = sameB b want := by unfold wantedA; rw [hg]; dsimp only; rw [hd]; dsimp only; rw [hb, sameB_eq]
        cases hs : sameB b want with
        | true => rw [hs] at e hw; rw [stepA_core hw]; exact execB_some e
        | false => rw [hs] at e hw; unfold stepA; rw [hw]; exact e
      · rw [q] at e
        have hw : wantedA ops o T = false := by
          unfold wantedA; rw [hg]; dsimp only; rw [hd]; dsimp only
          split
          · rename_i b hb2; exact absurd hb2 (hb b)
          · rfl
        unfold stepA; rw [hw]; exact e
    · rename_i hd
      have hw : wantedA ops o T = false := by unfold wantedA; rw [hg]; dsimp only; rw [hd]
      unfold stepA; rw [hw]; exact e
noncomputable def opsB (P : Program) (enters : FuncId → FKind) (CB : CallB) (ops : Array Oper) : List Oper → Box (Tree Value → AHeap → Option (Tree Value × AHeap))
  | [] => ⟨fun T h => some (T, h)⟩
  | o :: r => ⟨fun T h => match (stepB P enters CB ops o).un T h with | some (v, h') => (opsB P enters CB ops r).un ((putB o.dst).un T v) h' | none => none⟩
theorem opsB_some {enters : FuncId → FKind} {CB : CallB} {ops : Array Oper} : ∀ {l : List Oper} {T : Tree Value} {h : AHeap} {r : Tree Value × AHeap}, (opsB P enters CB ops l).un T h = some r → runOps P enters (callOf CB) ops l T h = some r := by
  intro l
  induction l with
  | nil => intro T h r e; exact e
  | cons o l ih =>
    intro T h r e
    simp only [opsB] at e
    split at e
    · rename_i v h' h1
      simp only [runOps]
      rw [stepB_some h1]
      dsimp only
      rw [putB_eq] at e
      exact ih e
    · cases e
end
end Go.Ab
