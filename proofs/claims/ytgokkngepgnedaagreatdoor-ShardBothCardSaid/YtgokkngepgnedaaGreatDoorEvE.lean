/- The evaluator over an abstract memory, proved sound: part 5. -/
import Derived.Test.YtgokkngepgnedaaGreatDoorEvD
namespace Go.Ab
open Go
section
variable {P : Program}

/-! ## Maps whose keys are whole numbers, quickly -/
noncomputable def findI (k : IntKind) (n : Int) (l : List MapEntry) : Nat → Option (Option (Nat × Value)) :=
  List.rec (motive := fun _ => Nat → Option (Option (Nat × Value))) (fun _ => some none) (fun e _ ih i => vInt e.key (fun k' n' => match Nat.beq (kb k) (kb k') with
    | true => (match intEq n n' with | true => some (some (i, e.val)) | false => ih (Nat.succ i))
    | false => none) none) l
theorem findI_some {kk : IntKind} {k : IntKind} {n : Int} : ∀ (l : List MapEntry) (i : Nat) (r : Option (Nat × Value)), findI k n l i = some r → Instr.findNow (.int kk) (.int k n) l i = some r := by
  intro l
  induction l with
  | nil => intro i r h; exact h
  | cons e l ih =>
    intro i r h
    obtain ⟨key, val, born⟩ := e
    have h0 : vInt key (fun k' n' => match Nat.beq (kb k) (kb k') with
      | true => (match intEq n n' with | true => some (some (i, val)) | false => findI k n l (Nat.succ i))
      | false => none) none = some r := h
    obtain ⟨k', n', rfl, h1⟩ := vInt_some h0
    split at h1
    · rename_i e
      rw [Nat.beq_eq] at e
      obtain rfl := kb_inj e
      simp only [Instr.findNow, Instr.sameNow, if_true]
      rw [← intEq_eq]
      split at h1
      · rename_i e2; rw [e2]; exact h1
      · rename_i e2; rw [e2]; exact ih _ _ h1
    · cases h1
noncomputable def snocL (x : MapEntry) (l : List MapEntry) : List MapEntry := List.rec (motive := fun _ => List MapEntry) [x] (fun e _ ih => e :: ih) l
theorem snocL_eq (x : MapEntry) (l : List MapEntry) : snocL x l = l ++ [x] := by
  induction l with
  | nil => rfl
  | cons e l ih => show e :: snocL x l = _; rw [ih]; rfl
def modL (k v : Value) : List MapEntry → Nat → List MapEntry
  | [], _ => []
  | e :: l, 0 => { e with key := k, val := v } :: l
  | e :: l, i + 1 => e :: modL k v l i
theorem modL_eq (k v : Value) : ∀ (l : List MapEntry) (i : Nat), modL k v l i = l.modify i fun e => { e with key := k, val := v } := by
  intro l
  induction l with
  | nil => intro i; simp [modL]
  | cons e l ih => intro i; cases i <;> simp [modL, ih]
def entriesOf (es : Array MapEntry) : List MapEntry := match es with | ⟨l⟩ => l
theorem entriesOf_eq (es : Array MapEntry) : entriesOf es = es.toList := rfl
def vMap {β : Type} (v : Value) : (Nat → β) → β → β := match v with | .map (some b) => fun f _ => f b | _ => fun _ d => d
theorem vMap_some {β : Type} {v : Value} {f : Nat → Option β} {r : β} (h : vMap v f none = some r) : ∃ b, v = .map (some b) ∧ f b = some r := by
  unfold vMap at h
  split at h
  · exact ⟨_, rfl, h⟩
  · cases h
noncomputable def muF (x k v : Value) (h : AHeap) : Option AHeap := vMap x (fun b => vInt k (fun kk n => match heapGet h b with
  | .map es c => (match findI kk n (entriesOf es) 0 with
    | some (some (i, _)) => some (heapPut h b (.map ⟨modL k v (entriesOf es) i⟩ c))
    | some none => some (heapPut h b (.map ⟨snocL ⟨k, v, c⟩ (entriesOf es)⟩ (c + 1)))
    | none => none)
  | _ => none) none) none
theorem muF_some {t key elem : TypeId} {kk : IntKind} {x k v : Value} {h h' : AHeap} (ht : P.underlying t = some (.map key elem)) (hk : P.underlying key = some (.int kk)) (e : muF x k v h = some h') :
    (mapUpdateS t x k v).runA P h = some ((), h') := by
  unfold muF at e
  obtain ⟨b, rfl, e1⟩ := vMap_some e
  obtain ⟨k', n, rfl, e2⟩ := vInt_some e1
  rw [heapGet_eq] at e2
  split at e2
  · rename_i es c hg
    rw [entriesOf_eq] at e2
    unfold mapUpdateS
    rw [runA_und ht]
    dsimp only
    rw [runA_bind_some (show (Go.getObj b).runA P h = some (.map es c, h) by simp only [Go.getObj, Sem.runA, hg])]
    dsimp only
    rw [runA_und hk]
    rw [runA_bind_some (show Go.program.runA P h = some (P, h) from rfl)]
    unfold findK
    simp only [nowKind, if_true]
    split at e2
    · rename_i i u hf
      rw [findI_some _ _ _ hf]
      dsimp only
      obtain rfl := Option.some.inj e2
      rw [heapPut_eq, modL_eq]
      simp only [Go.setObj, Sem.runA, hg]
      congr 4
      apply Array.ext'
      simp
    · rename_i hf
      rw [findI_some _ _ _ hf]
      dsimp only
      obtain rfl := Option.some.inj e2
      rw [heapPut_eq, snocL_eq]
      simp only [Go.setObj, Sem.runA, hg]
      congr 4
      apply Array.ext'
      simp
    · cases e2
  · cases e2

abbrev CallB := FuncId → Box (Array Value → AHeap → Option (Value × AHeap))
noncomputable def callOf (CB : CallB) : CallF := fun f args h => (CB f).un args h
noncomputable def argsB : List Operand → Box (Tree Value → List Value)
  | [] => ⟨fun _ => []⟩
  | x :: r => ⟨fun T => (rdB x).un T :: (argsB r).un T⟩
theorem argsB_eq (T : Tree Value) : ∀ l : List Operand, (argsB l).un T = l.map (rhoA T) := by
  intro l
  induction l with
  | nil => rfl
  | cons x l ih => simp only [argsB, List.map_cons, ih, rdB_eq]
noncomputable def optB : Option Operand → Box (Tree Value → Option Value)
  | none => ⟨fun _ => none⟩
  | some x => ⟨fun T => some ((rdB x).un T)⟩
theorem optB_eq (T : Tree Value) (o : Option Operand) : (optB o).un T = o.map (rhoA T) := by
  cases o with
  | none => rfl
  | some x => simp only [optB, Option.map_some, rdB_eq]

noncomputable def execB (P : Program) (enters : FuncId → FKind) (CB : CallB) (o : Oper) : Box StepF :=
  match o.op with
  | .move x => ⟨fun T h => some ((rdB x).un T, h)⟩
  | .assign x => ⟨fun T h => some ((rdB x).un T, h)⟩
  | .pick c a b => ⟨fun T h => vBool ((rdB c).un T) (fun t => match t with | true => some ((rdB a).un T, h) | false => some ((rdB b).un T, h)) none⟩
  | .nilCheck x => ⟨fun T h => vPtr ((rdB x).un T) (fun b o => some (.pointer (some ⟨b, o, none⟩), h)) none⟩
  | .binOp op t x y _ => ⟨fun T h => orElseV ((binT P op t).un ((rdB x).un T) ((rdB y).un T)) h (slowS P enters (callOf CB) o T h)⟩
  | .unOp .not _ x => ⟨fun T h => vBool ((rdB x).un T) (fun b => some (.bool (notB b), h)) none⟩
  | .convert src dst x => match P.underlying src, P.underlying dst with
    | some _, some (.int k) => ⟨fun T h => orElseV (vInt ((rdB x).un T) (fun _ n => some (.int k (wrapF k n))) none) h (slowS P enters (callOf CB) o T h)⟩
    | _, _ => ⟨slowS P enters (callOf CB) o⟩
  | .load t a => ⟨fun T h => orElseV ((ldB P t).un ((rdB a).un T) h) h none⟩
  | .store t a x => ⟨fun T h => match (stB P t).un ((rdB a).un T) ((rdB x).un T) h with | some h' => some (undef, h') | none => slowS P enters (callOf CB) o T h⟩
  | .fieldAddr s x f => match faOff P s f with
    | some off => ⟨fun T h => vPtr ((rdB x).un T) (fun b o => some (.pointer (some ⟨b, Nat.add o off, none⟩), h)) none⟩
    | none => ⟨slowS P enters (callOf CB) o⟩
  | .indexAddr t x i => ⟨fun T h => orElseV ((iaB P t).un ((rdB x).un T) ((rdB i).un T)) h none⟩
  | .index t x i => ⟨fun T h => orElseV ((ixB P t).un ((rdB x).un T) ((rdB i).un T)) h (slowS P enters (callOf CB) o T h)⟩
  | .field s x f => ⟨fun T h => orElseV ((fdB P s f).un ((rdB x).un T)) h none⟩
  | .extract x i => ⟨fun T h => vTuple ((rdB x).un T) (fun c => orElseV (nthV (listOf c) i) h none) none⟩
  | .slice t x lo hi none => ⟨fun T h => orElseV ((ssB P t).un ((rdB x).un T) ((optB lo).un T) ((optB hi).un T)) h (slowS P enters (callOf CB) o T h)⟩
  | .alloc t => match P.info? t with
    | some i => match i.zero with
      | some z => ⟨fun _ h => allocF (Row.ofList z.cells.toList) t h⟩
      | none => ⟨slowS P enters (callOf CB) o⟩
    | none => ⟨slowS P enters (callOf CB) o⟩
  | .mapUpdate t x i y => match P.underlying t with
    | some (.map key _) => match P.underlying key with
      | some (.int _) => ⟨fun T h => match muF ((rdB x).un T) ((rdB i).un T) ((rdB y).un T) h with | some h' => some (undef, h') | none => slowS P enters (callOf CB) o T h⟩
      | _ => ⟨slowS P enters (callOf CB) o⟩
    | _ => ⟨slowS P enters (callOf CB) o⟩
  | .box t x => ⟨fun T h => allocF (rowOfB (cellsL ((rdB x).un T))) t h⟩
  | .call c => match c.callee with
    | .value (.func g) => match enters g with
      | .enter => ⟨fun T h => (CB g).un ⟨(argsB c.args.toList).un T⟩ h⟩
      | _ => ⟨slowS P enters (callOf CB) o⟩
    | .builtin .len => match c.args.toList with
      | [x] => ⟨fun T h => orElseV ((lnB P c.argTypes).un ((rdB x).un T)) h (slowS P enters (callOf CB) o T h)⟩
      | _ => ⟨slowS P enters (callOf CB) o⟩
    | _ => ⟨slowS P enters (callOf CB) o⟩
  | _ => ⟨slowS P enters (callOf CB) o⟩

theorem runP_outP {s : Sem Value} {v : Value} {h : AHeap} (e : Sem.runP P s = some v) (hf : flatV v = true) : outP (Sem.runP P s) h = some (.val v, h) := by
  rw [e]; simp only [outP, hf, if_true]

theorem execB_some {enters : FuncId → FKind} {CB : CallB} {o : Oper} {T : Tree Value} {h : AHeap} {r : Value × AHeap} (e : (execB P enters CB o).un T h = some r) : coreA P enters (callOf CB) o T h = some r := by
  have slow : slowS P enters (callOf CB) o T h = some r → coreA P enters (callOf CB) o T h = some r := fun q => slowS_eq.symm.trans q
  have val : ∀ v : Value, opA P enters (rhoA T) o h = some (.val v, h) → coreA P enters (callOf CB) o T h = some (v, h) := by
    intro v q; unfold coreA; rw [q]
  unfold execB at e
  split at e
  · rename_i x ho
    obtain rfl := Option.some.inj e
    exact val _ (by unfold opA; rw [ho, rdB_eq])
  · rename_i x ho
    obtain rfl := Option.some.inj e
    exact val _ (by unfold opA; rw [ho, rdB_eq])
  · rename_i c a b ho
    dsimp only at e
    obtain ⟨t, h1, h2⟩ := vBool_some e
    rw [rdB_eq] at h1
    cases t with
    | true => obtain rfl := Option.some.inj h2; exact val _ (by unfold opA; rw [ho]; dsimp only; rw [h1, rdB_eq]; rfl)
    | false => obtain rfl := Option.some.inj h2; exact val _ (by unfold opA; rw [ho]; dsimp only; rw [h1, rdB_eq]; rfl)
  · rename_i x ho
    dsimp only at e
    obtain ⟨b, o', h1, h2⟩ := vPtr_some e
    rw [rdB_eq] at h1
    obtain rfl := Option.some.inj h2
    exact val _ (by unfold opA; rw [ho]; dsimp only; rw [h1])
  · rename_i op t x y yt ho
    rcases orElseV_some e with ⟨v, h1, rfl⟩ | ⟨_, h1⟩
    · rw [rdB_eq, rdB_eq] at h1
      rcases binT_way h1 with ⟨q2, q3, q4, q1⟩ | ⟨q1, q2⟩
      · exact val _ (by unfold opA; rw [ho]; dsimp only; rw [q2, q3]; simp only [Bool.and_self, if_true]; exact runP_outP (q1 x y) q4)
      · exact val _ (by unfold opA; rw [ho]; dsimp only; rw [q1, q2]; simp only [Bool.false_eq_true, if_false])
    · exact slow h1
  · rename_i t x ho
    dsimp only at e
    obtain ⟨b, h1, h2⟩ := vBool_some e
    rw [rdB_eq] at h1
    obtain rfl := Option.some.inj h2
    exact val _ (by unfold opA; rw [ho]; dsimp only; rw [h1, notB_eq]; rfl)
  · rename_i src dst x ho
    split at e
    · rename_i d k hd1 hd2
      rcases orElseV_some e with ⟨v, h1, rfl⟩ | ⟨_, h1⟩
      · obtain ⟨k', n, h2, h3⟩ := vInt_some h1
        rw [rdB_eq] at h2
        obtain rfl := Option.some.inj h3
        refine val _ ?_
        unfold opA
        rw [ho]
        dsimp only
        rw [h2, hd1, hd2]
        have hc : Sem.runP P (convert src dst (.int k' n)) = some (.int k (wrapF k n)) := by
          unfold convert Go.underlying
          simp only [Go.program]
          show Sem.runP P ((match P.underlying src with | some d => pure d | none => stuck _) >>= fun d1 => _) = _
          rw [hd1]
          show Sem.runP P ((match P.underlying dst with | some d => pure d | none => stuck _) >>= fun d1 => _) = _
          rw [hd2, wrapF_eq]
          cases d <;> rfl
        split
        · rename_i q1 q2; cases q2
        · rename_i q1 q2 q3; cases q3
        · exact (by rw [show flatV (.int k' n) = true from rfl]; exact runP_outP hc rfl)
      · exact slow h1
    · exact slow e
  · rename_i t a ho
    rcases orElseV_some e with ⟨v, h1, rfl⟩ | ⟨_, h1⟩
    · rw [rdB_eq] at h1
      exact val _ (by unfold opA; rw [ho]; dsimp only; rw [ldB_some h1]; rfl)
    · cases h1
  · rename_i t a x ho
    dsimp only at e
    split at e
    · rename_i h' h1
      obtain rfl := Option.some.inj e
      rw [rdB_eq, rdB_eq] at h1
      have : opA P enters (rhoA T) o h = some (.skip, h') := by unfold opA; rw [ho]; dsimp only; rw [stB_some h1]; rfl
      unfold coreA; rw [this]
    · exact slow e
  · rename_i s x f ho
    split at e
    · rename_i off hoff
      dsimp only at e
      obtain ⟨b, o', h1, h2⟩ := vPtr_some e
      rw [rdB_eq] at h1
      obtain rfl := Option.some.inj h2
      exact val _ (by unfold opA; rw [ho]; dsimp only; rw [h1, runP_runA (faOff_some hoff)]; rfl)
    · exact slow e
  · rename_i t x i ho
    rcases orElseV_some e with ⟨v, h1, rfl⟩ | ⟨_, h1⟩
    · rw [rdB_eq, rdB_eq] at h1
      exact val _ (by unfold opA; rw [ho]; dsimp only; rw [runP_runA (iaB_some h1)]; rfl)
    · cases h1
  · rename_i t x i ho
    rcases orElseV_some e with ⟨v, h1, rfl⟩ | ⟨_, h1⟩
    · rw [rdB_eq, rdB_eq] at h1
      exact val _ (by unfold opA; rw [ho]; dsimp only; rw [runP_runA (ixB_some h1)]; rfl)
    · exact slow h1
  · rename_i s x f ho
    rcases orElseV_some e with ⟨v, h1, rfl⟩ | ⟨_, h1⟩
    · rw [rdB_eq] at h1
      exact val _ (by unfold opA; rw [ho]; dsimp only; rw [runP_runA (fdB_some h1)]; rfl)
    · cases h1
  · rename_i x i ho
    dsimp only at e
    obtain ⟨c, h1, h2⟩ := vTuple_some e
    rw [rdB_eq] at h1
    rcases orElseV_some h2 with ⟨v, h3, rfl⟩ | ⟨_, h3⟩
    · rw [nthV_eq, listOf_eq, Array.getElem?_toList] at h3
      exact val _ (by unfold opA; rw [ho]; dsimp only; rw [h1]; unfold Instr.extract; dsimp only; rw [h3]; rfl)
    · cases h3
  · rename_i t x lo hi ho
    rcases orElseV_some e with ⟨v, h1, rfl⟩ | ⟨_, h1⟩
    · rw [rdB_eq, optB_eq, optB_eq] at h1
      obtain ⟨s, q1, q2, q3, q4, q5⟩ := ssB_some h1
      refine val _ ?_
      unfold opA
      rw [ho]
      dsimp only [Option.map_none]
      rw [q1, q2, q3]
      simp only [Bool.and_self, optFlat, if_true]
      exact runP_outP q4 q5
    · exact slow h1
  · rename_i t ho
    split at e
    · rename_i i hi
      split at e
      · rename_i z hz
        dsimp only at e
        rw [allocF_eq] at e
        unfold allocS at e
        split at e
        · rename_i hl
          obtain rfl := Option.some.inj e
          have : opA P enters (rhoA T) o h = some (.val (.pointer (some ⟨h.next, 0, none⟩)), h.push (.cells (Row.ofList z.cells.toList) t)) := by
            unfold opA; rw [ho]; dsimp only
            unfold Instr.alloc
            rw [runA_zero hi hz]
            dsimp only
            rw [runA_bind_some (by rw [runA_newVar, hl])]
            rfl
          unfold coreA; rw [this]
        · cases e
      · exact slow e
    · exact slow e
  · rename_i t x i y ho
    split at e
    · rename_i key elem ht
      split at e
      · rename_i kk hk
        dsimp only at e
        split at e
        · rename_i h' h1
          obtain rfl := Option.some.inj e
          rw [rdB_eq, rdB_eq, rdB_eq] at h1
          have : opA P enters (rhoA T) o h = some (.skip, h') := by unfold opA; rw [ho]; dsimp only; rw [muF_some ht hk h1]; rfl
          unfold coreA; rw [this]
        · exact slow e
      · exact slow e
    · exact slow e
  · rename_i t x ho
    dsimp only at e
    rw [allocF_eq] at e
    unfold allocS at e
    split at e
    · rename_i hl
      obtain rfl := Option.some.inj e
      have : opA P enters (rhoA T) o h = some (.val (.pointer (some ⟨h.next, 0, none⟩)), h.push (.cells (rowOfB (cellsL ((rdB x).un T))) t)) := by
        unfold opA; rw [ho]; dsimp only
        unfold Instr.box
        rw [runA_bind_some (by rw [runA_newVar, hl]), rowOfB_eq, cellsL_eq, rdB_eq]
        rfl
      unfold coreA; rw [this]
    · cases e
  · rename_i c ho
    split at e
    · rename_i g hg
      split at e
      · rename_i hen
        dsimp only at e
        have : opA P enters (rhoA T) o h = some (.call g ⟨(argsB c.args.toList).un T⟩, h) := by
          unfold opA; rw [ho]; dsimp only; rw [hg]
          simp only [rhoA, hen]
          congr 3
          apply Array.ext'
          simp [argsB_eq]
        unfold coreA; rw [this]; exact e
      · exact slow e
    · rename_i hb
      split at e
      · rename_i x hx
        rcases orElseV_some e with ⟨v, h1, rfl⟩ | ⟨_, h1⟩
        · rw [rdB_eq] at h1
          refine val _ ?_
          unfold opA; rw [ho]; dsimp only; rw [hb]
          have ha : c.args = #[x] := Array.ext' hx
          dsimp only
          rw [ha]
          have := runP_runA (lnB_some (ty := o.type) h1) h
          simp only [List.map_toArray, List.map_cons, List.map_nil]
          rw [this]; rfl
        · exact slow h1
      · exact slow e
    · exact slow e
  · exact slow e

noncomputable def stepB (P : Program) (enters : FuncId → FKind) (CB : CallB) (ops : Array Oper) (o : Oper) : Box StepF :=
  match o.guard with
  | none => execB P enters CB o
  | some (j, want) => match (ops[j]?).bind (·.dst) with
    | some d => ⟨fun T h => vBool ((getB undef (Path.of d)).un T) (fun b => match sameB b want with | true => (execB P enters CB o).un T h | false => some (undef, h)) (some (undef, h))⟩
    | none => ⟨fun _ h => some (undef, h)⟩
theorem vBool_ways {β : Type} {v : Value} {f : Bool → β} {d : β} : (∃ b, v = .bool b ∧ vBool v f d = f b) ∨ ((∀ b, v ≠ .bool b) ∧ vBool v f d = d) := by
  cases v <;> first | exact .inl ⟨_, rfl, rfl⟩ | exact .inr ⟨fun b e => (by cases e), rfl⟩
theorem stepB_some {enters : FuncId → FKind} {CB : CallB} {ops : Array Oper} {o : Oper} {T : Tree Value} {h : AHeap} {r : Value × AHeap} (e : (stepB P enters CB ops o).un T h = some r) : stepA P enters (callOf CB) ops o T h = some r := by
  unfold stepB at e
  split at e
  · rename_i hg
    rw [stepA_core (by unfold wantedA; rw [hg])]
    exact execB_some e
  · rename_i j want hg
    split at e
    · rename_i d hd
      dsimp only at e
      have hgt : (getB undef (Path.of d)).un T = Tget T d := getB_eq undef _ T
      rw [hgt] at e
      rcases vBool_ways (v := Tget T d) (f := fun b => match sameB b want with | true => (execB P enters CB o).un T h | false => some (undef, h)) (d := some (undef, h)) with ⟨b, hb, q⟩ | ⟨hb, q⟩
      · rw [q] at e
        have hw : wantedA ops o T = sameB b want := by unfold wantedA; rw [hg]; dsimp only; rw [hd]; dsimp only; rw [hb, sameB_eq]
        cases hs : sameB b want with
        | true => rw [hs] at e hw; rw [stepA_core hw]; exact execB_some e
        | false => rw [hs] at e hw; unfold stepA; rw [hw]; exact e
      · rw [q] at e
        have hw : wantedA ops o T = false := by
          unfold wantedA; rw [hg]; dsimp only; rw [hd]; dsimp only
          split
          · rename_i b hb2; exact absurd hb2 (hb b)
          · rfl
        unfold stepA; rw [hw]; exact e
    · rename_i hd
      have hw : wantedA ops o T = false := by unfold wantedA; rw [hg]; dsimp only; rw [hd]
      unfold stepA; rw [hw]; exact e
noncomputable def opsB (P : Program) (enters : FuncId → FKind) (CB : CallB) (ops : Array Oper) : List Oper → Box (Tree Value → AHeap → Option (Tree Value × AHeap))
  | [] => ⟨fun T h => some (T, h)⟩
  | o :: r => ⟨fun T h => match (stepB P enters CB ops o).un T h with | some (v, h') => (opsB P enters CB ops r).un ((putB o.dst).un T v) h' | none => none⟩
theorem opsB_some {enters : FuncId → FKind} {CB : CallB} {ops : Array Oper} : ∀ {l : List Oper} {T : Tree Value} {h : AHeap} {r : Tree Value × AHeap}, (opsB P enters CB ops l).un T h = some r → runOps P enters (callOf CB) ops l T h = some r := by
  intro l
  induction l with
  | nil => intro T h r e; exact e
  | cons o l ih =>
    intro T h r e
    simp only [opsB] at e
    split at e
    · rename_i v h' h1
      simp only [runOps]
      rw [stepB_some h1]
      dsimp only
      rw [putB_eq] at e
      exact ih e
    · cases e
end
end Go.Ab
namespace Go.Ab
open Go
section
variable {P : Program}

/-! ## Code -/
inductive RC where
  | none
  | normal (T : Tree Value) (h : AHeap)
  | exit (id : Nat) (T : Tree Value) (h : AHeap)
  | ret (T : Tree Value) (h : AHeap)
def RC.of : AExit → Tree Value → AHeap → RC
  | .normal, T, h => .normal T h
  | .exit id, T, h => .exit id T h
  | .ret, T, h => .ret T h
abbrev DrawB := Array Oper → Box (Tree Value → AHeap → Option (Tree Value × AHeap))
def rcOf (x : Option (Tree Value × AHeap)) : RC := match x with | some (T, h) => .normal T h | none => .none
noncomputable def loopB (f : Tree Value → AHeap → RC) (K : Nat) : Tree Value → AHeap → RC :=
  Nat.rec (motive := fun _ => Tree Value → AHeap → RC) (fun _ _ => .none) (fun _ ih T h => match f T h with | .normal T' h' => ih T' h' | .none => .none | .exit id T' h' => .exit id T' h' | .ret T' h' => .ret T' h') K
noncomputable def codeB (P : Program) (enters : FuncId → FKind) (CB : CallB) (DB : DrawB) (K : Nat) : Code → Box (Tree Value → AHeap → RC)
  | .skip => ⟨fun T h => .normal T h⟩
  | .label _ => ⟨fun T h => .normal T h⟩
  | .exit id => ⟨fun T h => .exit id T h⟩
  | .ret => ⟨fun T h => .ret T h⟩
  | .region _ ops false => ⟨fun T h => rcOf ((opsB P enters CB ops ops.toList).un T h)⟩
  | .region _ ops true => ⟨fun T h => rcOf ((DB ops).un T h)⟩
  | .seq a b => ⟨fun T h => match (codeB P enters CB DB K a).un T h with | .normal T' h' => (codeB P enters CB DB K b).un T' h' | .none => .none | .exit id T' h' => .exit id T' h' | .ret T' h' => .ret T' h'⟩
  | .cond c a b => ⟨fun T h => vBool ((rdB c).un T) (fun t => match t with | true => (codeB P enters CB DB K a).un T h | false => (codeB P enters CB DB K b).un T h) .none⟩
  | .block id c => ⟨fun T h => match (codeB P enters CB DB K c).un T h with | .exit id' T' h' => (match Nat.beq id' id with | true => .normal T' h' | false => .exit id' T' h') | .none => .none | .normal T' h' => .normal T' h' | .ret T' h' => .ret T' h'⟩
  | .loop c => ⟨fun T h => loopB (codeB P enters CB DB K c).un K T h⟩
  | .scope c => codeB P enters CB DB K c
  | _ => ⟨fun _ _ => .none⟩
theorem rcOf_some {x : Option (Tree Value × AHeap)} {e : AExit} {T : Tree Value} {h : AHeap} (q : rcOf x = RC.of e T h) : e = .normal ∧ x = some (T, h) := by
  cases x with
  | none => cases e <;> cases q
  | some r => obtain ⟨a, b⟩ := r; cases e <;> first | (cases q; exact ⟨rfl, rfl⟩) | cases q
theorem vBool_rc {v : Value} {f : Bool → RC} {e : AExit} {T : Tree Value} {h : AHeap} (q : vBool v f .none = RC.of e T h) : ∃ b, v = .bool b ∧ f b = RC.of e T h := by
  cases v <;> first | exact ⟨_, rfl, q⟩ | (cases e <;> cases q)

/-- All regions that draw their order have a plan. -/
def plansOk (P : Program) : Code → Bool
  | .region _ ops true => planOk P ops (masksGo ops.toList []) ops.size
  | .seq a b => plansOk P a && plansOk P b
  | .cond _ a b => plansOk P a && plansOk P b
  | .block _ c | .loop c | .scope c => plansOk P c
  | _ => true
def DrawGood (P : Program) (G : Nat) (draw : DrawF) : Prop :=
  ∀ ops T h T' h', planOk P ops (masksGo ops.toList []) ops.size = true → draw ops T h = some (T', h') → Nx h h' ∧
    ∀ (B : Base) m n id a w (Q : Exit → Act → World → Prop), ops.toList.all (opOk G n) = true → TRel m n T a.tmps → Rel P B m h w → GRel G m →
      (∀ m' a' w', Ext h m m' → TRel m' n T' a'.tmps → a'.defers = a.defers → Rel P B m' h' w' → Q .normal a' w') → (Code.region id ops true).wp P Q a w
def CodeGood (P : Program) (G n : Nat) (c : Code) (T : Tree Value) (h : AHeap) (e : AExit) (T' : Tree Value) (h' : AHeap) : Prop := Nx h h' ∧
  ∀ (B : Base) (m : Mu) (a : Act) (w : World) (Q : Exit → Act → World → Prop), codeOk G n c = true → TRel m n T a.tmps → Rel P B m h w → GRel G m →
    (∀ m' a' w', Ext h m m' → TRel m' n T' a'.tmps → a'.defers = a.defers → Rel P B m' h' w' → Q e.toExit a' w') → c.wp P Q a w
def RoundsGood (P : Program) (G n : Nat) (c : Code) (k : Nat) (T : Tree Value) (h : AHeap) (e : AExit) (T' : Tree Value) (h' : AHeap) : Prop := Nx h h' ∧
  ∀ (B : Base) (m : Mu) (a : Act) (w : World) (Q : Exit → Act → World → Prop), codeOk G n c = true → TRel m n T a.tmps → Rel P B m h w → GRel G m →
    (∀ m' a' w', Ext h m m' → TRel m' n T' a'.tmps → a'.defers = a.defers → Rel P B m' h' w' → Q e.toExit a' w') → Code.rounds P c Q k a w

theorem codeB_sound {G n : Nat} {enters : FuncId → FKind} {CB : CallB} {DB : DrawB} (hE : Enters P enters) (hz : ZF P) (hC : CallSound P G (callOf CB)) (hD : DrawGood P G (fun ops T h => (DB ops).un T h)) (K : Nat) :
    ∀ (c : Code), plansOk P c = true → ∀ (T : Tree Value) (h : AHeap) (e : AExit) (T' : Tree Value) (h' : AHeap), (codeB P enters CB DB K c).un T h = RC.of e T' h' → CodeGood P G n c T h e T' h' := by
  intro c
  induction c with
  | skip =>
    intro _ T h e T' h' q
    cases e <;> cases q
    exact ⟨Nx.refl _, fun B m a w Q _ hT hr hG hQ => wp_skip (hQ m a w (Ext.refl _ m) hT rfl hr)⟩
  | label _ =>
    intro _ T h e T' h' q
    cases e <;> cases q
    exact ⟨Nx.refl _, fun B m a w Q _ hT hr hG hQ => wp_label (hQ m a w (Ext.refl _ m) hT rfl hr)⟩
  | exit id =>
    intro _ T h e T' h' q
    cases e <;> cases q
    exact ⟨Nx.refl _, fun B m a w Q _ hT hr hG hQ => wp_exit (hQ m a w (Ext.refl _ m) hT rfl hr)⟩
  | ret =>
    intro _ T h e T' h' q
    cases e <;> cases q
    exact ⟨Nx.refl _, fun B m a w Q _ hT hr hG hQ => wp_ret (hQ m a w (Ext.refl _ m) hT rfl hr)⟩
  | region id ops d =>
    intro hpl T h e T' h' q
    cases d with
    | false =>
      obtain ⟨rfl, h1⟩ := rcOf_some q
      have h2 := opsB_some h1
      exact ⟨runOps_next hC _ _ _ _ _ h2, fun B m a w Q hok hT hr hG hQ => wp_region_list (runOps_sound hE hz hC (dst_of_ok hok) _ _ _ _ _ m a w hok h2 hT hr hG hQ)⟩
    | true =>
      obtain ⟨rfl, h1⟩ := rcOf_some q
      obtain ⟨q1, q2⟩ := hD _ _ _ _ _ hpl h1
      exact ⟨q1, fun B m a w Q hok hT hr hG hQ => q2 B m n id a w Q hok hT hr hG hQ⟩
  | seq x y ihx ihy =>
    intro hpl T h e T' h' q
    simp only [plansOk, Bool.and_eq_true] at hpl
    replace ihx := ihx hpl.1
    replace ihy := ihy hpl.2
    simp only [codeB] at q
    have other : ∀ (e : AExit) (T' : Tree Value) (h' : AHeap), e ≠ .normal → CodeGood P G n x T h e T' h' → CodeGood P G n (.seq x y) T h e T' h' := by
      intro e T' h' hne ⟨q1, q2⟩
      refine ⟨q1, fun B m a w Q hok hT hr hG hQ => wp_seq ?_⟩
      simp only [codeOk, Bool.and_eq_true] at hok
      refine q2 B m a w _ hok.1 hT hr hG ?_
      intro m' a' w' c1 c2 c3 c4
      have := hQ m' a' w' c1 c2 c3 c4
      cases e with
      | normal => exact absurd rfl hne
      | exit id => exact this
      | ret => exact this
    split at q
    · rename_i T2 h2 h1
      obtain ⟨q1, q2⟩ := ihx _ _ .normal _ _ h1
      obtain ⟨r1, r2⟩ := ihy _ _ _ _ _ q
      refine ⟨q1.trans r1, fun B m a w Q hok hT hr hG hQ => wp_seq ?_⟩
      simp only [codeOk, Bool.and_eq_true] at hok
      refine q2 B m a w _ hok.1 hT hr hG ?_
      intro m' a' w' c1 c2 c3 c4
      refine r2 B m' a' w' Q hok.2 c2 c4 (hG.mono c1.1) ?_
      intro m2 a2 w2 d1 d2 d3 d4
      exact hQ m2 a2 w2 (c1.trans d1 q1.1 q1.2.1) d2 (d3.trans c3) d4
    · cases e <;> cases q
    · rename_i id T2 h2 h1
      cases e <;> cases q
      exact other (.exit id) _ _ (fun h => by cases h) (ihx _ _ (.exit id) _ _ h1)
    · rename_i T2 h2 h1
      cases e <;> cases q
      exact other .ret _ _ (fun h => by cases h) (ihx _ _ .ret _ _ h1)
  | cond c0 x y ihx ihy =>
    intro hpl T h e T' h' q
    simp only [plansOk, Bool.and_eq_true] at hpl
    replace ihx := ihx hpl.1
    replace ihy := ihy hpl.2
    simp only [codeB] at q
    obtain ⟨b, hb0, h1⟩ := vBool_rc q
    rw [rdB_eq] at hb0
    cases b with
    | true =>
      obtain ⟨q1, q2⟩ := ihx _ _ _ _ _ h1
      refine ⟨q1, fun B m a w Q hok hT hr hG hQ => ?_⟩
      simp only [codeOk, Bool.and_eq_true] at hok
      have hb := rho_rel (a := a) hT hG hok.1.1
      rw [hb0] at hb
      refine wp_cond_true ?_ (q2 B m a w Q hok.1.2 hT hr hG hQ)
      generalize a.eval c0 = z at hb ⊢
      cases hb; rfl
    | false =>
      obtain ⟨q1, q2⟩ := ihy _ _ _ _ _ h1
      refine ⟨q1, fun B m a w Q hok hT hr hG hQ => ?_⟩
      simp only [codeOk, Bool.and_eq_true] at hok
      have hb := rho_rel (a := a) hT hG hok.1.1
      rw [hb0] at hb
      refine wp_cond_false ?_ (q2 B m a w Q hok.2 hT hr hG hQ)
      generalize a.eval c0 = z at hb ⊢
      cases hb; rfl
  | block id c0 ih =>
    intro hpl T h e T' h' q
    replace ih := ih hpl
    simp only [codeB] at q
    split at q
    · rename_i id' T2 h2 h1
      obtain ⟨q1, q2⟩ := ih _ _ (.exit id') _ _ h1
      split at q
      · rename_i hid
        rw [Nat.beq_eq] at hid
        cases e <;> cases q
        refine ⟨q1, fun B m a w Q hok hT hr hG hQ => wp_block (q2 B m a w _ hok hT hr hG ?_)⟩
        intro m' a' w' c1 c2 c3 c4
        simp only [AExit.toExit, Exit.inBlock, hid, if_true]
        exact hQ m' a' w' c1 c2 c3 c4
      · rename_i hid
        have hid' : id' ≠ id := by intro h; rw [h] at hid; simp at hid
        cases e <;> cases q
        refine ⟨q1, fun B m a w Q hok hT hr hG hQ => wp_block (q2 B m a w _ hok hT hr hG ?_)⟩
        intro m' a' w' c1 c2 c3 c4
        simp only [AExit.toExit, Exit.inBlock, hid', if_false]
        exact hQ m' a' w' c1 c2 c3 c4
    · cases e <;> cases q
    · rename_i T2 h2 h1
      cases e <;> cases q
      obtain ⟨q1, q2⟩ := ih _ _ .normal _ _ h1
      refine ⟨q1, fun B m a w Q hok hT hr hG hQ => wp_block (q2 B m a w _ hok hT hr hG ?_)⟩
      intro m' a' w' c1 c2 c3 c4
      exact hQ m' a' w' c1 c2 c3 c4
    · rename_i T2 h2 h1
      cases e <;> cases q
      obtain ⟨q1, q2⟩ := ih _ _ .ret _ _ h1
      refine ⟨q1, fun B m a w Q hok hT hr hG hQ => wp_block (q2 B m a w _ hok hT hr hG ?_)⟩
      intro m' a' w' c1 c2 c3 c4
      exact hQ m' a' w' c1 c2 c3 c4
  | loop c0 ih =>
    intro hpl T h e T' h' q
    replace ih := ih hpl
    have key : ∀ (k : Nat) (T : Tree Value) (h : AHeap) (e : AExit) (T' : Tree Value) (h' : AHeap), loopB (codeB P enters CB DB K c0).un k T h = RC.of e T' h' → RoundsGood P G n c0 k T h e T' h' := by
      intro k
      induction k with
      | zero => intro T h e T' h' q; cases e <;> cases q
      | succ k ihk =>
        intro T h e T' h' q
        have other : ∀ (e : AExit) (T' : Tree Value) (h' : AHeap), e ≠ .normal → CodeGood P G n c0 T h e T' h' → RoundsGood P G n c0 (k + 1) T h e T' h' := by
          intro e T' h' hne ⟨q1, q2⟩
          refine ⟨q1, fun B m a w Q hok hT hr hG hQ => ?_⟩
          rw [rounds_succ]
          refine q2 B m a w _ hok hT hr hG ?_
          intro m' a' w' c1 c2 c3 c4
          have := hQ m' a' w' c1 c2 c3 c4
          cases e with
          | normal => exact absurd rfl hne
          | exit id => exact this
          | ret => exact this
        have q' : (match (codeB P enters CB DB K c0).un T h with | .normal T' h' => loopB (codeB P enters CB DB K c0).un k T' h' | .none => .none | .exit id T' h' => .exit id T' h' | .ret T' h' => .ret T' h') = RC.of e T' h' := q
        split at q'
        · rename_i T2 h2 h1
          obtain ⟨q1, q2⟩ := ih _ _ .normal _ _ h1
          obtain ⟨r1, r2⟩ := ihk _ _ _ _ _ q'
          refine ⟨q1.trans r1, fun B m a w Q hok hT hr hG hQ => ?_⟩
          rw [rounds_succ]
          refine q2 B m a w _ hok hT hr hG ?_
          intro m' a' w' c1 c2 c3 c4
          refine r2 B m' a' w' Q hok c2 c4 (hG.mono c1.1) ?_
          intro m2 a2 w2 d1 d2 d3 d4
          exact hQ m2 a2 w2 (c1.trans d1 q1.1 q1.2.1) d2 (d3.trans c3) d4
        · cases e <;> cases q'
        · rename_i id T2 h2 h1
          cases e <;> cases q'
          exact other (.exit id) _ _ (fun h => by cases h) (ih _ _ (.exit id) _ _ h1)
        · rename_i T2 h2 h1
          cases e <;> cases q'
          exact other .ret _ _ (fun h => by cases h) (ih _ _ .ret _ _ h1)
    obtain ⟨q1, q2⟩ := key K T h e T' h' q
    exact ⟨q1, fun B m a w Q hok hT hr hG hQ => wp_loop_rounds K (q2 B m a w Q hok hT hr hG hQ)⟩
  | scope c0 ih =>
    intro hpl T h e T' h' q
    replace ih := ih hpl
    obtain ⟨q1, q2⟩ := ih _ _ _ _ _ q
    refine ⟨q1, fun B m a w Q hok hT hr hG hQ => wp_scope_straight (q2 B m a w _ hok hT hr hG ?_)⟩
    intro m' a' w' c1 c2 c3 c4
    have := hQ m' a' w' c1 c2 c3 c4
    cases e <;> exact this
  | _ =>
    intro _ T h e T' h' q
    cases e <;> cases q

/-! ## Calls -/
noncomputable def resB (P : Program) : List ResultVar → Box (AHeap → Tree Value → Option (List Value))
  | [] => ⟨fun _ _ => some []⟩
  | .tmp t :: rest => ⟨fun h T => match (resB P rest).un h T with | some l => some ((getB undef (Path.of t)).un T :: l) | none => none⟩
  | .cell a t :: rest => ⟨fun h T => match (ldB P t).un ((getB undef (Path.of a)).un T) h with
    | some v => (match (resB P rest).un h T with | some l => some (v :: l) | none => none)
    | none => none⟩
theorem ldB_loadA {t : TypeId} {v r : Value} {h : AHeap} (e : (ldB P t).un v h = some r) : loadA P h t v = some r := by
  unfold ldB at e
  split at e
  · rename_i d i hd hi
    split at e
    · rename_i hag
      dsimp only at e
      obtain ⟨b, o, rfl, e2⟩ := vPtr_some e
      rw [heapGet_eq] at e2
      split at e2
      · rename_i c hb
        rw [rowGet_eq] at e2
        unfold loadA
        dsimp only
        rw [hb, hd, hi]
        dsimp only
        rw [hag]
        exact e2
      · cases e2
    · rename_i hag
      dsimp only at e
      obtain ⟨b, o, rfl, e2⟩ := vPtr_some e
      rw [heapGet_eq] at e2
      split at e2
      · rename_i c hb
        obtain ⟨n, tr⟩ := c
        dsimp only at e2
        split at e2
        · rename_i hl
          obtain rfl := Option.some.inj e2
          unfold loadA
          dsimp only
          rw [hb, hd, hi]
          dsimp only
          rw [hag]
          have hl' : Nat.ble (o + i.size) n = true := hl
          simp only [if_true, hl']
          have := partB_eq ⟨n, tr⟩ i.size o
          dsimp only at this
          rw [this]
        · cases e2
      · cases e2
  · cases e
theorem resB_some {h : AHeap} {T : Tree Value} : ∀ {rs : List ResultVar} {l : List Value}, (resB P rs).un h T = some l → resA P h T rs = some l := by
  intro rs
  induction rs with
  | nil => intro l e; exact e
  | cons r rs ih =>
    intro l e
    cases r with
    | tmp t =>
      simp only [resB] at e
      split at e
      · rename_i l0 h0
        obtain rfl := Option.some.inj e
        simp only [resA, ih h0, getB_eq]; rfl
      · cases e
    | cell a t =>
      simp only [resB] at e
      split at e
      · rename_i v hv
        split at e
        · rename_i l0 h0
          obtain rfl := Option.some.inj e
          have hg : (getB undef (Path.of a)).un T = Tget T a := getB_eq undef _ T
          rw [hg] at hv
          simp only [resA, ih h0, ldB_loadA hv]
        · cases e
      · cases e
abbrev Known := FuncId → Option (Array Value → AHeap → Option (Value × AHeap))
def Known.call (sp : Known) : CallF := fun f args h => match sp f with | some g => g args h | none => none
theorem initT_treeOf : ∀ (l : List Value) (i : Nat) (T : Tree Value), initT l i T = treeOf l i T := by
  intro l
  induction l with
  | nil => intro i T; rfl
  | cons v l ih => intro i T; exact ih _ _
noncomputable def endB (P : Program) (rs : List ResultVar) (x : RC) : Option (Value × AHeap) := match x with
  | .normal T h => (match (resB P rs).un h T with | some vs => some (oneA vs, h) | none => none)
  | .ret T h => (match (resB P rs).un h T with | some vs => some (oneA vs, h) | none => none)
  | _ => none
noncomputable def bodyB (P : Program) (enters : FuncId → FKind) (CB : CallB) (DB : DrawB) (K : Nat) (fn : Option Func) : Box (Array Value → AHeap → Option (Value × AHeap)) :=
  match fn with
  | some fn => match fn.body with
    | some c => ⟨fun args h => match Nat.ble (lenV (listOf args)) fn.ntmps with
      | true => endB P fn.results.toList ((codeB P enters CB DB K c).un (treeOfB (listOf args) 0 .leaf) h)
      | false => none⟩
    | none => ⟨fun _ _ => none⟩
  | none => ⟨fun _ _ => none⟩
noncomputable def callB (P : Program) (enters : FuncId → FKind) (FT : FuncId → Option Func) (sp : Known) (draw : CallB → DrawB) (K : Nat) : Nat → CallB
  | 0, _ => ⟨fun _ _ => none⟩
  | d + 1, f => match sp f with
    | some g => ⟨g⟩
    | none => bodyB P enters (callB P enters FT sp draw K d) (draw (callB P enters FT sp draw K d)) K (FT f)
theorem callB_sound {G : Nat} {enters : FuncId → FKind} {FT : FuncId → Option Func} {sp : Known} {draw : CallB → DrawB} (hE : Enters P enters) (hz : ZF P) (hT : Table P G enters FT) (hS : CallSound P G sp.call)
    (hPl : ∀ f fn c, FT f = some fn → fn.body = some c → plansOk P c = true) (hD : ∀ CB, CallSound P G (callOf CB) → DrawGood P G (fun ops T h => (draw CB ops).un T h)) (K : Nat) : ∀ d, CallSound P G (callOf (callB P enters FT sp draw K d)) := by
  intro d
  induction d with
  | zero => intro f args h v h' e; cases e
  | succ d ih =>
    intro f args h v h' e
    have e0 : (match sp f with
      | some g => (⟨g⟩ : Box (Array Value → AHeap → Option (Value × AHeap)))
      | none => bodyB P enters (callB P enters FT sp draw K d) (draw (callB P enters FT sp draw K d)) K (FT f)).un args h = some (v, h') := e
    clear e
    split at e0
    · rename_i g hg
      exact hS f args h v h' (by unfold Known.call; rw [hg]; exact e0)
    · unfold bodyB at e0
      split at e0 <;> try (cases e0; done)
      rename_i fn hfn
      split at e0 <;> try (cases e0; done)
      rename_i c hb
      dsimp only at e0
      split at e0 <;> try (cases e0; done)
      rename_i hsz
      rw [Nat.ble_eq, lenV_eq, listOf_eq, Array.length_toList] at hsz
      have hinit : treeOfB (listOf args) 0 .leaf = initT args.toList 0 .leaf := by rw [treeOfB_eq, initT_treeOf, listOf_eq]
      rw [hinit] at e0
      have fin : ∀ (x : AExit) (T' : Tree Value) (h2 : AHeap), (x = .normal ∨ x = .ret) → (codeB P enters (callB P enters FT sp draw K d) (draw (callB P enters FT sp draw K d)) K c).un (initT args.toList 0 .leaf) h = RC.of x T' h2 →
          (match (resB P fn.results.toList).un h2 T' with | some vs => some (oneA vs, h2) | none => none) = some (v, h') → Nx h h' ∧
          ∀ (B : Base) m args' w, ARel m args args' → Rel P B m h w → GRel G m →
            Calls P f args' w (fun e w' => ∃ v' m', e = .returned v' ∧ Ext h m m' ∧ Rel P B m' h' w' ∧ VRel m' v v') := by
        intro x T' h2 hx hc he
        split at he <;> try (cases he; done)
        rename_i vs hvs
        simp only [Option.some.injEq, Prod.mk.injEq] at he
        obtain ⟨rfl, rfl⟩ := he
        obtain ⟨q1, q2⟩ := codeB_sound (n := fn.ntmps) hE hz ih (hD _ ih) K c (hPl f fn c hfn hb) _ _ _ _ _ hc
        refine ⟨q1, fun B m args' w ha hr hG => ?_⟩
        refine calls_of_wp (hT.has f fn hfn) hb (q2 B m { tmps := args' ++ Array.replicate (fn.ntmps - args'.size) undef, defers := [] } w _ (hT.code f fn c hfn hb) (initT_rel ha hsz) hr hG ?_)
        intro m' a' w' c1 c2 c3 c4
        obtain ⟨v', r1, r2⟩ := results_sound c4 c2 (resB_some hvs)
        have : bodyPost P fn (fun e w' => ∃ v' m', e = .returned v' ∧ Ext h m m' ∧ Rel P B m' h2 w' ∧ VRel m' (oneA vs) v') .ret a' w' := ⟨c3, v', r1, v', m', rfl, c1, c4, r2⟩
        rcases hx with rfl | rfl <;> exact this
      unfold endB at e0
      split at e0
      · rename_i T' h2 hc; exact fin .normal _ _ (.inl rfl) hc e0
      · rename_i T' h2 hc; exact fin .ret _ _ (.inr rfl) hc e0
      · cases e0
end
end Go.Ab
namespace Go.Ab
open Go
section
variable {P : Program}

/-! ## A region that draws its order, quickly -/
theorem runR_bind {α β : Type} (s : Sem α) (f : α → Sem β) (h : AHeap) : (s >>= f).runR P h = match s.runR P h with | some a => (f a).runR P h | none => none := by
  show (s.bind f).runR P h = _
  induction s generalizing h with
  | pure a => rfl
  | load md a k ih =>
    simp only [Sem.bind, Sem.runR]
    cases h.cell? a with
    | none => rfl
    | some v => exact ih v h
  | getObj r k ih =>
    simp only [Sem.bind, Sem.runR]
    cases h.get r with
    | map es c => exact ih _ h
    | iter s p => exact ih _ h
    | _ => rfl
  | program k ih => exact ih P h
  | mark md k ih => exact ih h
  | _ => rfl
theorem runP_runR {α : Type} {s : Sem α} : ∀ {a : α}, s.runP P = some a → ∀ h, s.runR P h = some a := by
  induction s with
  | pure a => intro b e h; simp only [Sem.runP, Option.some.injEq] at e; subst e; rfl
  | program k ih => intro b e h; exact ih P e h
  | mark md k ih => intro b e h; exact ih e h
  | _ => intro b e h; simp [Sem.runP] at e
theorem runR_bind_some {α β : Type} {s : Sem α} {f : α → Sem β} {a : α} {h : AHeap} (e : s.runR P h = some a) : (s >>= f).runR P h = (f a).runR P h := by rw [runR_bind, e]
theorem runP_self {α : Type} {s : Sem α} {a : α} (e : (s >>= fun x => (Pure.pure x : Sem α)).runP P = some a) : s.runP P = some a := by
  rw [runP_bind] at e
  cases h : s.runP P with
  | none => rw [h] at e; cases e
  | some b => rw [h] at e; exact e
theorem pureAgg {t : TypeId} {d : TypeDesc} (h : P.underlying t = some d) : (Go.isAgg t).runP P = some (isAggD d) := by
  have := runP_isAgg h (fun x => (Pure.pure x : Sem Bool))
  exact runP_self (this.trans rfl)
theorem pureSize {t : TypeId} {i : TypeInfo} (h : P.info? t = some i) : (Go.sizeOf t).runP P = some i.size := by
  have := runP_size h (fun x => (Pure.pure x : Sem Nat))
  exact runP_self (this.trans rfl)
theorem runR_load (a : Addr) (hp : AHeap) : (Go.load a).runR P hp = hp.cell? a := by
  unfold Go.load
  simp only [Sem.runR]
  cases hp.cell? a <;> rfl
theorem runR_loadCellsFrom {h : AHeap} {b o : Nat} {c : Row} (hb : rowIn (h.get b) = some c) : ∀ (n i : Nat) (acc : Array Value), o + i + n ≤ c.len →
    (Go.loadCellsFrom ⟨b, o, none⟩ i n acc).runR P h = some (acc ++ (c.part (o + i) n).toArray) := by
  intro n
  induction n with
  | zero => intro i acc _; simp [Go.loadCellsFrom, Row.part]; rfl
  | succ n ih =>
    intro i acc hl
    have hc : h.cell? ⟨b, o + i, none⟩ = some (c.t.get undef (o + i)) := by
      rw [AHeap.cell?_row hb, Row.get?_eq, if_pos (by omega)]
    unfold Go.loadCellsFrom
    rw [add_none, runR_bind_some (by rw [runR_load, hc]), ih (i + 1) _ (by omega)]
    simp only [Row.part]
    congr 1
    apply Array.ext'
    simp [Nat.add_assoc]
theorem ldB_runR {t : TypeId} {v r : Value} {h : AHeap} (e : (ldB P t).un v h = some r) : (Instr.loadAt t v).runR P h = some r := by
  unfold ldB at e
  split at e
  · rename_i d i hd hi
    split at e
    · rename_i hag
      dsimp only at e
      obtain ⟨b, o, rfl, e2⟩ := vPtr_some e
      rw [heapGet_eq] at e2
      split at e2
      · rename_i c hb
        rw [rowGet_eq] at e2
        unfold Instr.loadAt Instr.sureAddr Go.loadVar
        rw [pure_bind, runR_bind_some (runP_runR (pureAgg hd) h), hag]
        simp only [Bool.false_eq_true, if_false]
        rw [runR_load, AHeap.cell?_row hb, e2]
      · cases e2
    · rename_i hag
      dsimp only at e
      obtain ⟨b, o, rfl, e2⟩ := vPtr_some e
      rw [heapGet_eq] at e2
      split at e2
      · rename_i c hb
        obtain ⟨n, tr⟩ := c
        dsimp only at e2
        split at e2
        · rename_i hl
          rw [Nat.ble_eq] at hl
          obtain rfl := Option.some.inj e2
          unfold Instr.loadAt Instr.sureAddr Go.loadVar
          rw [pure_bind, runR_bind_some (runP_runR (pureAgg hd) h), hag]
          simp only [if_true]
          have hcells : (Go.loadCells ⟨b, o, none⟩ i.size).runR P h = some (((⟨n, tr⟩ : Row).part o i.size).toArray) := by
            unfold Go.loadCells
            rw [runR_loadCellsFrom hb i.size 0 _ hl]
            simp
          rw [runR_bind_some (runP_runR (pureSize hi) h), runR_bind_some hcells]
          have := partB_eq ⟨n, tr⟩ i.size o
          dsimp only at this
          rw [this]; rfl
        · cases e2
      · cases e2
  · cases e

/-! ### Operations that look at no memory -/
def lenPure (P : Program) (ts : Array TypeId) : Bool := match ts[0]? with
  | some t => match P.underlying t with
    | some .string | some (.slice _) | some (.array _ _) => true
    | _ => false
  | none => false
def isPureOp (P : Program) (o : Oper) : Bool := match o.op with
  | .move _ | .assign _ | .pick .. | .nilCheck _ | .binOp .. | .unOp .. | .makeInterface .. | .makeFunc .. | .slice .. | .fieldAddr .. | .field .. | .indexAddr .. | .index .. | .extract .. => true
  | .convert _ dst _ => match P.underlying dst with | some (.int _) => true | _ => false
  | .call c => match c.callee with
    | .builtin .len => lenPure P c.argTypes
    | .builtin .min | .builtin .max => true
    | _ => false
  | _ => false
def opPure (P : Program) (ρ : Operand → Value) (o : Oper) : Option Value :=
  match o.op with
  | .move x | .assign x => some (ρ x)
  | .pick c a b => match ρ c with | .bool t => some (if t then ρ a else ρ b) | _ => none
  | .nilCheck x => match ρ x with | .pointer (some a) => some (.pointer (some a)) | _ => none
  | .binOp op t x y _ =>
    if flatV (ρ x) && flatV (ρ y) then outPv (Sem.runP P (do eqGuard op t x y (ρ x) (ρ y); binOp op t (ρ x) (ρ y)))
    else nilEqA P op t (ρ x) (ρ y)
  | .unOp op _ x => if flatV (ρ x) then outPv (Sem.runP P (Op.unary op (ρ x))) else none
  | .makeInterface t x => (Instr.makeInterface t (ρ x)).runP P
  | .makeFunc fn a c => (Instr.makeFunc fn (a.map ρ) (c.map ρ)).runP P
  | .slice t x lo hi mx =>
    if optFlat (lo.map ρ) && optFlat (hi.map ρ) && optFlat (mx.map ρ) then
    match ρ x with
    | .string s => outPv (Sem.runP P (Instr.sliceAt t (.string s) (lo.map ρ) (hi.map ρ) (mx.map ρ)))
    | v => sliceA P t v (lo.map ρ) (hi.map ρ) (mx.map ρ)
    else none
  | .fieldAddr s x f => (Instr.fieldAt s (ρ x) f).runP P
  | .field s x f => (Instr.field s (ρ x) f).runP P
  | .indexAddr t x i => (Instr.indexAt t (ρ x) (ρ i)).runP P
  | .index t x i => (Instr.index t (ρ x) (ρ i)).runP P
  | .extract x i => (Instr.extract (ρ x) i).runP P
  | .call c =>
    match c.callee with
    | .builtin .len => (Builtin.len_ c.argTypes o.type (c.args.map ρ)).runP P
    | .builtin .min => if (c.args.map ρ).toList.all flatV then outPv (Sem.runP P (Builtin.min_ c.argTypes o.type (c.args.map ρ))) else none
    | .builtin .max => if (c.args.map ρ).toList.all flatV then outPv (Sem.runP P (Builtin.max_ c.argTypes o.type (c.args.map ρ))) else none
    | _ => none
  | _ => none
theorem opPure_opR {ρ : Operand → Value} {o : Oper} {v : Value} (e : opPure P ρ o = some v) (h : AHeap) : opR P ρ o h = some v := by
  unfold opPure at e
  unfold opR
  split at e <;> (first | (rename_i q; rw [q]) | skip)
  all_goals first
    | exact e
    | exact runP_runR e h
    | (cases e; done)
    | skip
  rename_i c q
  dsimp only
  split at e <;> (first | (rename_i q2; rw [q2]) | skip)
  all_goals first
    | exact e
    | exact runP_runR e h
    | (cases e; done)
noncomputable def pureB (P : Program) (o : Oper) : Box (Tree Value → Option Value) :=
  match o.op with
  | .move x => ⟨fun T => some ((rdB x).un T)⟩
  | .assign x => ⟨fun T => some ((rdB x).un T)⟩
  | .nilCheck x => ⟨fun T => vPtr ((rdB x).un T) (fun b o => some (.pointer (some ⟨b, o, none⟩))) none⟩
  | .binOp op t x y _ => ⟨fun T => match (binT P op t).un ((rdB x).un T) ((rdB y).un T) with | some v => some v | none => opPure P (rhoB T) o⟩
  | .convert src dst x => match P.underlying src, P.underlying dst with
    | some _, some (.int k) => ⟨fun T => vInt ((rdB x).un T) (fun _ n => some (.int k (wrapF k n))) none⟩
    | _, _ => ⟨fun T => opPure P (rhoB T) o⟩
  | .fieldAddr s x f => match faOff P s f with
    | some off => ⟨fun T => vPtr ((rdB x).un T) (fun b o => some (.pointer (some ⟨b, Nat.add o off, none⟩))) none⟩
    | none => ⟨fun T => opPure P (rhoB T) o⟩
  | .indexAddr t x i => ⟨fun T => (iaB P t).un ((rdB x).un T) ((rdB i).un T)⟩
  | .field s x f => ⟨fun T => (fdB P s f).un ((rdB x).un T)⟩
  | .call c => match c.callee with
    | .builtin .len => match c.args.toList with
      | [x] => ⟨fun T => (lnB P c.argTypes).un ((rdB x).un T)⟩
      | _ => ⟨fun T => opPure P (rhoB T) o⟩
    | _ => ⟨fun T => opPure P (rhoB T) o⟩
  | _ => ⟨fun T => opPure P (rhoB T) o⟩
theorem outPv_some {s : Option Value} {v : Value} (e : s = some v) (hf : flatV v = true) : outPv s = some v := by
  rw [e]; simp only [outPv, hf, if_true]
theorem pureB_some {o : Oper} {T : Tree Value} {v : Value} (e : (pureB P o).un T = some v) (h : AHeap) : opR P (rhoA T) o h = some v := by
  have slow : opPure P (rhoB T) o = some v → opR P (rhoA T) o h = some v := by
    intro q; rw [rhoB_eq] at q; exact opPure_opR q h
  unfold pureB at e
  split at e
  · rename_i x ho
    obtain rfl := Option.some.inj e
    unfold opR; rw [ho, rdB_eq]
  · rename_i x ho
    obtain rfl := Option.some.inj e
    unfold opR; rw [ho, rdB_eq]
  · rename_i x ho
    dsimp only at e
    obtain ⟨b, o', h1, h2⟩ := vPtr_some e
    rw [rdB_eq] at h1
    obtain rfl := Option.some.inj h2
    unfold opR; rw [ho]; dsimp only; rw [h1]
  · rename_i op t x y yt ho
    dsimp only at e
    split at e
    · rename_i u h1
      obtain rfl := Option.some.inj e
      rw [rdB_eq, rdB_eq] at h1
      rcases binT_way h1 with ⟨q2, q3, q4, q1⟩ | ⟨q1, q2⟩
      · unfold opR; rw [ho]; dsimp only; rw [q2, q3]; simp only [Bool.and_self, if_true]
        exact outPv_some (q1 x y) q4
      · unfold opR; rw [ho]; dsimp only; rw [q1, q2]; simp only [Bool.false_eq_true, if_false]
    · exact slow e
  · rename_i src dst x ho
    split at e
    · rename_i d k hd1 hd2
      dsimp only at e
      obtain ⟨k', n, h2, h3⟩ := vInt_some e
      rw [rdB_eq] at h2
      obtain rfl := Option.some.inj h3
      unfold opR
      rw [ho]
      dsimp only
      rw [h2, hd1, hd2]
      have hc : Sem.runP P (convert src dst (.int k' n)) = some (.int k (wrapF k n)) := by
        unfold convert
        rw [runP_und hd1, runP_und hd2, wrapF_eq]
        cases d <;> rfl
      split
      · rename_i q1 q2; cases q2
      · rename_i q1 q2 q3; cases q3
      · exact (by rw [show flatV (.int k' n) = true from rfl]; exact outPv_some hc rfl)
    · exact slow e
  · rename_i s x f ho
    split at e
    · rename_i off hoff
      dsimp only at e
      obtain ⟨b, o', h1, h2⟩ := vPtr_some e
      rw [rdB_eq] at h1
      obtain rfl := Option.some.inj h2
      unfold opR; rw [ho]; dsimp only; rw [h1]
      exact runP_runR (faOff_some hoff) h
    · exact slow e
  · rename_i t x i ho
    dsimp only at e
    rw [rdB_eq, rdB_eq] at e
    unfold opR; rw [ho]
    exact runP_runR (iaB_some e) h
  · rename_i s x f ho
    dsimp only at e
    rw [rdB_eq] at e
    unfold opR; rw [ho]
    exact runP_runR (fdB_some e) h
  · rename_i c ho
    split at e
    · rename_i hb
      split at e
      · rename_i x hx
        dsimp only at e
        rw [rdB_eq] at e
        unfold opR; rw [ho]; dsimp only; rw [hb]
        have ha : c.args = #[x] := Array.ext' hx
        dsimp only
        rw [ha]
        have := runP_runR (lnB_some (ty := o.type) e) h
        simp only [List.map_toArray, List.map_cons, List.map_nil]
        exact this
      · exact slow e
    · exact slow e
  · exact slow e
noncomputable def readB (P : Program) (o : Oper) : Box (Tree Value → AHeap → Option Value) :=
  match o.op with
  | .load t a => ⟨fun T h => (ldB P t).un ((rdB a).un T) h⟩
  | _ => ⟨fun T h => opR P (rhoB T) o h⟩
theorem readB_some {o : Oper} {T : Tree Value} {h : AHeap} {v : Value} (e : (readB P o).un T h = some v) : opR P (rhoA T) o h = some v := by
  unfold readB at e
  split at e
  · rename_i t a ho
    dsimp only at e
    rw [rdB_eq] at e
    unfold opR; rw [ho]
    exact ldB_runR e
  · rw [← rhoB_eq]; exact e
noncomputable def wantB (ops : Array Oper) (o : Oper) : Box (Tree Value → Bool) :=
  match o.guard with
  | none => ⟨fun _ => true⟩
  | some (j, want) => match (ops[j]?).bind (·.dst) with
    | some d => ⟨fun T => vBool ((getB undef (Path.of d)).un T) (fun b => sameB b want) false⟩
    | none => ⟨fun _ => false⟩
theorem wantB_eq (ops : Array Oper) (o : Oper) (T : Tree Value) : (wantB ops o).un T = wantedA ops o T := by
  unfold wantB wantedA
  cases hg : o.guard with
  | none => rfl
  | some g =>
    obtain ⟨j, want⟩ := g
    dsimp only
    cases hd : (ops[j]?).bind (·.dst) with
    | none => rfl
    | some d =>
      dsimp only
      have hgt : (getB undef (Path.of d)).un T = Tget T d := getB_eq undef _ T
      rw [hgt]
      cases Tget T d <;> first | exact sameB_eq _ _ | rfl

/-! ### The run -/
def fillB (sel : Nat → Bool) (base : Nat) (objs : List (Nat × AObj)) (G : AHeap) : AHeap := match objs with
  | [] => G
  | x :: r => fillA sel base (x :: r) G
theorem fillB_eq (sel : Nat → Bool) (base : Nat) (objs : List (Nat × AObj)) (G : AHeap) : fillB sel base objs G = fillA sel base objs G := by cases objs <;> rfl
def liveB (base : Nat) (objs : List (Nat × AObj)) (F G' : AHeap) : Bool := match objs with
  | [] => true
  | x :: r => (x :: r).all (fun x => isDead (F.get (base + x.1)) || !isDead (G'.get (base + x.1)))
theorem liveB_eq (base : Nat) (objs : List (Nat × AObj)) (F G' : AHeap) : liveB base objs F G' = objs.all (fun x => isDead (F.get (base + x.1)) || !isDead (G'.get (base + x.1))) := by cases objs <;> rfl
structure GoR where
  T : Tree Value
  Gs : List AHeap
  os : List (Nat × AObj)
  ck : List (Nat × Tree Value × Value)
abbrev GoF := Nat → Tree Value → AHeap → List (Nat × AObj) → Option GoR
def consG (G : AHeap) (r : Option GoR) : Option GoR := match r with | some ⟨T, Gs, os, ck⟩ => some ⟨T, G :: Gs, os, ck⟩ | none => none
def consC (x : Nat × Tree Value × Value) (r : Option GoR) : Option GoR := match r with | some ⟨T, Gs, os, ck⟩ => some ⟨T, Gs, os, x :: ck⟩ | none => none
theorem consG_some {G : AHeap} {r : Option GoR} {x : GoR} (h : consG G r = some x) : ∃ y, r = some y ∧ x = ⟨y.T, G :: y.Gs, y.os, y.ck⟩ := by
  cases r with
  | none => cases h
  | some y => exact ⟨y, rfl, (Option.some.inj h).symm⟩
theorem consC_some {c : Nat × Tree Value × Value} {r : Option GoR} {x : GoR} (h : consC c r = some x) : ∃ y, r = some y ∧ x = ⟨y.T, y.Gs, y.os, c :: y.ck⟩ := by
  cases r with
  | none => cases h
  | some y => exact ⟨y, rfl, (Option.some.inj h).symm⟩
noncomputable def goB (P : Program) (enters : FuncId → FKind) (CB : CallB) (ops : Array Oper) (ms : List Nat) : List Oper → Nat → Box GoF
  | [], _ => ⟨fun _ T _ objs => some ⟨T, [], objs, []⟩⟩
  | o :: rest, j => match clsOf P o with
    | .plain => match isPureOp P o with
      | true => ⟨fun base T G objs => match (wantB ops o).un T with
        | false => consG G ((goB P enters CB ops ms rest (j + 1)).un base ((putB o.dst).un T undef) G objs)
        | true => match (pureB P o).un T with
          | some v => consG G ((goB P enters CB ops ms rest (j + 1)).un base ((putB o.dst).un T v) G objs)
          | none => none⟩
      | false => match (todoAt P ops ms j).isEmpty with
        | true => ⟨fun base T G objs => match (wantB ops o).un T with
          | false => consG G ((goB P enters CB ops ms rest (j + 1)).un base ((putB o.dst).un T undef) G objs)
          | true => match (readB P o).un T (fillB (prd ms j) base objs G) with
            | some v => consG G ((goB P enters CB ops ms rest (j + 1)).un base ((putB o.dst).un T v) G objs)
            | none => none⟩
        | false => ⟨fun base T G objs => match (wantB ops o).un T with
          | false => consG G ((goB P enters CB ops ms rest (j + 1)).un base ((putB o.dst).un T undef) G objs)
          | true => match (readB P o).un T (fillB (prd ms j) base objs G) with
            | some v => consC (j, T, v) (consG G ((goB P enters CB ops ms rest (j + 1)).un base ((putB o.dst).un T v) G objs))
            | none => none⟩
    | .alloc => ⟨fun base T G objs => match (wantB ops o).un T with
      | false => consG G ((goB P enters CB ops ms rest (j + 1)).un base ((putB o.dst).un T undef) G objs)
      | true => match opN P (rhoB T) o (base + j) with
        | some (v, ob) => consG G ((goB P enters CB ops ms rest (j + 1)).un base ((putB o.dst).un T v) G ((j, ob) :: objs))
        | none => none⟩
    | .loud => ⟨fun base T G objs => match (wantB ops o).un T with
      | false => consG G ((goB P enters CB ops ms rest (j + 1)).un base ((putB o.dst).un T undef) G objs)
      | true => match (execB P enters CB o).un T (fillB (prd ms j) base objs G) with
        | some (v, G') => match liveB base objs (fillB (prd ms j) base objs G) G' with
          | true => consG G' ((goB P enters CB ops ms rest (j + 1)).un base ((putB o.dst).un T v) G' objs)
          | false => none
        | none => none⟩
/-- What must be known of an operation that only reads. -/
def PlainAt (P : Program) (ops : Array Oper) (ms : List Nat) (o : Oper) (j : Nat) (T : Tree Value) (v : Value) (ck : List (Nat × Tree Value × Value)) : Prop :=
  clsOf P o = .plain → wantedA ops o T = true → (∀ h, opR P (rhoA T) o h = some v) ∨ todoAt P ops ms j = [] ∨ (j, T, v) ∈ ck
theorem goB_some {enters : FuncId → FKind} {CB : CallB} {ops : Array Oper} {ms : List Nat} {base : Nat} : ∀ (l : List Oper) (j : Nat) (T : Tree Value) (G : AHeap) (objs : List (Nat × AObj)) (r : GoR),
    (goB P enters CB ops ms l j).un base T G objs = some r →
    ∃ vs, drawGo P enters (callOf CB) ops ms base l j T G objs = some (vs, r.Gs, r.os) ∧ r.T = slots l vs T ∧
      ∀ i, i < l.length → PlainAt P ops ms (l.getD i default) (j + i) (slots (l.take i) (vs.take i) T) (vs.getD i undef) r.ck := by
  intro l
  induction l with
  | nil =>
    intro j T G objs r e
    simp only [goB, Option.some.injEq] at e
    subst e
    exact ⟨[], rfl, rfl, fun i hi => by simp at hi⟩
  | cons o rest ih =>
    intro j T G objs r e
    have step : ∀ (v : Value) (G1 : AHeap) (objs1 : List (Nat × AObj)) (r : GoR), consG G1 ((goB P enters CB ops ms rest (j + 1)).un base ((putB o.dst).un T v) G1 objs1) = some r →
        (∀ vs Gs os, drawGo P enters (callOf CB) ops ms base rest (j + 1) (Tput T o.dst v) G1 objs1 = some (vs, Gs, os) → drawGo P enters (callOf CB) ops ms base (o :: rest) j T G objs = some (v :: vs, G1 :: Gs, os)) →
        ∀ ck, (∀ x ∈ r.ck, x ∈ ck) → PlainAt P ops ms o j T v ck →
        ∃ vs, drawGo P enters (callOf CB) ops ms base (o :: rest) j T G objs = some (vs, r.Gs, r.os) ∧ r.T = slots (o :: rest) vs T ∧
          ∀ i, i < (o :: rest).length → PlainAt P ops ms ((o :: rest).getD i default) (j + i) (slots ((o :: rest).take i) (vs.take i) T) (vs.getD i undef) ck := by
      intro v G1 objs1 r hgo hdraw ck hck hpl
      obtain ⟨y, hy, rfl⟩ := consG_some hgo
      rw [putB_eq] at hy
      obtain ⟨vs, q1, q2, q4⟩ := ih _ _ _ _ _ hy
      refine ⟨v :: vs, hdraw vs _ _ q1, q2, ?_⟩
      intro i hi
      cases i with
      | zero => simpa [slots] using hpl
      | succ i =>
        have := q4 i (by simpa using hi)
        intro h1 h2
        rw [show j + (i + 1) = j + 1 + i by omega]
        rcases this h1 h2 with q | q | q
        · exact .inl q
        · exact .inr (.inl q)
        · exact .inr (.inr (hck _ q))
    have noW : ∀ {v : Value} {ck}, wantedA ops o T = false → PlainAt P ops ms o j T v ck := fun hw _ h => by rw [hw] at h; cases h
    have noC : ∀ {v : Value} {ck} {c : Cls}, clsOf P o = c → c ≠ .plain → PlainAt P ops ms o j T v ck := fun hc hne h => absurd (hc.symm.trans h) hne
    simp only [goB] at e
    split at e
    · rename_i hcls
      split at e
      · rename_i hpu
        dsimp only at e
        rw [wantB_eq] at e
        split at e
        · rename_i hw
          exact step undef G objs r e (fun vs Gs os q => by simp only [drawGo, hw, q]) _ (fun _ h => h) (noW hw)
        · rename_i hw
          split at e
          · rename_i v hv
            exact step v G objs r e (fun vs Gs os q => by simp only [drawGo, hw, hcls, pureB_some hv, q]) _ (fun _ h => h) (fun _ _ => .inl fun h => pureB_some hv h)
          · cases e
      · rename_i hpu
        split at e
        · rename_i htodo
          dsimp only at e
          rw [wantB_eq] at e
          split at e
          · rename_i hw
            exact step undef G objs r e (fun vs Gs os q => by simp only [drawGo, hw, q]) _ (fun _ h => h) (noW hw)
          · rename_i hw
            split at e
            · rename_i v hv
              rw [fillB_eq] at hv
              exact step v G objs r e (fun vs Gs os q => by simp only [drawGo, hw, hcls, readB_some hv, q]) _ (fun _ h => h) (fun _ _ => .inr (.inl (by simpa using htodo)))
            · cases e
        · dsimp only at e
          rw [wantB_eq] at e
          split at e
          · rename_i hw
            exact step undef G objs r e (fun vs Gs os q => by simp only [drawGo, hw, q]) _ (fun _ h => h) (noW hw)
          · rename_i hw
            split at e
            · rename_i v hv
              rw [fillB_eq] at hv
              obtain ⟨y, hy, rfl⟩ := consC_some e
              exact step v G objs y hy (fun vs Gs os q => by simp only [drawGo, hw, hcls, readB_some hv, q]) _ (fun x hx => List.mem_cons_of_mem _ hx) (fun _ _ => .inr (.inr (by simp)))
            · cases e
    · rename_i hcls
      dsimp only at e
      rw [wantB_eq] at e
      split at e
      · rename_i hw
        exact step undef G objs r e (fun vs Gs os q => by simp only [drawGo, hw, q]) _ (fun _ h => h) (noW hw)
      · rename_i hw
        split at e
        · rename_i v ob hv
          rw [rhoB_eq] at hv
          exact step v G _ r e (fun vs Gs os q => by simp only [drawGo, hw, hcls, hv, q]) _ (fun _ h => h) (noC hcls (fun h => by cases h))
        · cases e
    · rename_i hcls
      dsimp only at e
      rw [wantB_eq] at e
      split at e
      · rename_i hw
        exact step undef G objs r e (fun vs Gs os q => by simp only [drawGo, hw, q]) _ (fun _ h => h) (noW hw)
      · rename_i hw
        split at e
        · rename_i v G1 hv
          split at e
          · rename_i hl
            rw [fillB_eq] at hv hl
            rw [liveB_eq] at hl
            have hst : stepA P enters (callOf CB) ops o T (fillA (prd ms j) base objs G) = some (v, G1) := by rw [stepA_core hw]; exact execB_some hv
            exact step v G1 objs r e (fun vs Gs os q => by simp only [drawGo, hw, hcls, hst, hl, if_true, q]) _ (fun _ h => h) (noC hcls (fun h => by cases h))
          · cases e
        · cases e

noncomputable def checkB (P : Program) (ops : Array Oper) (ms : List Nat) (base : Nat) (h0 : AHeap) (r : GoR) : Bool := match r with
  | ⟨_, Gs, os, ck⟩ => ck.all fun x => (todoAt P ops ms x.1).all fun q => match (readB P (opAt ops x.1)).un x.2.1 (fillB (prd ms x.1) base os (heapAt h0 Gs q)) with
    | some v => veq 8 v x.2.2
    | none => false
noncomputable def drawB (P : Program) (enters : FuncId → FKind) (CB : CallB) (ops : Array Oper) : Box (Tree Value → AHeap → Option (Tree Value × AHeap)) :=
  ⟨fun T h => match h with
    | ⟨t, n, l⟩ => match Nat.ble (Nat.add n ops.size) l with
      | true => match (goB P enters CB ops (masksGo ops.toList []) ops.toList 0).un n T ⟨t, Nat.add n ops.size, l⟩ [] with
        | some r => match checkB P ops (masksGo ops.toList []) n ⟨t, Nat.add n ops.size, l⟩ r with
          | true => some (r.T, fillB (fun _ => true) n r.os (heapAt ⟨t, Nat.add n ops.size, l⟩ r.Gs ops.size))
          | false => none
        | none => none
      | false => none⟩
theorem drawB_sound {G : Nat} {enters : FuncId → FKind} (hE : Enters P enters) (hz : ZF P) {CB : CallB} (hC : CallSound P G (callOf CB)) : DrawGood P G (fun ops T h => (drawB P enters CB ops).un T h) := by
  intro ops T h T' h' hplan hd
  dsimp only at hd
  unfold drawB at hd
  obtain ⟨t, n, l⟩ := h
  dsimp only at hd
  split at hd
  · rename_i hb
    split at hd
    · rename_i r hgo
      split at hd
      · rename_i hck
        simp only [Option.some.injEq, Prod.mk.injEq] at hd
        obtain ⟨rfl, rfl⟩ := hd
        obtain ⟨vs, q1, q2, q4⟩ := goB_some _ _ _ _ _ _ hgo
        have hsz : ops.toList.length = ops.size := Array.length_toList
        rw [fillB_eq, q2]
        refine drawn_sound hE hz hC (h := ⟨t, n, l⟩) hplan hb q1 fun i hi hc hw q hq => ?_
        have hp := q4 i (by rw [hsz]; exact hi)
        rw [opAt_toList, Nat.zero_add] at hp
        rcases hp hc hw with k | k | k
        · exact k _
        · rw [k] at hq; simp at hq
        · unfold checkB at hck
          obtain ⟨rT, rGs, ros, rck⟩ := r
          dsimp only at hck k ⊢
          have h1 := List.all_eq_true.1 hck _ k
          dsimp only at h1
          have h2 := List.all_eq_true.1 h1 q hq
          split at h2
          · rename_i v hv
            rw [fillB_eq] at hv
            have e := veq_eq 8 _ _ h2
            rw [← e]
            exact readB_some hv
          · cases h2
      · cases hd
    · cases hd
  · cases hd
end
def noneK : Known := fun _ => none
theorem noneK_sound {P : Program} {G : Nat} : CallSound P G noneK.call := by
  intro f args h v h' e; cases e
/-- What is known of calls, as the engine asks for it. -/
def memoK (l : List Memo) : Known := fun f => match l.any (fun x => Nat.beq x.f f) with
  | true => some (memoA l f)
  | false => none
theorem memoK_sound {P : Program} {G : Nat} {l : List Memo} (hl : ∀ x ∈ l, MemoOk P x) : CallSound P G (memoK l).call := by
  intro f args h v h' e
  refine memoA_sound l hl f args h v h' ?_
  unfold Known.call memoK at e
  cases hb : l.any (fun x => Nat.beq x.f f) with
  | true => rw [hb] at e; exact e
  | false => rw [hb] at e; cases e
end Go.Ab
namespace Go.Ab
open Go Go.RowKit

/-! ## A body, part by part, by the quick engine -/
section
variable {P : Program} {G n : Nat} {enters : FuncId → FKind} {CB : CallB} {DB : DrawB}

abbrev St := Tree Value × AHeap
noncomputable def goS (P : Program) (enters : FuncId → FKind) (CB : CallB) (DB : DrawB) (K : Nat) (r : Code) (s : St) : St :=
  match (codeB P enters CB DB K r).un s.1 s.2 with
  | .normal T h => (T, h)
  | _ => s
noncomputable def okS (P : Program) (enters : FuncId → FKind) (CB : CallB) (DB : DrawB) (K : Nat) (r : Code) (s : St) : Bool :=
  match (codeB P enters CB DB K r).un s.1 s.2 with
  | .normal _ _ => true
  | _ => false
theorem goS_wp (hE : Enters P enters) (hz : ZF P) (hC : CallSound P G (callOf CB)) (hD : DrawGood P G (fun ops T h => (DB ops).un T h)) {K : Nat} {r : Code} {s : St} {B : Base} {m : Mu} {a : Act} {w : World} {Q : Exit → Act → World → Prop}
    (hp : plansOk P r = true) (hok : codeOk G n r = true) (hs : okS P enters CB DB K r s = true) (hT : TRel m n s.1 a.tmps) (hr : Rel P B m s.2 w) (hG : GRel G m)
    (hk : ∀ m' a' w', GRel G m' → TRel m' n (goS P enters CB DB K r s).1 a'.tmps → a'.defers = a.defers → Rel P B m' (goS P enters CB DB K r s).2 w' → Q .normal a' w') : r.wp P Q a w := by
  unfold okS at hs
  split at hs
  · rename_i T' h' hc
    have hst : goS P enters CB DB K r s = (T', h') := by unfold goS; rw [hc]
    rw [hst] at hk
    obtain ⟨_, q2⟩ := codeB_sound (n := n) hE hz hC hD K r hp _ _ .normal _ _ hc
    exact q2 B m a w Q hok hT hr hG fun m' a' w' c1 c2 c3 c4 => hk m' a' w' (hG.mono c1.1) c2 c3 c4
  · cases hs
theorem goS_seq (hE : Enters P enters) (hz : ZF P) (hC : CallSound P G (callOf CB)) (hD : DrawGood P G (fun ops T h => (DB ops).un T h)) {K : Nat} {r b : Code} {s : St} {B : Base} {m : Mu} {a : Act} {w : World} {Q : Exit → Act → World → Prop}
    (hp : plansOk P r = true) (hok : codeOk G n r = true) (hs : okS P enters CB DB K r s = true) (hT : TRel m n s.1 a.tmps) (hr : Rel P B m s.2 w) (hG : GRel G m)
    (hk : ∀ m' a' w', GRel G m' → TRel m' n (goS P enters CB DB K r s).1 a'.tmps → a'.defers = a.defers → Rel P B m' (goS P enters CB DB K r s).2 w' → b.wp P Q a' w') : (Code.seq r b).wp P Q a w :=
  wp_seq (goS_wp hE hz hC hD hp hok hs hT hr hG hk)

noncomputable def endS (P : Program) (enters : FuncId → FKind) (CB : CallB) (DB : DrawB) (K : Nat) (fn : Func) (r : Code) (s : St) : Option Value :=
  match (codeB P enters CB DB K r).un s.1 s.2 with
  | .ret T' h' => match (resB P fn.results.toList).un h' T' with
    | some vs => some (oneA vs)
    | none => none
  | _ => none
theorem endS_wp (hE : Enters P enters) (hz : ZF P) (hC : CallSound P G (callOf CB)) (hD : DrawGood P G (fun ops T h => (DB ops).un T h)) {K : Nat} {r : Code} {s : St} {fn : Func} {W : World} {m : Mu} {a : Act} {w : World} {v : Value}
    (hp : plansOk P r = true) (hok : codeOk G n r = true) (hv : vflat 8 v = true) (hs : endS P enters CB DB K fn r s = some v) (hT : TRel m n s.1 a.tmps) (hr : Rel P (baseOf W) m s.2 w) (hG : GRel G m) (hd : a.defers = []) :
    r.wp P (bodyPost P fn fun e w' => e = .returned v ∧ Below W.heap.size W w') a w := by
  unfold endS at hs
  split at hs <;> try (cases hs; done)
  rename_i T' h' hc
  split at hs <;> try (cases hs; done)
  rename_i vs hvs
  obtain rfl := Option.some.inj hs
  obtain ⟨_, q2⟩ := codeB_sound (n := n) hE hz hC hD K r hp _ _ .ret _ _ hc
  refine q2 (baseOf W) m a w _ hok hT hr hG ?_
  intro m' a' w' c1 c2 c3 c4
  obtain ⟨v', r1, r2⟩ := results_sound c4 c2 (resB_some hvs)
  exact ⟨c3.trans hd, v', r1, by rw [r2.of_flat 8 hv], below_of_rel c4⟩
/-- What is known of one call, over every memory, out of one run. -/
theorem memo_of_quick {P : Program} {G : Nat} {CB : CallB} (hs : CallSound P G (callOf CB)) {x : Memo} (ha : x.args.all (vflat 8) = true) (hv : vflat 8 x.v = true) (h : ((CB x.f).un x.args.toArray (bareOf G)).map (·.1) = some x.v) : MemoOk P x :=
  memo_of_run hs ha hv h

/-! ### A region, in two parts -/
theorem runOps_cont {B : Base} {callF : CallF} (hE : Enters P enters) (hz : ZF P) (hC : CallSound P G callF) {ops : Array Oper}
    (hd : ∀ (j : Nat) (d : Nat), (ops[j]?).bind (·.dst) = some d → d < n) {Q : Exit → Act → World → Prop} (l2 : List Oper) : ∀ (l : List Oper) (T : Tree Value) (h : AHeap) (T' : Tree Value) (h' : AHeap) (m : Mu) (a : Act) (w : World),
    l.all (opOk G n) = true → runOps P enters callF ops l T h = some (T', h') → TRel m n T a.tmps → Rel P B m h w → GRel G m →
    (∀ m' a' w', Ext h m m' → TRel m' n T' a'.tmps → a'.defers = a.defers → Rel P B m' h' w' → wpList P ops Q l2 a' w') → wpList P ops Q (l ++ l2) a w := by
  intro l
  induction l with
  | nil =>
    intro T h T' h' m a w _ e hT hr hG hQ
    simp only [runOps, Option.some.injEq, Prod.mk.injEq] at e
    obtain ⟨rfl, rfl⟩ := e
    exact hQ m a w (Ext.refl _ m) hT rfl hr
  | cons o l ih =>
    intro T h T' h' m a w hl e hT hr hG hQ
    simp only [List.all_cons, Bool.and_eq_true] at hl
    simp only [runOps] at e
    split at e
    · rename_i v h2 h1
      have q := stepA_next hC h1
      have hdo : ∀ d, o.dst = some d → d < n := by
        intro d e
        have := hl.1
        unfold opOk at this
        rw [e] at this
        simp only [Bool.and_eq_true, Nat.blt_eq] at this
        exact this.2
      have hs := stepA_sound (B := B) hE hz hC h1 hT hr hG hl.1 hd (Q := Q) (K := wpList P ops Q (l ++ l2)) (fun m' v' w' c1 c2 c3 => by
        refine ih _ _ _ _ m' (a.put o.dst v') w' hl.2 e ((hT.mono c1.1).put hdo c3) c2 (hG.mono c1.1) ?_
        intro m2 a2 w2 d1 d2 d3 d4
        refine hQ m2 a2 w2 (c1.trans d1 q.1 q.2.1) d2 (d3.trans ?_) d4
        cases o.dst <;> rfl)
      rw [List.cons_append]
      unfold wpList
      split
      · rename_i hw; rw [if_pos hw] at hs; exact .inl hs
      · rename_i hw; rw [if_neg hw] at hs; exact hs
    · cases e
/-- So many operations of a region. -/
noncomputable def goL (P : Program) (enters : FuncId → FKind) (CB : CallB) (ops : Array Oper) (l : List Oper) (s : St) : St := ((opsB P enters CB ops l).un s.1 s.2).getD s
noncomputable def okL (P : Program) (enters : FuncId → FKind) (CB : CallB) (ops : Array Oper) (l : List Oper) (s : St) : Bool := ((opsB P enters CB ops l).un s.1 s.2).isSome
theorem goL_wp (hE : Enters P enters) (hz : ZF P) (hC : CallSound P G (callOf CB)) {ops : Array Oper} {l l2 : List Oper} {s : St} {B : Base} {m : Mu} {a : Act} {w : World} {Q : Exit → Act → World → Prop}
    (hok : ops.toList.all (opOk G n) = true) (hl : ops.toList = l ++ l2) (hs : okL P enters CB ops l s = true) (hT : TRel m n s.1 a.tmps) (hr : Rel P B m s.2 w) (hG : GRel G m)
    (hk : ∀ m' a' w', GRel G m' → TRel m' n (goL P enters CB ops l s).1 a'.tmps → a'.defers = a.defers → Rel P B m' (goL P enters CB ops l s).2 w' → wpList P ops Q l2 a' w') : wpList P ops Q ops.toList a w := by
  unfold okL at hs
  unfold goL at hk
  cases hc : (opsB P enters CB ops l).un s.1 s.2 with
  | none => rw [hc] at hs; cases hs
  | some r =>
    obtain ⟨T', h'⟩ := r
    rw [hc] at hk
    have hall : l.all (opOk G n) = true := by
      rw [hl, List.all_append, Bool.and_eq_true] at hok
      exact hok.1
    rw [hl]
    exact runOps_cont (B := B) hE hz hC (dst_of_ok hok) l2 l _ _ _ _ m a w hall (opsB_some hc) hT hr hG fun m' a' w' c1 c2 c3 c4 => hk m' a' w' (hG.mono c1.1) c2 c3 c4
theorem goL_end (hE : Enters P enters) (hz : ZF P) (hC : CallSound P G (callOf CB)) {ops : Array Oper} {l l0 : List Oper} {s : St} {B : Base} {m : Mu} {a : Act} {w : World} {Q : Exit → Act → World → Prop}
    (hok : ops.toList.all (opOk G n) = true) (hl : ops.toList = l0 ++ l) (hs : okL P enters CB ops l s = true) (hT : TRel m n s.1 a.tmps) (hr : Rel P B m s.2 w) (hG : GRel G m)
    (hk : ∀ m' a' w', GRel G m' → TRel m' n (goL P enters CB ops l s).1 a'.tmps → a'.defers = a.defers → Rel P B m' (goL P enters CB ops l s).2 w' → Q .normal a' w') : wpList P ops Q l a w := by
  unfold okL at hs
  unfold goL at hk
  cases hc : (opsB P enters CB ops l).un s.1 s.2 with
  | none => rw [hc] at hs; cases hs
  | some r =>
    obtain ⟨T', h'⟩ := r
    rw [hc] at hk
    have hall : l.all (opOk G n) = true := by
      rw [hl, List.all_append, Bool.and_eq_true] at hok
      exact hok.2
    exact runOps_sound (B := B) hE hz hC (dst_of_ok hok) l _ _ _ _ m a w hall (opsB_some hc) hT hr hG fun m' a' w' c1 c2 c3 c4 => hk m' a' w' (hG.mono c1.1) c2 c3 c4
end
end Go.Ab
namespace Go.Ab
open Go

/-! ## Blocks numbered anew -/
def atOf : List Nat → Nat → Option Nat
  | [], _ => none
  | x :: _, 0 => some x
  | _ :: l, i + 1 => atOf l i
def idxIn : List Nat → Nat → Nat → Option Nat
  | [], _, _ => none
  | x :: l, b, i => match Nat.beq x b with
    | true => some i
    | false => idxIn l b (i + 1)
theorem idxIn_some : ∀ (l : List Nat) (b i j : Nat), idxIn l b i = some j → i ≤ j ∧ atOf l (j - i) = some b := by
  intro l
  induction l with
  | nil => intro b i j h; cases h
  | cons x l ih =>
    intro b i j h
    simp only [idxIn] at h
    split at h
    · rename_i e
      cases h
      rw [Nat.sub_self]
      exact ⟨Nat.le_refl _, by rw [Nat.eq_of_beq_eq_true e]; rfl⟩
    · obtain ⟨h1, h2⟩ := ih b (i + 1) j h
      refine ⟨by omega, ?_⟩
      rw [show j - i = (j - (i + 1)) + 1 by omega]
      exact h2
theorem atOf_lt : ∀ (l : List Nat) (i b : Nat), atOf l i = some b → i < l.length := by
  intro l
  induction l with
  | nil => intro i b h; cases h
  | cons x l ih =>
    intro i b h
    cases i with
    | zero => simp
    | succ i => have := ih i b h; simp; omega
theorem atOf_some : ∀ (l : List Nat) (i : Nat), i < l.length → ∃ b, atOf l i = some b := by
  intro l
  induction l with
  | nil => intro i h; simp at h
  | cons x l ih =>
    intro i h
    cases i with
    | zero => exact ⟨x, rfl⟩
    | succ i => exact ih i (by simpa using h)
/-- No number twice. -/
def onceOk : List Nat → Bool
  | [] => true
  | x :: l => (idxIn l x 0).isNone && onceOk l
theorem idxIn_none : ∀ (l : List Nat) (b i k : Nat), (idxIn l b i).isNone = true → atOf l k ≠ some b := by
  intro l
  induction l with
  | nil => intro b i k _ h; cases h
  | cons x l ih =>
    intro b i k h e
    simp only [idxIn] at h
    split at h
    · cases h
    · rename_i hne
      cases k with
      | zero =>
        obtain rfl := Option.some.inj e
        rw [Nat.beq_refl] at hne; cases hne
      | succ k => exact ih b (i + 1) k h e
theorem onceOk_inj : ∀ (l : List Nat), onceOk l = true → ∀ i j b, atOf l i = some b → atOf l j = some b → i = j := by
  intro l
  induction l with
  | nil => intro _ i j b h; cases h
  | cons x l ih =>
    intro h i j b h1 h2
    simp only [onceOk, Bool.and_eq_true] at h
    cases i with
    | zero =>
      cases j with
      | zero => rfl
      | succ j =>
        obtain rfl := Option.some.inj h1
        exact absurd h2 (idxIn_none l x 0 j h.1)
    | succ i =>
      cases j with
      | zero =>
        obtain rfl := Option.some.inj h2
        exact absurd h1 (idxIn_none l x 0 i h.1)
      | succ j => rw [ih h.2 i j b h1 h2]

def mu2 (m : Mu) (σ : List Nat) (lim : Nat) : Mu := fun y => match atOf σ y with
  | some b => m b
  | none => if lim ≤ y then m (y - lim) else none
def renB (σ : List Nat) (lim : Nat) (b : Nat) : Nat := match idxIn σ b 0 with
  | some i => i
  | none => lim + b
theorem mu2_far {m : Mu} {σ : List Nat} {lim : Nat} (h : σ.length ≤ lim) (b : Nat) : mu2 m σ lim (lim + b) = m b := by
  unfold mu2
  cases e : atOf σ (lim + b) with
  | some x => have := atOf_lt _ _ _ e; omega
  | none => dsimp only; rw [if_pos (by omega), show lim + b - lim = b by omega]
theorem mu2_renB {m : Mu} {σ : List Nat} {lim : Nat} (h : σ.length ≤ lim) (b : Nat) : mu2 m σ lim (renB σ lim b) = m b := by
  unfold renB
  cases e : idxIn σ b 0 with
  | some i =>
    have q := (idxIn_some σ b 0 i e).2
    rw [Nat.sub_zero] at q
    unfold mu2
    dsimp only
    rw [q]
  | none => exact mu2_far h b

/-- A value, its blocks numbered anew. -/
def renL (g : Value → Option Value) : List Value → Option (List Value)
  | [] => some []
  | v :: l => match g v, renL g l with
    | some v2, some l2 => some (v2 :: l2)
    | _, _ => none
def renV (f : Nat → Nat) : Nat → Value → Option Value
  | _, .bool b => some (.bool b)
  | _, .int k n => some (.int k n)
  | _, .float k n => some (.float k n)
  | _, .complex k a b => some (.complex k a b)
  | _, .string s => some (.string s)
  | _, .pointer none => some (.pointer none)
  | _, .pointer (some ⟨b, o, none⟩) => some (.pointer (some ⟨f b, o, none⟩))
  | _, .slice none n c => some (.slice none n c)
  | _, .slice (some ⟨b, o, none⟩) n c => some (.slice (some ⟨f b, o, none⟩) n c)
  | _, .map none => some (.map none)
  | _, .map (some b) => some (.map (some (f b)))
  | _, .chan x => some (.chan x)
  | _, .nilFunc => some .nilFunc
  | _, .nilIface => some .nilIface
  | n + 1, .iface t v => match renV f n v with
    | some v2 => some (.iface t v2)
    | none => none
  | n + 1, .agg c => match renL (renV f n) c.toList with
    | some l => some (.agg l.toArray)
    | none => none
  | n + 1, .tuple c => match renL (renV f n) c.toList with
    | some l => some (.tuple l.toArray)
    | none => none
  | n + 1, .func g a c => match renL (renV f n) a.toList, renL (renV f n) c.toList with
    | some l, some l2 => some (.func g l.toArray l2.toArray)
    | _, _ => none
  | _, _ => none

theorem renL_length {g : Value → Option Value} : ∀ (l l2 : List Value), renL g l = some l2 → l2.length = l.length := by
  intro l
  induction l with
  | nil => intro l2 h; cases h; rfl
  | cons v l ih =>
    intro l2 h
    simp only [renL] at h
    split at h
    · rename_i v2 l3 h1 h2
      cases h
      simp [ih _ h2]
    · cases h
theorem renL_get {g : Value → Option Value} : ∀ (l l2 : List Value), renL g l = some l2 → ∀ i (h : i < l.length) (h2 : i < l2.length), g l[i] = some l2[i] := by
  intro l
  induction l with
  | nil => intro l2 _ i h; simp at h
  | cons v l ih =>
    intro l2 h i hi hi2
    simp only [renL] at h
    split at h
    · rename_i v2 l3 h1 h2
      cases h
      cases i with
      | zero => exact h1
      | succ i => exact ih l3 h2 i (by simpa using hi) (by simpa using hi2)
    · cases h
/-- Rows of values stand for the same. -/
theorem renL_rel {m2 : Mu} {g : Value → Option Value} {c c' : Array Value} {l : List Value} (hs : c.size = c'.size) (h : renL g c.toList = some l)
    (ih : ∀ i (h : i < c.size) (h' : i < c'.size), ∀ v2, g c[i] = some v2 → VRel m2 v2 c'[i]) : l.toArray.size = c'.size ∧ ∀ i (h : i < l.toArray.size) (h' : i < c'.size), VRel m2 l.toArray[i] c'[i] := by
  have hl := renL_length _ _ h
  have hl2 : l.length = c.size := by simpa using hl
  refine ⟨by simp [hl2, hs], fun i h1 h2 => ?_⟩
  have q := renL_get _ _ h i (by simp; omega) (by simpa using h1)
  simp only [List.getElem_toArray]
  exact ih i (by omega) h2 _ (by simpa using q)

theorem renV_rel {m m2 : Mu} {f : Nat → Nat} (hf : ∀ b, m2 (f b) = m b) {v v' : Value} (h : VRel m v v') : ∀ n v2, renV f n v = some v2 → VRel m2 v2 v' := by
  induction h with
  | bool b => intro n v2 h; cases n <;> (simp only [renV] at h; cases h; exact .bool b)
  | int k b => intro n v2 h; cases n <;> (simp only [renV] at h; cases h; exact .int k b)
  | float k b => intro n v2 h; cases n <;> (simp only [renV] at h; cases h; exact .float k b)
  | complex k a b => intro n v2 h; cases n <;> (simp only [renV] at h; cases h; exact .complex k a b)
  | string s => intro n v2 h; cases n <;> (simp only [renV] at h; cases h; exact .string s)
  | nilPtr => intro n v2 h; cases n <;> (simp only [renV] at h; cases h; exact .nilPtr)
  | ptr b o l hl => intro n v2 h; cases n <;> (simp only [renV] at h; cases h; exact .ptr _ o l (by rw [hf]; exact hl))
  | nilSlice k c => intro n v2 h; cases n <;> (simp only [renV] at h; cases h; exact .nilSlice k c)
  | slice b o k c l hl hc => intro n v2 h; cases n <;> (simp only [renV] at h; cases h; exact .slice _ o k c l (by rw [hf]; exact hl) hc)
  | oslice b o k c l hl h1 h2 h3 => intro n v2 h; cases n <;> (simp only [renV] at h; cases h; exact .oslice _ o k c l (by rw [hf]; exact hl) h1 h2 h3)
  | oslice0 b o k l a hl h1 h2 => intro n v2 h; cases n <;> (simp only [renV] at h; cases h; exact .oslice0 _ o k l a (by rw [hf]; exact hl) h1 h2)
  | slice0 b o a => intro n v2 h; cases n <;> (simp only [renV] at h; cases h; exact .slice0 _ o a)
  | nilMap => intro n v2 h; cases n <;> (simp only [renV] at h; cases h; exact .nilMap)
  | nilChan => intro n v2 h; cases n <;> (simp only [renV] at h; cases h; exact .nilChan)
  | any r v' a b c => intro n v2 h; cases n <;> (simp only [renV] at h; cases h; exact .any r v' a b c)
  | map b l hl => intro n v2 h; cases n <;> (simp only [renV] at h; cases h; exact .map _ l (by rw [hf]; exact hl))
  | nilFunc => intro n v2 h; cases n <;> (simp only [renV] at h; cases h; exact .nilFunc)
  | nilIface => intro n v2 h; cases n <;> (simp only [renV] at h; cases h; exact .nilIface)
  | func g a a' c c' h1 _ h3 _ i1 i2 =>
    intro n v2 h
    cases n with
    | zero => simp [renV] at h
    | succ n =>
      simp only [renV] at h
      split at h
      · rename_i l l2 e1 e2
        cases h
        obtain ⟨p1, p2⟩ := renL_rel h1 e1 (fun i a b v2 e => i1 i a b n v2 e)
        obtain ⟨p3, p4⟩ := renL_rel h3 e2 (fun i a b v2 e => i2 i a b n v2 e)
        exact .func g _ _ _ _ p1 p2 p3 p4
      · cases h
  | iface t v v' _ ih =>
    intro n v2 h
    cases n with
    | zero => simp [renV] at h
    | succ n =>
      simp only [renV] at h
      split at h
      · rename_i x e
        cases h
        exact .iface t _ _ (ih n x e)
      · cases h
  | agg c c' h1 _ ih =>
    intro n v2 h
    cases n with
    | zero => simp [renV] at h
    | succ n =>
      simp only [renV] at h
      split at h
      · rename_i l e
        cases h
        obtain ⟨p1, p2⟩ := renL_rel h1 e (fun i a b v2 e => ih i a b n v2 e)
        exact .agg _ _ p1 p2
      · cases h
  | tuple c c' h1 _ ih =>
    intro n v2 h
    cases n with
    | zero => simp [renV] at h
    | succ n =>
      simp only [renV] at h
      split at h
      · rename_i l e
        cases h
        obtain ⟨p1, p2⟩ := renL_rel h1 e (fun i a b v2 e => ih i a b n v2 e)
        exact .tuple _ _ p1 p2
      · cases h

/-- Whatever stands for something does so under other numbers too. -/
theorem junk_rel {m m2 : Mu} {f : Nat → Nat} (hf : ∀ b, m2 (f b) = m b) {v v' : Value} (h : VRel m v v') : ∃ v2, VRel m2 v2 v' := by
  have rows : ∀ c c' : Array Value, c.size = c'.size → (∀ i (h : i < c.size) (h' : i < c'.size), ∃ v2, VRel m2 v2 c'[i]) → ∃ d : Array Value, d.size = c'.size ∧ ∀ i (h : i < d.size) (h' : i < c'.size), VRel m2 d[i] c'[i] := by
    intro c c' hs hx
    have hx' : ∀ i : Fin c'.size, ∃ v2, VRel m2 v2 c'[i] := fun i => hx i.1 (by omega) i.2
    refine ⟨Array.ofFn (fun i : Fin c'.size => (hx' i).choose), by simp, fun i h h' => ?_⟩
    simp only [Array.getElem_ofFn]
    exact (hx' ⟨i, h'⟩).choose_spec
  induction h with
  | bool b => exact ⟨_, .bool b⟩
  | int k b => exact ⟨_, .int k b⟩
  | float k b => exact ⟨_, .float k b⟩
  | complex k a b => exact ⟨_, .complex k a b⟩
  | string s => exact ⟨_, .string s⟩
  | nilPtr => exact ⟨_, .nilPtr⟩
  | ptr b o l hl => exact ⟨_, .ptr (f b) o l (by rw [hf]; exact hl)⟩
  | nilSlice k c => exact ⟨_, .nilSlice k c⟩
  | slice b o k c l hl hc => exact ⟨_, .slice (f b) o k c l (by rw [hf]; exact hl) hc⟩
  | oslice b o k c l hl h1 h2 h3 => exact ⟨_, .oslice (f b) o k c l (by rw [hf]; exact hl) h1 h2 h3⟩
  | oslice0 b o k l a hl h1 h2 => exact ⟨_, .oslice0 (f b) o k l a (by rw [hf]; exact hl) h1 h2⟩
  | slice0 b o a => exact ⟨_, .slice0 b o a⟩
  | nilMap => exact ⟨_, .nilMap⟩
  | nilChan => exact ⟨_, .nilChan⟩
  | any r v' a b c => exact ⟨_, .any r v' a b c⟩
  | map b l hl => exact ⟨_, .map (f b) l (by rw [hf]; exact hl)⟩
  | nilFunc => exact ⟨_, .nilFunc⟩
  | nilIface => exact ⟨_, .nilIface⟩
  | func g a a' c c' h1 _ h3 _ i1 i2 =>
    obtain ⟨d, p1, p2⟩ := rows a a' h1 i1
    obtain ⟨e, p3, p4⟩ := rows c c' h3 i2
    exact ⟨_, .func g d _ e _ p1 p2 p3 p4⟩
  | iface t v v' _ ih => obtain ⟨x, hx⟩ := ih; exact ⟨_, .iface t x _ hx⟩
  | agg c c' h1 _ ih => obtain ⟨d, p1, p2⟩ := rows c c' h1 ih; exact ⟨_, .agg d _ p1 p2⟩
  | tuple c c' h1 _ ih => obtain ⟨d, p1, p2⟩ := rows c c' h1 ih; exact ⟨_, .tuple d _ p1 p2⟩
open Classical in
/-- Some value that stands for a given one. -/
noncomputable def junkOf (m2 : Mu) (v' : Value) : Value := if h : ∃ v2, VRel m2 v2 v' then h.choose else undef
theorem junkOf_rel {m2 : Mu} {v' : Value} (h : ∃ v2, VRel m2 v2 v') : VRel m2 (junkOf m2 v') v' := by
  unfold junkOf
  rw [dif_pos h]
  exact h.choose_spec
end Go.Ab
namespace Go.Ab
open Go

/-! ## A state, its blocks numbered anew -/
/-- The first so many values, made anew. -/
def cellsF (g : Nat → Value → Option Value) (t : Tree Value) : Nat → Nat → Tree Value → Option (Tree Value)
  | 0, _, acc => some acc
  | k + 1, i, acc => match g i (t.get undef i) with
    | some v => cellsF g t k (i + 1) (acc.set undef i v)
    | none => none
theorem cellsF_get {g : Nat → Value → Option Value} {t : Tree Value} : ∀ (k i : Nat) (acc r : Tree Value), cellsF g t k i acc = some r →
    ∀ j, (i ≤ j ∧ j < i + k → g j (t.get undef j) = some (r.get undef j)) ∧ (¬ (i ≤ j ∧ j < i + k) → r.get undef j = acc.get undef j) := by
  intro k
  induction k with
  | zero => intro i acc r h j; cases h; exact ⟨fun q => by omega, fun _ => rfl⟩
  | succ k ih =>
    intro i acc r h j
    simp only [cellsF] at h
    split at h
    · rename_i v hv
      obtain ⟨q1, q2⟩ := ih (i + 1) _ r h j
      by_cases e : j = i
      · subst e
        have := q2 (by omega)
        rw [Tree.get_set, if_pos rfl] at this
        exact ⟨fun _ => by rw [hv, this], fun q => by omega⟩
      · refine ⟨fun q => q1 (by omega), fun q => ?_⟩
        have := q2 (by omega)
        rwa [Tree.get_set, if_neg e] at this
    · cases h
/-- What is kept is numbered anew; what is not is whatever it is. -/
def keepV (f : Nat → Nat) (K : Nat → Bool) (j : Nat → Value) (i : Nat) (v : Value) : Option Value := match K i with
  | true => renV f 8 v
  | false => some (j i)
/-- Z: kept as it is, whatever it is. -/
def keepT (f : Nat → Nat) (K Z : Nat → Bool) (j : Nat → Value) (i : Nat) (v : Value) : Option Value := match Z i with
  | true => some v
  | false => keepV f K j i v
def renE (f : Nat → Nat) (e : MapEntry) : Option MapEntry := match renV f 8 e.key, renV f 8 e.val with
  | some k, some v => some { e with key := k, val := v }
  | _, _ => none
def renEs (f : Nat → Nat) : List MapEntry → Option (List MapEntry)
  | [] => some []
  | e :: l => match renE f e, renEs f l with
    | some e2, some l2 => some (e2 :: l2)
    | _, _ => none
def renO1 (f : Nat → Nat) (K : Nat → Bool) (R : Bool) (j : Nat → Value) : AObj → Option AObj
  | .dead => some .dead
  | .cells c t => match cellsF (keepV f K j) c.t c.len 0 .leaf with
    | some r => some (.cells ⟨c.len, r⟩ t)
    | none => none
  | .ro c t => match R with
    | true => some (.ro c t)
    | false => match cellsF (keepV f K j) c.t c.len 0 .leaf with
      | some r => some (.ro ⟨c.len, r⟩ t)
      | none => none
  | .map es k => match renEs f es.toList with
    | some l => some (.map l.toArray k)
    | none => none
  | .iter s p => some (.iter s p)
  | .miter x since seen last => some (.miter (x.map f) since seen last)
/-- Z: kept as it is, whatever it is. -/
def renO (f : Nat → Nat) (K : Nat → Bool) (R Z : Bool) (j : Nat → Value) (o : AObj) : Option AObj := match Z with
  | true => some o
  | false => renO1 f K R j o
def renH (f : Nat → Nat) (K : Nat → Nat → Bool) (R Z : Nat → Bool) (j : Nat → Nat → Value) (h : Tree AObj) : List Nat → Nat → Tree AObj → Option (Tree AObj)
  | [], _, acc => some acc
  | b :: l, i, acc => match renO f (K i) (R i) (Z i) (j i) (h.get .dead b) with
    | some o => renH f K R Z j h l (i + 1) (acc.set .dead i o)
    | none => none
theorem renH_get {f : Nat → Nat} {K : Nat → Nat → Bool} {R Z : Nat → Bool} {j : Nat → Nat → Value} {h : Tree AObj} : ∀ (l : List Nat) (i : Nat) (acc r : Tree AObj), renH f K R Z j h l i acc = some r →
    ∀ y, (∀ b, i ≤ y → atOf l (y - i) = some b → renO f (K y) (R y) (Z y) (j y) (h.get .dead b) = some (r.get .dead y)) ∧ (y < i ∨ i + l.length ≤ y → r.get .dead y = acc.get .dead y) := by
  intro l
  induction l with
  | nil => intro i acc r h y; cases h; exact ⟨fun b _ e => by (cases e), fun _ => rfl⟩
  | cons x l ih =>
    intro i acc r h y
    simp only [renH] at h
    split at h
    · rename_i o ho
      obtain ⟨q1, q2⟩ := ih (i + 1) _ r h y
      by_cases e : y = i
      · subst e
        have := q2 (.inl (by omega))
        rw [Tree.get_set, if_pos rfl] at this
        refine ⟨fun b _ hb => ?_, fun q => by simp only [List.length_cons] at q; omega⟩
        rw [Nat.sub_self] at hb
        obtain rfl := Option.some.inj hb
        rw [ho, this]
      · refine ⟨fun b hb hb2 => ?_, fun q => ?_⟩
        · refine q1 b (by omega) ?_
          rw [show y - i = (y - (i + 1)) + 1 by omega] at hb2
          exact hb2
        · simp only [List.length_cons] at q
          have := q2 (by omega)
          rwa [Tree.get_set, if_neg e] at this
    · cases h

/-- What is said of a state at a loop's head: which blocks it has, which slots and cells are kept. -/
structure Shape where
  σ : List Nat
  n : Nat
  KT : Nat → Bool
  K : Nat → Nat → Bool
  R : Nat → Bool := fun _ => false
  Z : Nat → Bool := fun _ => false
  ZT : Nat → Bool := fun _ => false
/-- The state, its blocks numbered anew; what is not kept is 'jt' and 'jh'. -/
def canonS (S : Shape) (G : Nat) (s : Tree Value × AHeap) (jt : Nat → Value) (jh : Nat → Nat → Value) : Option (Tree Value × AHeap) :=
  match onceOk S.σ && Nat.ble S.σ.length s.2.lim && (List.range G).all (fun g => match atOf S.σ g with | some x => Nat.beq x g | none => false) with
  | true => match cellsF (keepT (renB S.σ s.2.lim) S.KT S.ZT jt) s.1 S.n 0 .leaf, renH (renB S.σ s.2.lim) S.K S.R S.Z jh s.2.t S.σ 0 .leaf with
    | some T, some t => some (T, ⟨t, S.σ.length, s.2.lim⟩)
    | _, _ => none
  | false => none
variable {P : Program} {G : Nat} {B : Base}

theorem isRo_renO1 {f : Nat → Nat} {K : Nat → Bool} {R : Bool} {j : Nat → Value} {o o2 : AObj} (h : renO1 f K R j o = some o2) : isRo o2 = isRo o ∧ (o = .dead → o2 = .dead) := by
  cases o with
  | dead => cases h; exact ⟨rfl, fun _ => rfl⟩
  | cells c t => simp only [renO1] at h; split at h <;> cases h; exact ⟨rfl, fun q => by cases q⟩
  | ro c t =>
    cases R with
    | true => cases h; exact ⟨rfl, fun q => by cases q⟩
    | false => simp only [renO1] at h; split at h <;> cases h; exact ⟨rfl, fun q => by cases q⟩
  | map es k => simp only [renO1] at h; split at h <;> cases h; exact ⟨rfl, fun q => by cases q⟩
  | iter s p => cases h; exact ⟨rfl, fun q => by cases q⟩
  | miter x a b c => cases h; exact ⟨rfl, fun q => by cases q⟩
theorem isRo_renO {f : Nat → Nat} {K : Nat → Bool} {R Z : Bool} {j : Nat → Value} {o o2 : AObj} (h : renO f K R Z j o = some o2) : isRo o2 = isRo o ∧ (o = .dead → o2 = .dead) := by
  cases Z with
  | true => cases h; exact ⟨rfl, fun q => q⟩
  | false => exact isRo_renO1 h
theorem protOf_same {o o2 : AObj} {x : Option Obj} (h : isRo o2 = isRo o) (hp : protOf o x) : protOf o2 x :=
  protOf_mk (fun q => protOf_some hp (by rw [← h]; exact q)) (fun q => protOf_none hp (by rw [← h]; exact q))

theorem renEs_spec {f : Nat → Nat} : ∀ (l l2 : List MapEntry), renEs f l = some l2 → l2.length = l.length ∧ ∀ i (h : i < l.length) (h2 : i < l2.length), renE f l[i] = some l2[i] := by
  intro l
  induction l with
  | nil => intro l2 h; cases h; exact ⟨rfl, fun i h => by simp at h⟩
  | cons e l ih =>
    intro l2 h
    simp only [renEs] at h
    split at h
    · rename_i e2 l3 h1 h2
      cases h
      obtain ⟨q1, q2⟩ := ih l3 h2
      refine ⟨by simp [q1], fun i hi hi2 => ?_⟩
      cases i with
      | zero => exact h1
      | succ i => exact q2 i (by simpa using hi) (by simpa using hi2)
    · cases h
theorem renE_rel {m m2 : Mu} {f : Nat → Nat} (hf : ∀ b, m2 (f b) = m b) {e e2 e' : MapEntry} (h : ERel m e e') (he : renE f e = some e2) : ERel m2 e2 e' := by
  unfold renE at he
  split at he
  · rename_i k v h1 h2
    cases he
    exact ⟨renV_rel hf h.1 _ _ h1, renV_rel hf h.2.1 _ _ h2, h.2.2⟩
  · cases he

/-- What a cell of a world's block holds. -/
noncomputable def heldAt (m2 : Mu) (w : World) (l : Option Loc) (i : Nat) : Value := match l with
  | some l => match w.heap[l.blk]? with
    | some (.cells C _ _) => junkOf m2 (C.getD (l.off + i) undef)
    | _ => undef
  | none => undef
theorem heldAt_eq {m2 : Mu} {w : World} {l : Loc} {i : Nat} {C : Array Value} {t : TypeId} {fr : Nat × Nat} {v : Value} (h : w.heap[l.blk]? = some (.cells C t fr)) (hv : C[l.off + i]? = some v) : heldAt m2 w (some l) i = junkOf m2 v := by
  unfold heldAt
  simp only [h]
  rw [Array.getD_eq_getD_getElem?, hv]
  rfl
theorem row_ren {m m2 : Mu} {f : Nat → Nat} (hf : ∀ b, m2 (f b) = m b) {c : Row} {r : Tree Value} {K : Nat → Bool} {w : World} {l : Loc} {C : Array Value} {t : TypeId} {fr : Nat × Nat}
    (hC : w.heap[l.blk]? = some (.cells C t fr)) (hrow : ∀ i v, c.get? i = some v → ∃ v', C[l.off + i]? = some v' ∧ VRel m v v')
    (hr : cellsF (keepV f K (heldAt m2 w (some l))) c.t c.len 0 .leaf = some r) : ∀ i v, Row.get? ⟨c.len, r⟩ i = some v → ∃ v', C[l.off + i]? = some v' ∧ VRel m2 v v' := by
  intro i v hv
  have hi : i < c.len := by
    have := Row.lt_of_get? hv
    exact this
  rw [Row.get?_eq, if_pos hi] at hv
  obtain rfl := Option.some.inj hv
  obtain ⟨v', h1, h2⟩ := hrow i (c.t.get undef i) (by rw [Row.get?_eq, if_pos hi])
  refine ⟨v', h1, ?_⟩
  have q := (cellsF_get _ _ _ _ hr i).1 ⟨by omega, by omega⟩
  unfold keepV at q
  split at q
  · exact renV_rel hf h2 _ _ q
  · rw [heldAt_eq hC h1] at q
    rw [← Option.some.inj q]
    exact junkOf_rel (junk_rel hf h2)
theorem ok_ren1 {m m2 : Mu} {f : Nat → Nat} (hf : ∀ b, m2 (f b) = m b) {o o2 : AObj} {K : Nat → Bool} {R : Bool} {w : World} {l : Loc} (hfl : R = true → ∀ c t, o = .ro c t → ∀ i v, c.get? i = some v → vflat 8 v = true) (hok : OKObj P m l w o) (h : renO1 f K R (heldAt m2 w (some l)) o = some o2) : OKObj P m2 l w o2 := by
  cases o with
  | dead => cases h; exact trivial
  | cells c t =>
    simp only [renO1] at h
    split at h
    · rename_i r hr
      cases h
      obtain ⟨C, fr, h1, h2, h3, h4, h5⟩ := hok
      exact ⟨C, fr, h1, h2, h3, row_ren hf h1 h4 hr, h5⟩
    · cases h
  | ro c t =>
    cases R with
    | true =>
      cases h
      obtain ⟨C, te, fr, h1, h3, h4⟩ := hok
      refine ⟨C, te, fr, h1, h3, fun i v hv => ?_⟩
      obtain ⟨v', q1, q2⟩ := h4 i v hv
      have hfv := hfl rfl c t rfl i v hv
      obtain rfl := q2.of_flat 8 hfv
      exact ⟨_, q1, vflat_rel m2 8 _ hfv⟩
    | false =>
      simp only [renO1] at h
      split at h
      · rename_i r hr
        cases h
        obtain ⟨C, te, fr, h1, h3, h4⟩ := hok
        exact ⟨C, te, fr, h1, h3, row_ren hf h1 h4 hr⟩
      · cases h
  | map es k =>
    simp only [renO1] at h
    split at h
    · rename_i l2 hl
      cases h
      obtain ⟨es', h1, h2, h3, h4⟩ := hok
      obtain ⟨q1, q2⟩ := renEs_spec _ _ hl
      have q1' : l2.length = es.size := by simpa using q1
      refine ⟨es', h1, h2, by simp [q1', h3], fun i hi hi' => ?_⟩
      have := q2 i (by simp; omega) (by simpa using hi)
      simp only [List.getElem_toArray]
      exact renE_rel hf (h4 i (by omega) hi') (by simpa using this)
    · cases h
  | iter s p => cases h; exact hok
  | miter x a b c =>
    cases h
    obtain ⟨⟨x', h1, h2⟩, h3⟩ := hok
    refine ⟨⟨x', h1, ?_⟩, h3⟩
    cases x with
    | none => cases x' with
      | none => exact trivial
      | some r => exact h2.elim
    | some y => cases x' with
      | none => exact h2.elim
      | some r => obtain ⟨l2, e1, e2⟩ := h2; exact ⟨l2, by rw [hf]; exact e1, e2⟩

/-- What may be kept as it is. -/
def OneForm (o : AObj) : Prop := o = .dead ∨ ∃ c t, (o = .ro c t ∨ o = .cells c t) ∧ ∀ i v, c.get? i = some v → vflat 8 v = true
theorem ok_ren {m m2 : Mu} {f : Nat → Nat} (hf : ∀ b, m2 (f b) = m b) {o o2 : AObj} {K : Nat → Bool} {R Z : Bool} {w : World} {l : Loc} (hfl : R = true → ∀ c t, o2 = .ro c t → ∀ i v, c.get? i = some v → vflat 8 v = true) (hz : Z = true → OneForm o2) (hok : OKObj P m l w o) (h : renO f K R Z (heldAt m2 w (some l)) o = some o2) : OKObj P m2 l w o2 := by
  cases Z with
  | true =>
    obtain rfl := Option.some.inj h
    rcases hz rfl with rfl | ⟨c, t, rfl | rfl, hc⟩
    · exact trivial
    · obtain ⟨C, te, fr, h1, h3, h4⟩ := hok
      refine ⟨C, te, fr, h1, h3, fun i v hv => ?_⟩
      obtain ⟨v', q1, q2⟩ := h4 i v hv
      have hfv := hc i v hv
      obtain rfl := q2.of_flat 8 hfv
      exact ⟨_, q1, vflat_rel m2 8 _ hfv⟩
    · obtain ⟨C, fr, h1, h2, h3, h4, h5⟩ := hok
      refine ⟨C, fr, h1, h2, h3, fun i v hv => ?_, h5⟩
      obtain ⟨v', q1, q2⟩ := h4 i v hv
      have hfv := hc i v hv
      obtain rfl := q2.of_flat 8 hfv
      exact ⟨_, q1, vflat_rel m2 8 _ hfv⟩
  | false =>
    refine ok_ren1 hf (fun hR c t ho => ?_) hok h
    subst ho
    subst hR
    exact hfl rfl c t (Option.some.inj h).symm
/-- What may be kept in a slot as it is: it points nowhere but to blocks that keep their numbers. -/
def FixV (σ : List Nat) (v : Value) : Prop := ∀ (m m' : Mu) v', (∀ y, atOf σ y = some y → m' y = m y) → VRel m v v' → VRel m' v v'

theorem canonZ {S : Shape} {s : Tree Value × AHeap} {m : Mu} {a : Act} {w : World} {S2 : (Nat → Value) → (Nat → Nat → Value) → Tree Value × AHeap}
    (hR : ∀ jt jh y, S.R y = true → ∀ c t, (S2 jt jh).2.get y = .ro c t → ∀ i v, c.get? i = some v → vflat 8 v = true)
    (hZ : ∀ jt jh y, S.Z y = true → OneForm ((S2 jt jh).2.get y)) (hZT : ∀ jt jh i, S.ZT i = true → FixV S.σ (Tget (S2 jt jh).1 i)) (hc : ∀ jt jh, canonS S G s jt jh = some (S2 jt jh)) (hT : TRel m S.n s.1 a.tmps) (hr : Rel P B m s.2 w) (hG : GRel G m) :
    ∃ m2 jt jh, GRel G m2 ∧ TRel m2 S.n (S2 jt jh).1 a.tmps ∧ Rel P B m2 (S2 jt jh).2 w := by
  let m2 := mu2 m S.σ s.2.lim
  let jt : Nat → Value := fun t => junkOf m2 (a.tmps.getD t undef)
  let jh : Nat → Nat → Value := fun y i => heldAt m2 w (m2 y) i
  refine ⟨m2, jt, jh, ?_⟩
  have e := hc jt jh
  unfold canonS at e
  split at e
  · rename_i hok
    simp only [Bool.and_eq_true, Nat.ble_eq] at hok
    obtain ⟨⟨ho, hl⟩, hg⟩ := hok
    have hf : ∀ b, m2 (renB S.σ s.2.lim b) = m b := mu2_renB hl
    split at e
    · rename_i T t hT2 hH2
      rw [← Option.some.inj e]
      have hat : ∀ y b, atOf S.σ y = some b → m2 y = m b := by
        intro y b hy
        show mu2 m S.σ s.2.lim y = m b
        unfold mu2; rw [hy]
      have hget : ∀ y b, atOf S.σ y = some b → renO (renB S.σ s.2.lim) (S.K y) (S.R y) (S.Z y) (jh y) (s.2.get b) = some (t.get .dead y) := fun y b hy => (renH_get _ _ _ _ hH2 y).1 b (Nat.zero_le _) hy
      have hout : ∀ y, S.σ.length ≤ y → t.get .dead y = .dead := fun y hy => by
        rw [(renH_get _ _ _ _ hH2 y).2 (.inr (by omega)), Tree.get_leaf]
      have hin : ∀ y, t.get .dead y ≠ .dead → ∃ b, atOf S.σ y = some b ∧ s.2.get b ≠ .dead := by
        intro y hy
        have hlt : y < S.σ.length := by
          rcases Nat.lt_or_ge y S.σ.length with h | h
          · exact h
          · exact absurd (hout y h) hy
        obtain ⟨b, hb⟩ := atOf_some _ _ hlt
        exact ⟨b, hb, fun q => hy ((isRo_renO (hget y b hb)).2 q)⟩
      refine ⟨?_, ?_, ?_⟩
      · intro g hgG
        have q := List.all_eq_true.1 hg g (by simpa using hgG)
        split at q
        · rename_i x hx
          obtain rfl := Nat.eq_of_beq_eq_true q
          obtain ⟨l, h1, h2⟩ := hG x hgG
          exact ⟨l, by rw [hat _ _ hx]; exact h1, h2⟩
        · cases q
      · refine ⟨hT.size, fun i => ?_⟩
        show VRel m2 (T.get undef i) _
        rcases Nat.lt_or_ge i S.n with hi | hi
        · have q := (cellsF_get _ _ _ _ hT2 i).1 ⟨by omega, by omega⟩
          unfold keepT at q
          split at q
          · rename_i hz
            have q2 := hZT jt jh i hz
            rw [← Option.some.inj e] at q2
            have q2' : FixV S.σ (T.get undef i) := q2
            rw [← Option.some.inj q] at q2' ⊢
            exact q2' m m2 _ (fun y hy => hat y y hy) (hT.rel i)
          · unfold keepV at q
            split at q
            · exact renV_rel hf (hT.rel i) _ _ q
            · rw [← Option.some.inj q]
              exact junkOf_rel (junk_rel hf (hT.rel i))
        · rw [(cellsF_get _ _ _ _ hT2 i).2 (by omega), Tree.get_leaf, Array.getD_eq_getD_getElem?, Array.getElem?_eq_none (by rw [hT.size]; exact hi)]
          exact vflat_rel m2 8 undef rfl
      · refine ⟨hr.os, hr.tape, hr.output, hr.prot, ?_, ?_, ?_⟩
        · intro y hy
          obtain ⟨b, hb, hlive⟩ := hin y hy
          obtain ⟨l, h1, h2, h3⟩ := hr.obj b hlive
          have q := hget y b hb
          have e2 : m2 y = some l := by rw [hat y b hb]; exact h1
          refine ⟨l, e2, protOf_same (isRo_renO q).1 h2, ?_⟩
          have q2 : renO (renB S.σ s.2.lim) (S.K y) (S.R y) (S.Z y) (heldAt m2 w (some l)) (s.2.get b) = some (t.get .dead y) := by
            rw [← e2]; exact q
          refine ok_ren hf (fun hy2 c t' hct i v hv => ?_) (fun hy2 => ?_) h3 q2
          · refine hR jt jh y hy2 c t' ?_ i v hv
            rw [← Option.some.inj e]
            exact hct
          · have q5 := hZ jt jh y hy2
            rw [← Option.some.inj e] at q5
            exact q5
        · intro y y' l l' hy hy' hro h1 h2 he
          obtain ⟨b, hb, hlive⟩ := hin y hy
          obtain ⟨b', hb', hlive'⟩ := hin y' hy'
          rw [hat _ _ hb] at h1
          rw [hat _ _ hb'] at h2
          have hro' : isRo (s.2.get b') = false := by rw [← (isRo_renO (hget y' b' hb')).1]; exact hro
          have := hr.sep b b' l l' hlive hlive' hro' h1 h2 he
          subst this
          exact onceOk_inj _ ho _ _ _ hb hb'
        · intro y h1 h2
          have h1' : S.σ.length ≤ y := h1
          have h2' : y < s.2.lim := h2
          refine ⟨hout y h1', ?_⟩
          show mu2 m S.σ s.2.lim y = none
          unfold mu2
          cases e : atOf S.σ y with
          | some b => have := atOf_lt _ _ _ e; omega
          | none => dsimp only; rw [if_neg (by omega)]
    · cases e
  · cases e
theorem canonR {S : Shape} {s : Tree Value × AHeap} {m : Mu} {a : Act} {w : World} {S2 : (Nat → Value) → (Nat → Nat → Value) → Tree Value × AHeap}
    (hR : ∀ jt jh y, S.R y = true → ∀ c t, (S2 jt jh).2.get y = .ro c t → ∀ i v, c.get? i = some v → vflat 8 v = true) (hc : ∀ jt jh, canonS S G s jt jh = some (S2 jt jh)) (hT : TRel m S.n s.1 a.tmps) (hr : Rel P B m s.2 w) (hG : GRel G m) (hZ : ∀ y, S.Z y = false := by intro y; rfl) (hZT : ∀ y, S.ZT y = false := by intro y; rfl) :
    ∃ m2 jt jh, GRel G m2 ∧ TRel m2 S.n (S2 jt jh).1 a.tmps ∧ Rel P B m2 (S2 jt jh).2 w :=
  canonZ hR (fun _ _ y h => by rw [hZ y] at h; cases h) (fun _ _ y h => by rw [hZT y] at h; cases h) hc hT hr hG
theorem canon {S : Shape} {s : Tree Value × AHeap} {m : Mu} {a : Act} {w : World} {S2 : (Nat → Value) → (Nat → Nat → Value) → Tree Value × AHeap}
    (hR : ∀ y, S.R y = false) (hc : ∀ jt jh, canonS S G s jt jh = some (S2 jt jh)) (hT : TRel m S.n s.1 a.tmps) (hr : Rel P B m s.2 w) (hG : GRel G m) (hZ : ∀ y, S.Z y = false := by intro y; rfl) (hZT : ∀ y, S.ZT y = false := by intro y; rfl) :
    ∃ m2 jt jh, GRel G m2 ∧ TRel m2 S.n (S2 jt jh).1 a.tmps ∧ Rel P B m2 (S2 jt jh).2 w :=
  canonR (fun _ _ y h => by rw [hR y] at h; cases h) hc hT hr hG hZ hZT
end Go.Ab
