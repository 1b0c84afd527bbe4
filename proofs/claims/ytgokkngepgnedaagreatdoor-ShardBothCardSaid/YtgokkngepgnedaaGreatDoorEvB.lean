/- The evaluator over an abstract memory, proved sound: part 2. -/
import Derived.Test.YtgokkngepgnedaaGreatDoorEvA
import Derived.Lib.Builder
import Derived.Lib.Overlaps
import Derived.Lib.UnsafeStr
import Derived.Scope
import Derived.LoopN
namespace Go.Ab
open Go
section
variable {P : Program} {B : Base}

/-! ## One operation -/
inductive Out where
  | val (v : Value)
  | skip
  | call (f : FuncId) (args : Array Value)

def OutRel (m : Mu) : Out → Next → Prop
  | .val v, .value v' => VRel m v v'
  | .skip, .skip => True
  | .call f a, .enter f' a' => f = f' ∧ ARel m a a'
  | _, _ => False

def outV : Option (Value × AHeap) → Option (Out × AHeap)
  | some (v, h) => some (.val v, h)
  | none => none
def outU : Option (Unit × AHeap) → Option (Out × AHeap)
  | some (_, h) => some (.skip, h)
  | none => none
def outC : Option (Value × AHeap) → Option (Out × AHeap)
  | some (v, h) => if capOk v then some (.val v, h) else none
  | none => none
def flatV (v : Value) : Bool := vflat 8 v
def outP (s : Option Value) (h : AHeap) : Option (Out × AHeap) :=
  match s with
  | some v => if flatV v then some (.val v, h) else none
  | none => none

def optFlat (o : Option Value) : Bool := match o with | some v => flatV v | none => true

/-- The method behind an interface value that holds a pointer, a struct, or a struct that embeds a pointer; and what it is called on. -/
def methA (P : Program) (t : TypeId) (v : Value) (name : String) : Option (FuncId × Value) := match P.info? t with
  | some i => match i.methods.find? (·.name == name) with
    | some m => match m.path.toList, m.func, P.underlying t with
      | [], some (f, true), some (.pointer _) => some (f, v)
      | [], some (f, false), some (.struct _) => some (f, v)
      | [s], some (f, true), some (.struct _) => match s.deref, P.underlying s.struct, v with
        | false, some (.struct fs), .agg cs => match fs[s.index]? with
          | some fd => match P.underlying fd.type, cs[fd.offset]? with
            | some (.pointer _), some x => some (f, x)
            | _, _ => none
          | none => none
        | _, _, _ => none
      | _, _, _ => none
    | none => none
  | none => none
theorem run_tinfo {t : TypeId} {i : TypeInfo} {w : World} (h : P.info? t = some i) : (typeInfo t).run P w = .ok i w := by
  simp only [typeInfo, Sem.run_bind, run_program, Result.andThen_ok]
  rw [h]
  rfl
theorem methA_run {m : Mu} {t : TypeId} {name : String} {f : FuncId} {v v' x : Value} {w : World} {k : Nat} (hv : VRel m v v') (h : methA P t v name = some (f, x)) : ∃ x', VRel m x x' ∧ (method (k + 1) t v' name).run P w = .ok (f, x') w := by
  unfold methA at h
  split at h
  · rename_i i hi
    split at h
    · rename_i mt hm
      split at h
      · rename_i g pe hp hf hu
        cases h
        refine ⟨v', hv, ?_⟩
        simp only [method, Sem.run_bind, run_tinfo hi, Result.andThen_ok, hm, hp, follow, Sem.run_pure, hf, receiverAt, run_underlying hu, Place.get]
      · rename_i g pe hp hf hu
        cases h
        refine ⟨v', hv, ?_⟩
        simp only [method, Sem.run_bind, run_tinfo hi, Result.andThen_ok, hm, hp, follow, Sem.run_pure, hf, receiverAt, run_underlying hu, Place.get]
      · rename_i s g fs0 hp hf hu
        split at h
        · rename_i fs cs hd hs
          split at h
          · rename_i fd hfd
            split at h
            · rename_i pe y hpe hy
              cases h
              cases hv with
              | agg _ cs' h1 h2 =>
                obtain ⟨hlt, hyv⟩ := Array.getElem?_eq_some_iff.1 hy
                have hlt' : fd.offset < cs'.size := by omega
                refine ⟨cs'[fd.offset], hyv ▸ h2 fd.offset hlt hlt', ?_⟩
                have hpart : (part fd.type cs' fd.offset).run P w = .ok cs'[fd.offset] w := by
                  simp only [part, isAgg, Sem.run_bind, run_underlying hpe, Result.andThen_ok, Sem.run_pure, Array.getElem?_eq_getElem hlt']
                  rfl
                simp only [method, Sem.run_bind, run_tinfo hi, Result.andThen_ok, hm, hp, follow, run_underlying hs, hfd, hd, Bool.false_eq_true, if_false, hpart, Sem.run_pure, hf, receiverAt, run_underlying hpe, Place.get]
            · cases h
          · cases h
        · cases h
      · cases h
    · cases h
  · cases h
/-- The next character of a string that is ranged over. -/
def nextA (it : Value) (h : AHeap) : Option (Value × AHeap) :=
  match it with
  | .pointer (some ⟨r, 0, none⟩) =>
    match h.get r with
    | .iter s pos =>
      if Nat.blt pos s.size then
        match Utf8.decode s pos with
        | (c, width) => some (.tuple #[.bool true, goInt pos, .int .i32 c], h.put r (.iter s (pos + width)))
      else some (.tuple #[.bool false], h)
    | _ => none
  | _ => none

/-- The next entry of a map that is ranged over: of one entry at the most. -/
def nextM (it : Value) (h : AHeap) : Option (Value × AHeap) :=
  match it with
  | .pointer (some ⟨r, 0, none⟩) =>
    match h.get r with
    | .miter none _ _ _ => some (.tuple #[.bool false], h)
    | .miter (some b) since seen last => match h.get b with
      | .map es clock => match es.toList with
        | [] => some (.tuple #[.bool false], h)
        | [e] =>
          if !seen.isEmpty && Nat.ble last e.born then none
          else if seen.contains e.born then some (.tuple #[.bool false], h)
          else if Nat.blt e.born since then some (.tuple #[.bool true, e.key, e.val], h.put r (.miter (some b) since (seen.push e.born) clock))
          else none
        | _ => none
      | _ => none
    | _ => none
  | _ => none

/-- The entry that a range over a map stands at. -/
def entryA (it : Value) (h : AHeap) : Option (Value × AHeap) :=
  match it with
  | .pointer (some ⟨r, 0, none⟩) =>
    match h.get r with
    | .miter (some b) _ seen last => match h.get b with
      | .map es clock => match seen.back? with
        | some st => match Nat.beq clock last with
          | true => match es.toList.find? (fun e => e.born == st) with
            | some e => some (.tuple #[e.key, e.val], h)
            | none => none
          | false => none
        | none => none
      | _ => none
    | _ => none
  | _ => none

/-- 'clear' of a slice. -/
def clearS (ts : Array TypeId) (args : List Value) : Sem Value :=
  match ts[0]?, args with
  | some t, [.slice (some a) n _] => Go.underlying t >>= fun d => match d with
    | .slice elem => match n with
      | 0 => pure (.tuple #[])
      | k + 1 => Go.zeroValue elem >>= fun z => Go.storeCells a (Builtin.zeroCells z.cells (k + 1)).toList >>= fun _ => pure (.tuple #[])
    | _ => Go.stuck "clear"
  | _, _ => Go.stuck "clear"
theorem zeroCells_flat {m : Mu} {z : Value} (hz : vflat 8 z = true) (n : Nat) : ARel m (Builtin.zeroCells z.cells n).toList.toArray (Builtin.zeroCells z.cells n).toList.toArray := by
  have hc : ARel m z.cells z.cells := (vflat_rel m 8 z hz).cells
  rw [Array.toArray_toList]
  unfold Builtin.zeroCells
  refine ARel.map fun i hi => ?_
  have h1 : i < n * z.cells.size := by simpa using hi
  have h0 : 0 < z.cells.size := by
    rcases Nat.eq_zero_or_pos z.cells.size with h0 | h0
    · rw [h0] at h1; omega
    · exact h0
  have hlt : i % z.cells.size < z.cells.size := Nat.mod_lt _ h0
  rw [getElem!_pos z.cells _ hlt]
  exact hc.2 _ hlt hlt
theorem Sim.clear {m : Mu} (hz : ZF P) {ts : Array TypeId} {ty : TypeId} {args args' : Array Value} (ha : ARel m args args') : Sim P B m (clearS ts args.toList) (Builtin.clear_ ts ty args') (fun m' v v' => VRel m' v v') := by
  unfold clearS
  split
  case h_2 => exact Sim.halt
  rename_i t a n c hts hargs
  obtain rfl : args = #[.slice (some a) n c] := Array.ext' hargs
  obtain ⟨al⟩ := args'
  have hal : al.length = 1 := ha.1.symm
  obtain ⟨x', rfl⟩ : ∃ x', al = [x'] := by
    match al, hal with
    | [p], _ => exact ⟨p, rfl⟩
  have hv : VRel m (.slice (some a) n c) x' := ha.2 0 (by simp) (by simp)
  unfold Builtin.clear_
  rw [hts]
  simp only [List.getElem?_toArray, List.getElem?_cons_zero]
  refine Sim.free (Free.underlying t) fun d _ => ?_
  have unit : VRel m (.tuple #[]) (.tuple #[]) := .tuple _ _ rfl (fun i h => by simp at h)
  cases d <;> try exact Sim.halt
  rename_i elem _
  dsimp only
  have fin : ∀ (a a' : Addr) (k : Nat), AdRel m a a' → Sim P B m (Go.zeroValue elem >>= fun z => Go.storeCells a (Builtin.zeroCells z.cells (k + 1)).toList >>= fun _ => (Pure.pure (Value.tuple #[]) : Sem Value))
      (Go.zeroValue elem >>= fun z => Go.storeCells a' (Builtin.zeroCells z.cells (k + 1)).toList >>= fun _ => (Pure.pure (Value.tuple #[]) : Sem Value)) (fun m' v v' => VRel m' v v') := by
    intro a a' k hadr
    refine Sim.zero hz fun z hzf => ?_
    exact (Sim.storeCells hadr _ _ 0 (zeroCells_flat hzf _)).bind fun m1 hm1 _ _ _ => Sim.pure (unit.mono hm1)
  cases hv with
  | slice b o _ _ l hm hc =>
    cases n with
    | zero => exact Sim.pure unit
    | succ k => exact fin _ _ k ⟨b, o, l, rfl, hm, rfl⟩
  | oslice b o _ k l hm h1 h2 h3 =>
    cases n with
    | zero => exact Sim.pure unit
    | succ k => exact fin _ _ k ⟨b, o, l, rfl, hm, rfl⟩
  | oslice0 b o k l a hm h1 h2 => exact Sim.pure unit
  | slice0 b o a => exact Sim.pure unit

/-! ## Maps whose keys are numbers, texts or truth values -/
def nowKind : TypeDesc → Bool
  | .int _ | .string | .bool => true
  | _ => false
def structKind : TypeDesc → Bool
  | .struct _ => true
  | _ => false
/-- A key of plain parts. -/
def keyP (P : Program) (key : TypeId) (k : Value) (e : Bool) : Bool := flatV k && (match Sem.runP P (Instr.checkKey e 10000 key k) with | some _ => true | none => false)
def findP (P : Program) (key : TypeId) (k : Value) : List MapEntry → Nat → Option (Option (Nat × Value))
  | [], _ => some none
  | e :: es, i => if flatV e.key then match Sem.runP P (Op.equal key k e.key) with
    | some true => if Instr.sameBits 10000 e.key k then some (some (i, e.val)) else none
    | some false => findP P key k es (i + 1)
    | none => none
    else none
/-- Where a key is. -/
def findK (P : Program) (kd : TypeDesc) (key : TypeId) (k : Value) (e : Bool) (es : List MapEntry) : Option (Option (Nat × Value)) :=
  if nowKind kd then Instr.findNow kd k es 0 else if structKind kd && keyP P key k e then findP P key k es 0 else none
def lookTail (key elem : TypeId) (k : Value) (ok : Bool) (es : Array MapEntry) : Sem Value :=
  Go.underlying key >>= fun kd => Go.program >>= fun p =>
      match findK p kd key k es.isEmpty es.toList with
      | some (some (_, v)) => pure (if ok then .tuple #[v, .bool true] else v)
      | some none => Go.zeroValue elem >>= fun z => pure (if ok then .tuple #[z, .bool false] else z)
      | none => Go.stuck "key"
def lookupS (t : TypeId) (x k : Value) (ok : Bool) : Sem Value :=
  Go.underlying t >>= fun d => match d with
  | .map key elem => match x with
    | .map none => lookTail key elem k ok #[]
    | .map (some r) => Go.getObj r >>= fun o => match o with
      | .map es _ => lookTail key elem k ok es
      | _ => Go.stuck "map"
    | _ => Go.stuck "map"
  | _ => Go.stuck "map"
def mapUpdateS (t : TypeId) (x k v : Value) : Sem Unit :=
  Go.underlying t >>= fun d => match d with
  | .map key _ => match x with
    | .map (some r) => Go.getObj r >>= fun o => match o with
      | .map es clock => Go.underlying key >>= fun kd => Go.program >>= fun p =>
          match findK p kd key k false es.toList with
          | some (some (i, _)) => Go.setObj r (.map (es.modify i fun e => { e with key := k, val := v }) clock)
          | some none => Go.setObj r (.map (es.push { key := k, val := v, born := clock }) (clock + 1))
          | none => Go.stuck "key"
      | _ => Go.stuck "map"
    | _ => Go.stuck "map"
  | _ => Go.stuck "map"
def deleteS (t : TypeId) (x k : Value) : Sem Value :=
  Go.underlying t >>= fun d => match d with
  | .map key _ => match x with
    | .map (some r) => Go.getObj r >>= fun o => match o with
      | .map es clock => Go.underlying key >>= fun kd => Go.program >>= fun p =>
          match findK p kd key k es.isEmpty es.toList with
          | some (some (i, _)) => Go.setObj r (.map (es.eraseIdxIfInBounds i) clock) >>= fun _ => pure (.tuple #[])
          | some none => Go.setObj r (.map es clock) >>= fun _ => pure (.tuple #[])
          | none => Go.stuck "key"
      | _ => Go.stuck "map"
    | _ => Go.stuck "map"
  | _ => Go.stuck "map"

theorem Sim.right {m : Mu} {α β γ : Type} {s : Sem α} {s' : Sem γ} {f' : γ → Sem β} {c : γ} {RR : Mu → α → β → Prop} (hs : ∀ w, s'.run P w = .ok c w) (h : Sim P B m s (f' c) RR) : Sim P B m s (s' >>= f') RR := by
  intro hp w hr a h' he
  obtain ⟨b, w', m', h1, h2⟩ := h hp w hr a h' he
  exact ⟨b, w', m', by rw [Sem.run_bind, hs]; exact h1, h2⟩
theorem sameNow_rel {m : Mu} {kd : TypeDesc} {k k' x x' : Value} {b : Bool} (hk : VRel m k k') (hx : VRel m x x') (h : Instr.sameNow kd k x = some b) : Instr.sameNow kd k' x' = some b := by
  unfold Instr.sameNow at h
  split at h
  · cases hk; cases hx; exact h
  · cases hk; cases hx; exact h
  · cases hk; cases hx; exact h
  · cases h
theorem findNow_rel {m : Mu} {kd : TypeDesc} {k k' : Value} (hk : VRel m k k') : ∀ (l l' : List MapEntry) (i : Nat) (r : Option (Nat × Value)), l.length = l'.length → (∀ j (h : j < l.length) (h' : j < l'.length), ERel m l[j] l'[j]) →
    Instr.findNow kd k l i = some r →
    (r = none ∧ Instr.findNow kd k' l' i = some none) ∨ (∃ j v e' , r = some (j, v) ∧ i ≤ j ∧ l'[j - i]? = some e' ∧ Instr.sameNow kd k' e'.key = some true ∧ VRel m v e'.val ∧ Instr.findNow kd k' l' i = some (some (j, e'.val))) := by
  intro l
  induction l with
  | nil =>
    intro l' i r hl _ h
    cases l' with
    | nil => simp only [Instr.findNow, Option.some.injEq] at h; exact .inl ⟨h.symm, rfl⟩
    | cons => simp at hl
  | cons e l ih =>
    intro l' i r hl hall h
    cases l' with
    | nil => simp at hl
    | cons e' l' =>
      have h0 := hall 0 (by simp) (by simp)
      simp only [List.getElem_cons_zero] at h0
      simp only [Instr.findNow] at h
      split at h
      · rename_i hs
        have hs' := sameNow_rel hk h0.1 hs
        obtain rfl := Option.some.inj h
        exact .inr ⟨i, e.val, e', rfl, Nat.le_refl _, by simp, hs', h0.2.1, by simp [Instr.findNow, hs']⟩
      · rename_i hs
        have hs' := sameNow_rel hk h0.1 hs
        rcases ih l' (i + 1) r (by simpa using hl) (fun j a b => by have := hall (j + 1) (by simp; omega) (by simp; omega); simpa using this) h with ⟨h1, h2⟩ | ⟨j, v, f', h1, h2, h3, h4, h5, h6⟩
        · exact .inl ⟨h1, by simp only [Instr.findNow, hs']; exact h2⟩
        · refine .inr ⟨j, v, f', h1, by omega, ?_, h4, h5, by simp only [Instr.findNow, hs']; exact h6⟩
          rw [show j - i = (j - (i + 1)) + 1 by omega]
          simpa using h3
      · cases h
theorem run_checkKey {kd : TypeDesc} {key : TypeId} {e : Bool} {n : Nat} {v : Value} (hu : P.underlying key = some kd) (hk : nowKind kd = true) (w : World) : (Instr.checkKey e (n + 1) key v).run P w = .ok () w := by
  unfold Instr.checkKey
  rw [Sem.run_bind, run_underlying hu]
  simp only [Result.andThen_ok]
  cases kd <;> first | rfl | cases hk
theorem run_findKey {kd : TypeDesc} {key : TypeId} {k : Value} {es : List MapEntry} {r : Option (Nat × Value)} (hu : P.underlying key = some kd) (h : Instr.findNow kd k es 0 = some r) (w : World) : (Instr.findKey key k es).run P w = .ok r w := by
  unfold Instr.findKey
  rw [Sem.run_bind, run_underlying hu]
  simp only [Result.andThen_ok, h]
  rfl
theorem Sim.left {m : Mu} {α β γ : Type} {s : Sem γ} {f : γ → Sem α} {s' : Sem β} {RR : Mu → α → β → Prop} (hf : Free P s) (k : ∀ c, (∀ w, s.run P w = .ok c w) → Sim P B m (f c) s' RR) : Sim P B m (s >>= f) s' RR := by
  intro hp w hr a h' he
  cases h1 : s.runA P hp with
  | none => rw [runA_bind_none h1] at he; cases he
  | some r =>
    obtain ⟨x, h2⟩ := r
    rw [runA_bind_some h1] at he
    obtain ⟨rfl, hw⟩ := hf hp x h2 h1
    exact k x hw _ w hr a h' he
theorem Sim.bindPure {m : Mu} {α β γ : Type} {s : Sem α} {c : γ} {f' : γ → Sem β} {RR : Mu → α → β → Prop} (h : Sim P B m s (f' c) RR) : Sim P B m s (Pure.pure c >>= f') RR := Sim.right (fun _ => rfl) h
theorem und_of_run {key : TypeId} {kd : TypeDesc} (h : ∀ w, (Go.underlying key).run P w = .ok kd w) (w : World) : P.underlying key = some kd := by
  have := h w
  unfold Go.underlying at this
  rw [Sem.run_bind] at this
  simp only [Go.program, Sem.run, Result.andThen_ok] at this
  cases hu : P.underlying key with
  | none => rw [hu] at this; simp [Go.stuck] at this
  | some d => rw [hu] at this; simp at this; rw [this]

theorem Sim.world {m : Mu} {α β : Type} {s : Sem α} {s' : Sem β} {RR : Mu → α → β → Prop} (h : ∀ _ : World, Sim P B m s s' RR) : Sim P B m s s' RR := fun hp w hr a h' he => h w hp w hr a h' he
theorem pair_rel {m : Mu} {ok b : Bool} {v v' : Value} (h : VRel m v v') : VRel m (if ok then .tuple #[v, .bool b] else v) (if ok then .tuple #[v', .bool b] else v') := by
  cases ok
  · exact h
  · refine .tuple _ _ rfl fun i h1 h2 => ?_
    match i, h1, h2 with
    | 0, _, _ => exact h
    | 1, _, _ => exact .bool _
theorem sameBits_of_now {kd : TypeDesc} {k x : Value} (h : Instr.sameNow kd k x = some true) (n : Nat) : Instr.sameBits n x k = true := by
  unfold Instr.sameNow at h
  split at h
  · split at h
    · rename_i e
      simp only [Option.some.injEq, beq_iff_eq] at h
      subst e; subst h
      cases n <;> simp [Instr.sameBits]
    · cases h
  · rename_i a b
    have h1 : (a == b) = true := Option.some.inj h
    have h2 : a = b := by
      cases a; cases b
      rename_i a b
      have h3 : (a == b) = true := h1
      rw [eq_of_beq h3]
    subst h2
    cases n <;> exact h1
  · simp only [Option.some.injEq, beq_iff_eq] at h
    subst h
    cases n <;> simp [Instr.sameBits]
  · cases h
theorem flat_eqK {m : Mu} {v v' : Value} (h : VRel m v v') (hf : flatV v = true) : v' = v := h.of_flat 8 hf
theorem findP_rel {m : Mu} {key : TypeId} {k : Value} : ∀ (l l' : List MapEntry) (i : Nat) (r : Option (Nat × Value)), l.length = l'.length → (∀ j (h : j < l.length) (h' : j < l'.length), ERel m l[j] l'[j]) →
    findP P key k l i = some r →
    (r = none ∧ ∀ w, (Instr.findAsking key k l' i).run P w = .ok none w) ∨ (∃ j v e' , r = some (j, v) ∧ i ≤ j ∧ l'[j - i]? = some e' ∧ Instr.sameBits 10000 e'.key k = true ∧ VRel m v e'.val ∧ ∀ w, (Instr.findAsking key k l' i).run P w = .ok (some (j, e'.val)) w) := by
  intro l
  induction l with
  | nil =>
    intro l' i r hl _ h
    cases l' with
    | nil => simp only [findP, Option.some.injEq] at h; exact .inl ⟨h.symm, fun w => rfl⟩
    | cons => simp at hl
  | cons e l ih =>
    intro l' i r hl hall h
    cases l' with
    | nil => simp at hl
    | cons e' l' =>
      have h0 := hall 0 (by simp) (by simp)
      simp only [List.getElem_cons_zero] at h0
      simp only [findP] at h
      split at h
      case isFalse => cases h
      rename_i hf
      have hk : e'.key = e.key := flat_eqK h0.1 hf
      split at h
      · rename_i hs
        split at h
        case isFalse => cases h
        rename_i hb
        obtain rfl := Option.some.inj h
        refine .inr ⟨i, e.val, e', rfl, Nat.le_refl _, by simp, by rw [hk]; exact hb, h0.2.1, fun w => ?_⟩
        unfold Instr.findAsking
        rw [hk, Sem.run_bind, runP_run hs]
        rfl
      · rename_i hs
        have step : ∀ w, (Instr.findAsking key k (e' :: l') i).run P w = (Instr.findAsking key k l' (i + 1)).run P w := by
          intro w
          conv => lhs; unfold Instr.findAsking
          rw [hk, Sem.run_bind, runP_run hs]
          rfl
        rcases ih l' (i + 1) r (by simpa using hl) (fun j a b => by have := hall (j + 1) (by simp; omega) (by simp; omega); simpa using this) h with ⟨h1, h2⟩ | ⟨j, v, f', h1, h2, h3, h4, h5, h6⟩
        · exact .inl ⟨h1, fun w => by rw [step]; exact h2 w⟩
        · refine .inr ⟨j, v, f', h1, by omega, ?_, h4, h5, fun w => by rw [step]; exact h6 w⟩
          rw [show j - i = (j - (i + 1)) + 1 by omega]
          simpa using h3
      · cases h
theorem run_findStruct {kd : TypeDesc} {key : TypeId} {k : Value} {es : List MapEntry} (hu : P.underlying key = some kd) (hs : structKind kd = true) (w : World) : (Instr.findKey key k es).run P w = (Instr.findAsking key k es).run P w := by
  unfold Instr.findKey
  rw [Sem.run_bind, run_underlying hu]
  simp only [Result.andThen_ok]
  cases es with
  | nil => rfl
  | cons e es =>
    have : Instr.findNow kd k (e :: es) 0 = none := by
      cases kd <;> first | rfl | cases hs
    rw [this]
theorem findK_rel {m : Mu} {kd : TypeDesc} {key : TypeId} {k k' : Value} {e : Bool} {l l' : List MapEntry} {r : Option (Nat × Value)} (hu : P.underlying key = some kd) (hk : VRel m k k') (hl : l.length = l'.length) (hall : ∀ j (h : j < l.length) (h' : j < l'.length), ERel m l[j] l'[j])
    (h : findK P kd key k e l = some r) : (∀ w, (Instr.checkKey e 10000 key k').run P w = .ok () w) ∧
    ((r = none ∧ ∀ w, (Instr.findKey key k' l').run P w = .ok none w) ∨ (∃ j v e' , r = some (j, v) ∧ l'[j]? = some e' ∧ Instr.sameBits 10000 e'.key k' = true ∧ VRel m v e'.val ∧ ∀ w, (Instr.findKey key k' l').run P w = .ok (some (j, e'.val)) w)) := by
  unfold findK at h
  split at h
  · rename_i hn
    refine ⟨fun w => run_checkKey hu hn w, ?_⟩
    rcases findNow_rel hk l l' 0 r hl hall h with ⟨rfl, q⟩ | ⟨j, v, f', rfl, _, h3, h4, h5, q⟩
    · exact .inl ⟨rfl, fun w => run_findKey hu q w⟩
    · exact .inr ⟨j, v, f', rfl, by simpa using h3, sameBits_of_now h4 _, h5, fun w => run_findKey hu q w⟩
  · split at h
    · rename_i hs
      simp only [Bool.and_eq_true, keyP] at hs
      obtain ⟨hs, hf, hc⟩ := hs
      obtain rfl : k' = k := flat_eqK hk hf
      refine ⟨fun w => ?_, ?_⟩
      · split at hc
        · rename_i u hu2; exact runP_run hu2 w
        · cases hc
      · rcases findP_rel l l' 0 r hl hall h with ⟨rfl, q⟩ | ⟨j, v, f', rfl, _, h3, h4, h5, q⟩
        · exact .inl ⟨rfl, fun w => by rw [run_findStruct hu hs]; exact q w⟩
        · exact .inr ⟨j, v, f', rfl, by simpa using h3, h4, h5, fun w => by rw [run_findStruct hu hs]; exact q w⟩
    · cases h
theorem empty_eq {α β : Type} {a : Array α} {b : Array β} (h : a.size = b.size) : a.isEmpty = b.isEmpty := by
  simp only [Array.isEmpty, h]
theorem prog_of_run {p : Program} (h : ∀ w, Go.program.run P w = .ok p w) (w : World) : p = P := by
  have := h w
  simp only [Go.program, Sem.run, Result.ok.injEq] at this
  exact this.1.symm
theorem Sim.tailOfLook {m : Mu} (hz : ZF P) {k k' : Value} (hk : VRel m k k') (key elem : TypeId) (ok : Bool) {es es' : Array MapEntry} (h1 : es.size = es'.size) (h2 : ∀ i (h : i < es.size) (h' : i < es'.size), ERel m es[i] es'[i]) :
    Sim P B m (lookTail key elem k ok es) (Instr.checkKey es'.isEmpty 10000 key k' >>= fun _ => Instr.findKey key k' es'.toList >>= fun r => match r with
      | some (_, v) => Pure.pure (v, true) >>= fun x => Pure.pure (if ok then .tuple #[x.1, .bool x.2] else x.1)
      | none => Go.zeroValue elem >>= fun z => Pure.pure (z, false) >>= fun x => Pure.pure (if ok then .tuple #[x.1, .bool x.2] else x.1)) (fun m' v v' => VRel m' v v') := by
  refine Sim.world fun w0 => ?_
  unfold lookTail
  refine Sim.left (Free.underlying key) fun kd hkd => ?_
  have hu := und_of_run hkd w0
  refine Sim.left Free.program fun p hp => ?_
  obtain rfl := prog_of_run hp w0
  cases hf : findK p kd key k es.isEmpty es.toList with
  | none => exact Sim.halt
  | some r =>
    rw [empty_eq h1] at hf
    obtain ⟨c1, c2⟩ := findK_rel (l' := es'.toList) hu hk (by rw [Array.length_toList, Array.length_toList]; exact h1) (fun j a b => by simpa using h2 j (by simpa using a) (by simpa using b)) hf
    refine Sim.right c1 ?_
    rcases c2 with ⟨rfl, q⟩ | ⟨j, v, f', rfl, _, _, hv, q⟩
    · refine Sim.right q ?_
      dsimp only
      exact Sim.zero hz fun z hzf => Sim.bindPure (Sim.pure (pair_rel (vflat_rel m 8 z hzf)))
    · refine Sim.right q ?_
      dsimp only
      exact Sim.bindPure (Sim.pure (pair_rel hv))
theorem Sim.lookup {m : Mu} (hz : ZF P) {x x' k k' : Value} (hx : VRel m x x') (hk : VRel m k k') (t : TypeId) (ok : Bool) : Sim P B m (lookupS t x k ok) (Instr.lookup t x' k' ok) (fun m' v v' => VRel m' v v') := by
  unfold lookupS Instr.lookup
  refine Sim.free (Free.underlying t) fun d hd => ?_
  cases d <;> try exact Sim.halt
  rename_i key elem
  dsimp only
  cases hx <;> try exact Sim.halt
  · exact Sim.bindPure (Sim.tailOfLook hz hk key elem ok rfl fun i h => by simp at h)
  · rename_i b l hm
    refine (Sim.getObj hm).bind fun m1 hm1 o o' ho => ?_
    cases o with
    | map es c => obtain ⟨es', rfl, h1, h2⟩ := ho; exact Sim.bindPure (Sim.tailOfLook hz (hk.mono hm1) key elem ok h1 h2)
    | _ => exact Sim.halt
theorem Sim.mapUpdate {m : Mu} {x x' k k' v v' : Value} (hx : VRel m x x') (hk : VRel m k k') (hv : VRel m v v') (t : TypeId) : Sim P B m (mapUpdateS t x k v) (Instr.mapUpdate t x' k' v') (fun _ _ _ => True) := by
  refine Sim.world fun w0 => ?_
  unfold mapUpdateS Instr.mapUpdate
  refine Sim.free (Free.underlying t) fun d hd => ?_
  cases d <;> try exact Sim.halt
  rename_i key elem
  dsimp only
  cases hx <;> try exact Sim.halt
  rename_i b l hm
  dsimp only
  refine (Sim.getObj hm).bind fun m1 hm1 o o' ho => ?_
  cases o with
  | map es c =>
    obtain ⟨es', rfl, h1, h2⟩ := ho
    dsimp only
    refine Sim.left (Free.underlying key) fun kd hkd => ?_
    have hu := und_of_run hkd w0
    refine Sim.left Free.program fun p hp => ?_
    obtain rfl := prog_of_run hp w0
    have hk1 := hk.mono hm1
    have hv1 := hv.mono hm1
    cases hf : findK p kd key k false es.toList with
    | none => exact Sim.halt
    | some r =>
      obtain ⟨c1, c2⟩ := findK_rel (l' := es'.toList) hu hk1 (by rw [Array.length_toList, Array.length_toList]; exact h1) (fun j a b => by simpa using h2 j (by simpa using a) (by simpa using b)) hf
      refine Sim.right c1 ?_
      rcases c2 with ⟨rfl, q⟩ | ⟨j, u, f', rfl, hj, hs, hu2, q⟩
      · refine Sim.right q ?_
        dsimp only
        refine Sim.setObj (hm1 _ _ hm) ⟨_, rfl, by simp [h1], fun i a b => ?_⟩
        by_cases c : i < es.size
        · rw [Array.getElem_push_lt c, Array.getElem_push_lt (by omega)]
          exact h2 i c (by omega)
        · have : i = es.size := by simp at a; omega
          subst this
          simp only [Array.getElem_push_eq]
          rw [Array.getElem_push, dif_neg (by omega)]
          exact ⟨hk1, hv1, rfl⟩
      · refine Sim.right q ?_
        dsimp only
        have hks : ∀ w, (Instr.keyThatStays ((Option.map (fun x => x.key) es'[j]?).getD k') k').run p w = .ok k' w := by
          intro w
          have hj' : es'[j]? = some f' := by simpa using hj
          rw [hj']
          unfold Instr.keyThatStays
          simp only [Option.map_some, Option.getD_some]
          rw [if_pos hs]
          rfl
        refine Sim.right hks ?_
        refine Sim.setObj (hm1 _ _ hm) ⟨_, rfl, by simp [h1], fun i a b => ?_⟩
        rw [Array.getElem_modify, Array.getElem_modify]
        have h3 := h2 i (by simpa using a) (by simpa using b)
        split
        · exact ⟨hk1, hv1, h3.2.2⟩
        · exact h3
  | _ => exact Sim.halt
theorem Sim.delete {m : Mu} {x x' k k' : Value} (hx : VRel m x x') (hk : VRel m k k') (t ty : TypeId) {ts : Array TypeId} {args : Array Value} (h0 : ts[0]? = some t) (h1 : args[0]? = some x') (h2 : args[1]? = some k') : Sim P B m (deleteS t x k) (Builtin.delete_ ts ty args) (fun m' v v' => VRel m' v v') := by
  refine Sim.world fun w0 => ?_
  unfold deleteS Builtin.delete_
  rw [h0, h1, h2]
  dsimp only
  refine Sim.free (Free.underlying t) fun d hd => ?_
  cases d <;> try exact Sim.halt
  rename_i key elem
  dsimp only
  cases hx <;> try exact Sim.halt
  rename_i b l hm
  dsimp only
  refine (Sim.getObj hm).bind fun m1 hm1 o o' ho => ?_
  cases o with
  | map es c =>
    obtain ⟨es', rfl, h1, h2⟩ := ho
    dsimp only
    refine Sim.left (Free.underlying key) fun kd hkd => ?_
    have hu := und_of_run hkd w0
    refine Sim.left Free.program fun p hp => ?_
    obtain rfl := prog_of_run hp w0
    have hk1 := hk.mono hm1
    have unit_rel : ∀ m', VRel m' (.tuple #[]) (.tuple #[]) := fun m' => .tuple _ _ rfl (fun i h => by simp at h)
    cases hf : findK p kd key k es.isEmpty es.toList with
    | none => exact Sim.halt
    | some r =>
      rw [empty_eq h1] at hf
      obtain ⟨c1, c2⟩ := findK_rel (l' := es'.toList) hu hk1 (by rw [Array.length_toList, Array.length_toList]; exact h1) (fun j a b => by simpa using h2 j (by simpa using a) (by simpa using b)) hf
      refine Sim.right c1 ?_
      rcases c2 with ⟨rfl, q⟩ | ⟨j, u, f', rfl, hj, hs, hu2, q⟩
      · refine Sim.right q ?_
        dsimp only
        have hset : Sim p B m1 (Go.setObj b (.map es c)) (Go.setObj l.blk (.map es' c)) (fun _ _ _ => True) := Sim.setObj (hm1 _ _ hm) ⟨_, rfl, h1, h2⟩
        exact hset.bind fun m2 _ _ _ _ => Sim.pure (unit_rel m2)
      · refine Sim.right q ?_
        dsimp only
        have hset : Sim p B m1 (Go.setObj b (.map (es.eraseIdxIfInBounds j) c)) (Go.setObj l.blk (.map (es'.eraseIdxIfInBounds j) c)) (fun _ _ _ => True) := by
          refine Sim.setObj (hm1 _ _ hm) ⟨_, rfl, ?_, fun i a b => ?_⟩
          · simp only [Array.eraseIdxIfInBounds, h1]; split <;> simp [h1]
          · revert a b
            simp only [Array.eraseIdxIfInBounds, h1]
            split
            · intro a b
              rw [Array.getElem_eraseIdx, Array.getElem_eraseIdx]
              simp only [Array.size_eraseIdx] at a b
              split
              · exact h2 i (by omega) (by omega)
              · exact h2 (i + 1) (by omega) (by omega)
            · intro a b
              exact h2 i a b
        exact hset.bind fun m2 _ _ _ _ => Sim.pure (unit_rel m2)
  | _ => exact Sim.halt

/-! ## Unsafe pointers, as strings.Builder uses them -/
def unsafeA (P : Program) (src dst : TypeId) (v : Value) (h : AHeap) : Option Value :=
  match v with
  | .pointer (some ⟨b, o, none⟩) =>
    match h.get b, P.underlying src, P.underlying dst with
    | .cells c _, some (.pointer t), some .unsafePointer =>
      match P.info? t with
      | some j => if !Nat.beq j.size 0 && Nat.blt o c.len then some v else none
      | none => none
    | .cells c e, some .unsafePointer, some (.pointer u) =>
      match P.info? u with
      | some j => if Nat.beq e u && !Nat.beq j.size 0 && Nat.beq (o % j.size) 0 && Nat.ble (o + j.size) c.len then some v else none
      | none => none
    | _, _, _ => none
  | _ => none
theorem liesAt_self {e : TypeId} {off count : Nat} (hs : P.cellsOf e ≠ 0) (h0 : off % P.cellsOf e = 0) (h1 : off / P.cellsOf e + 1 ≤ count) : liesAt P P.depth e count off e 1 = true := by
  have hd : P.depth = (2 * (P.types.size + Made.depth) + 1) + 1 := rfl
  rw [hd]
  simp only [liesAt, Bool.or_eq_true]
  left
  rw [hd]
  simp [rowAt, hs, h0, h1, sameLayout]
theorem unsafeA_sound {m : Mu} {h : AHeap} {w : World} (hr : Rel P B m h w) {src dst : TypeId} {v v' r : Value} (hx : VRel m v v') (he : unsafeA P src dst v h = some r) : r = v ∧ (convert src dst v').run P w = .ok v' w := by
  unfold unsafeA at he
  split at he <;> try (cases he; done)
  rename_i b o
  generalize hv : Value.pointer (some ⟨b, o, none⟩) = v0 at hx
  cases hx <;> try (cases hv; done)
  rename_i b1 o1 l hm
  cases hv
  split at he <;> try (cases he; done)
  · rename_i c e t hb hs hd
    split at he <;> try (cases he; done)
    rename_i j hj
    split at he <;> try (cases he; done)
    rename_i hc
    simp only [Bool.and_eq_true, Bool.not_eq_true', Nat.blt_eq] at hc
    obtain rfl := Option.some.inj he
    obtain ⟨l', hl', _, hok⟩ := hr.obj b (by rw [hb]; intro h; cases h)
    obtain rfl : l = l' := by rw [hm] at hl'; exact Option.some.inj hl'
    rw [hb] at hok
    obtain ⟨C, fr, k1, k2, k3, k4, k5⟩ := hok
    have hz : j.size ≠ 0 := by intro h; rw [h] at hc; simp at hc
    exact ⟨rfl, Lib.run_to_unsafe (e := e) (cells := C.size) w ⟨l.blk, l.off + o, none⟩ hs hd hj hz (by simp [World.shape?, k1]) (by show l.off + o < C.size; omega)⟩
  · rename_i c e u hb hs hd
    split at he <;> try (cases he; done)
    rename_i j hj
    split at he <;> try (cases he; done)
    rename_i hc
    simp only [Bool.and_eq_true, Bool.not_eq_true', Nat.beq_eq, Nat.ble_eq] at hc
    obtain ⟨⟨⟨rfl, hz0⟩, hmod⟩, hle⟩ := hc
    obtain rfl := Option.some.inj he
    obtain ⟨l', hl', _, hok⟩ := hr.obj b (by rw [hb]; intro h; cases h)
    obtain rfl : l = l' := by rw [hm] at hl'; exact Option.some.inj hl'
    rw [hb] at hok
    obtain ⟨C, fr, k1, k2, k3, k4, k5⟩ := hok
    have hz : j.size ≠ 0 := by intro h; rw [h] at hz0; simp at hz0
    have hcs : P.cellsOf e = j.size := by unfold Program.cellsOf; rw [hj]; rfl
    have h0 : (l.off + o) % j.size = 0 := by rw [Nat.add_mod, (k5 j.size (by rw [hj]; rfl)).2.1, hmod]; simp
    refine ⟨rfl, Lib.run_from_unsafe (e := e) (cells := C.size) w ⟨l.blk, l.off + o, none⟩ hs hd hj (by simp [World.shape?, k1]) ?_⟩
    refine liesAt_self (by rw [hcs]; exact hz) (by rw [hcs]; exact h0) ?_
    rw [hcs]
    show (l.off + o) / j.size + 1 ≤ C.size / j.size
    have : (l.off + o + j.size) / j.size ≤ C.size / j.size := Nat.div_le_div_right (by omega)
    rwa [Nat.add_div_right _ (Nat.pos_of_ne_zero hz)] at this

/-- Two pointers into one block. -/
def ptrEqA (P : Program) (op : BinOp) (t : TypeId) (x y : Value) : Option Value :=
  match P.underlying t, x, y with
  | some (.pointer e), .pointer (some ⟨b, o, none⟩), .pointer (some ⟨b', o', none⟩) =>
    match P.info? e with
    | some j =>
      if Nat.beq b b' && !Nat.beq j.size 0 then
        match op with
        | .eql => some (.bool (Nat.beq o o'))
        | .neq => some (.bool (!Nat.beq o o'))
        | _ => none
      else none
    | none => none
  | _, _, _ => none
theorem ptrEqA_sound {m : Mu} {op : BinOp} {t : TypeId} {x x' y y' v : Value} {a b : Operand} (hx : VRel m x x') (hy : VRel m y y') (he : ptrEqA P op t x y = some v) (w : World) :
    (do eqGuard op t a b x' y'; binOp op t x' y' : Sem Value).run P w = .ok v w ∧ VRel m v v := by
  unfold ptrEqA at he
  split at he <;> try (cases he; done)
  rename_i e b1 o1 b2 o2 ht
  split at he <;> try (cases he; done)
  rename_i j hj
  split at he <;> try (cases he; done)
  rename_i hc
  simp only [Bool.and_eq_true, Bool.not_eq_true', Nat.beq_eq] at hc
  obtain ⟨rfl, hz0⟩ := hc
  have hz : j.size ≠ 0 := by intro h; rw [h] at hz0; simp at hz0
  generalize hv1 : Value.pointer (some ⟨b1, o1, none⟩) = v1 at hx
  generalize hv2 : Value.pointer (some ⟨b1, o2, none⟩) = v2 at hy
  cases hx <;> try (cases hv1; done)
  rename_i b3 o3 l hm
  cases hv1
  cases hy <;> try (cases hv2; done)
  rename_i b4 o4 l2 hm2
  cases hv2
  obtain rfl : l = l2 := by rw [hm] at hm2; exact Option.some.inj hm2
  have hq : ∀ d, (Op.equalIn (d + 1) t (.pointer (some ⟨l.blk, l.off + o1, none⟩)) (.pointer (some ⟨l.blk, l.off + o2, none⟩))).run P w = .ok (Nat.beq o1 o2) w := by
    intro d
    have hs := run_sizeOf' (P := P) hj w
    have hbe : ((⟨l.blk, l.off + o1, none⟩ : Addr) == ⟨l.blk, l.off + o2, none⟩) = Nat.beq o1 o2 := by
      rw [Bool.eq_iff_iff]
      simp
    simp only [Op.equalIn, Sem.run_bind, run_underlying ht, Result.andThen_ok, hs]
    rw [if_pos hz]
    unfold sameAddr
    simp [hbe]
  have hq2 : (Op.equal t (.pointer (some ⟨l.blk, l.off + o1, none⟩)) (.pointer (some ⟨l.blk, l.off + o2, none⟩))).run P w = .ok (Nat.beq o1 o2) w := hq 9999
  have hg : ∀ op, (eqGuard op t a b (.pointer (some ⟨l.blk, l.off + o1, none⟩)) (.pointer (some ⟨l.blk, l.off + o2, none⟩))).run P w = .ok () w := by
    intro op
    unfold eqGuard
    split <;> rfl
  split at he
  · obtain rfl := Option.some.inj he
    exact ⟨by simp only [binOp, Sem.run_bind, hg, hq2, Result.andThen_ok, Sem.run_pure], .bool _⟩
  · obtain rfl := Option.some.inj he
    exact ⟨by simp only [binOp, Sem.run_bind, hg, hq2, Result.andThen_ok, Sem.run_pure], .bool _⟩
  · cases he
theorem liesAt_row {e : TypeId} {off count n : Nat} (hs : P.cellsOf e ≠ 0) (h0 : off % P.cellsOf e = 0) (h1 : off / P.cellsOf e + n ≤ count) : liesAt P P.depth e count off e n = true := by
  have hd : P.depth = (2 * (P.types.size + Made.depth) + 1) + 1 := rfl
  rw [hd]
  simp only [liesAt, Bool.or_eq_true]
  left
  rw [hd]
  simp [rowAt, hs, h0, h1, sameLayout]
def exactBytes : List Value → Option (List UInt8)
  | [] => some []
  | .int .u8 (.ofNat k) :: rest => if Nat.blt k 256 then
      match exactBytes rest with
      | some l => some (UInt8.ofNat k :: l)
      | none => none
    else none
  | _ :: _ => none
theorem exactBytes_spec : ∀ (c : List Value) (l : List UInt8), exactBytes c = some l → l.length = c.length ∧ ∀ (j : Nat) (x : UInt8), l[j]? = some x → c[j]? = some (Value.int .u8 (x.toNat : Int)) := by
  intro c
  induction c with
  | nil => intro l h; simp only [exactBytes, Option.some.injEq] at h; subst h; exact ⟨rfl, fun j x hx => by simp at hx⟩
  | cons v c ih =>
    intro l h
    unfold exactBytes at h
    split at h
    · rename_i e; cases e
    · rename_i k rest e
      cases e
      split at h
      · rename_i hk
        split at h
        · rename_i l0 hl0
          obtain rfl := Option.some.inj h
          obtain ⟨i1, i2⟩ := ih l0 hl0
          refine ⟨by simp [i1], fun j x hx => ?_⟩
          cases j with
          | zero =>
            simp only [List.getElem?_cons_zero, Option.some.injEq] at hx
            subst hx
            rw [Nat.blt_eq] at hk
            have e : (UInt8.ofNat k).toNat = k := by
              rw [UInt8.toNat_ofNat']
              exact Nat.mod_eq_of_lt hk
            simp [e]
          | succ j => simpa using i2 j x (by simpa using hx)
        · cases h
      · cases h
    · cases h
def unsafeStrA (P : Program) (ts : Array TypeId) (args : List Value) (h : AHeap) : Option (Value × AHeap) :=
  match ts[0]?, args with
  | some pt, [.pointer (some ⟨b, o, none⟩), .int .i64 (.ofNat n)] =>
    match P.underlying pt, h.get b with
    | some (.pointer e), .cells c t =>
      match P.info? e with
      | some j =>
        if (Nat.beq e t && Nat.beq j.size 1) && (!Nat.beq n 0 && Nat.ble (o + n) c.len) && Nat.blt n (2 ^ 62) then
          match exactBytes (c.part o n) with
          | some l => some (.string ⟨⟨l⟩⟩, h.put b .dead)
          | none => none
        else none
      | none => none
    | _, _ => none
  | _, _ => none
theorem run_unsafeString_at {w : World} {ts : Array TypeId} {pt ty e : TypeId} (hts : ts[0]? = some pt) (hp : P.underlying pt = some (.pointer e)) (hc : P.cellsOf e = 1) {a : Addr} {cells : Nat} (hsh : w.shape? a.block = some (e, cells)) (l : List UInt8) (h0 : l ≠ []) (hn : a.off + l.length ≤ cells) (h63 : l.length ≤ 9223372036854775807)
    (hcell : ∀ j x, l[j]? = some x → w.cell? (a.add j) = some (.int .u8 x.toNat)) :
    (Builtin.unsafeString_ ts ty #[.pointer (some a), .int .i64 l.length]).run P w = .ok (.string ⟨l.toArray⟩) (w.freeze a l.length) := by
  have hl : l.length ≠ 0 := by simpa using h0
  have hlb := Lib.run_loadBytes (P := P) w l a .empty hcell
  have hlies := liesAt_row (P := P) (e := e) (off := a.off) (count := cells / P.cellsOf e) (n := l.length) (by rw [hc]; decide) (by rw [hc]; exact Nat.mod_one _) (by rw [hc]; simpa using hn)
  have h63' : ¬ (9223372036854775807 : Int) < (l.length : Int) := by omega
  have hdef : Builtin.unsafeString_ ts ty #[.pointer (some a), .int .i64 l.length] =
      (do
        let n ← asInt (.int .i64 l.length)
        let some pt := ts[0]? | stuck "unsafe.String: no argument types"
        if n < 0 then runtimePanic (.error "unsafe.String: len out of range")
        if n > IntKind.i64.max then unsupported (.unsafePointer "String: a length above the largest int")
        if n = 0 then pure (.string .empty)
        else if ← variablesAt a (← elemOf pt) n.toNat then do
          let s ← loadBytes a .empty n.toNat
          freeze a n.toNat
          pure (.string s)
        else unsupported (.unsafePointer "String: not so many bytes at ptr")) := rfl
  rw [hdef, hts]
  have hmax : IntKind.i64.max = 9223372036854775807 := rfl
  have hneg : ¬ (l.length : Int) < 0 := by omega
  simp [asInt, asIntOf, hmax, h63', hneg, hl, variablesAt, hsh, elemOf, run_underlying hp, hlies, hlb]
theorem unsafeStrA_sound {m : Mu} {h h2 : AHeap} {w : World} (hr : Rel P B m h w) {ts : Array TypeId} {ty : TypeId} {args args' : Array Value} {r : Value} (ha : ARel m args args') (he : unsafeStrA P ts args.toList h = some (r, h2)) :
    ∃ w', (Builtin.unsafeString_ ts ty args').run P w = .ok r w' ∧ Rel P B m h2 w' ∧ VRel m r r := by
  unfold unsafeStrA at he
  split at he <;> try (cases he; done)
  rename_i pt b o n hts hargs
  split at he <;> try (cases he; done)
  rename_i e c t hp hb
  split at he <;> try (cases he; done)
  rename_i j hj
  split at he <;> try (cases he; done)
  rename_i hc
  simp only [Bool.and_eq_true, Bool.not_eq_true', Nat.beq_eq, Nat.ble_eq, Nat.blt_eq] at hc
  obtain ⟨⟨⟨rfl, hs1⟩, hn0, hle⟩, hlim⟩ := hc
  split at he <;> try (cases he; done)
  rename_i l hl
  simp only [Option.some.injEq, Prod.mk.injEq] at he
  obtain ⟨rfl, rfl⟩ := he
  obtain ⟨s1, s2⟩ := exactBytes_spec _ _ hl
  have hlen : l.length = n := by rw [s1, Row.part_length]
  have hz : n ≠ 0 := by intro h; rw [h] at hn0; simp at hn0
  obtain rfl : args = #[.pointer (some ⟨b, o, none⟩), .int .i64 (.ofNat n)] := Array.ext' hargs
  obtain ⟨al⟩ := args'
  have hal : al.length = 2 := ha.1.symm
  obtain ⟨x0, x1, rfl⟩ : ∃ x0 x1, al = [x0, x1] := by
    match al, hal with
    | [p, q], _ => exact ⟨p, q, rfl⟩
  have v0 : VRel m (.pointer (some ⟨b, o, none⟩)) x0 := ha.2 0 (by simp) (by simp)
  have v1 : VRel m (.int .i64 (.ofNat n)) x1 := ha.2 1 (by simp) (by simp)
  cases v1
  cases v0
  rename_i lc hm
  obtain ⟨l', hl', hpr, hok⟩ := hr.obj b (by rw [hb]; intro h; cases h)
  obtain rfl : lc = l' := by rw [hm] at hl'; exact Option.some.inj hl'
  rw [hb] at hok
  obtain ⟨C, fr, k1, k2, k3, k4, k5⟩ := hok
  have hcs : P.cellsOf e = 1 := by unfold Program.cellsOf; rw [hj]; exact hs1
  have hrun := run_unsafeString_at (P := P) (w := w) (ty := ty) hts hp hcs (a := ⟨lc.blk, lc.off + o, none⟩) (cells := C.size) (by simp [World.shape?, k1]) l (by intro h; rw [h] at hlen; simp at hlen; omega)
    (by show lc.off + o + l.length ≤ C.size; omega) (by omega) (fun i x hx => by
      have hi : i < n := by
        rw [← hlen]
        rcases Nat.lt_or_ge i l.length with q | q
        · exact q
        · rw [List.getElem?_eq_none q] at hx; cases hx
      have h1 := s2 i x hx
      rw [Row.part_get? _ _ _ _ hle hi] at h1
      obtain ⟨v', g1, g2⟩ := k4 _ _ h1
      cases g2
      rw [Addr_add_none]
      simp only [World.cell?, k1]
      rw [← g1]
      simp [Nat.add_assoc])
  rw [hlen] at hrun
  refine ⟨w.freeze ⟨lc.blk, lc.off + o, none⟩ n, hrun, ?_, .string _⟩
  refine Rel.update (o := .dead) hr (by rw [hb]; intro h; cases h) hm ?_ ?_ ?_ (fun k hk => ?_) trivial
  · unfold World.freeze; split <;> rfl
  · unfold World.freeze; split <;> rfl
  · unfold World.freeze; split <;> rfl
  · unfold World.freeze
    split
    · rfl
    · simp only [Array.getElem?_modify]
      rw [if_neg (by intro e; exact hk e.symm)]

theorem Sim.newMapE {m : Mu} {k : Nat} {es es' : Array MapEntry} (h1 : es.size = es'.size) (h2 : ∀ i (h : i < es.size) (h' : i < es'.size), ERel m es[i] es'[i]) : Sim P B m (newObj (.map es k)) (newObj (.map es' k)) (fun m' r r' => VRel m' (.map (some r)) (.map (some r'))) := by
  intro hp w hr r h' he
  simp only [newObj, Sem.runA] at he
  split at he
  case h_2 => cases he
  rename_i hlim
  simp only [Nat.blt_eq] at hlim
  simp only [Option.some.injEq, Prod.mk.injEq] at he
  obtain ⟨rfl, rfl⟩ := he
  have hle : Mu.le m (m.add hp.next ⟨w.heap.size, 0, 0⟩) := Mu.le_add (hr.fresh _ (Nat.le_refl _) hlim).2
  refine ⟨w.heap.size, { w with heap := w.heap.push (.map es' k) }, m.add hp.next ⟨w.heap.size, 0, 0⟩, by simp [newObj, Sem.run], Ext.add (hr.fresh _ (Nat.le_refl _) hlim).2 hlim, ?_, .map _ ⟨w.heap.size, 0, 0⟩ (Mu.add_self _ _ _)⟩
  exact hr.alloc hlim 0 _ _ ⟨es', heap_push_self w _, rfl, h1, fun i a b => ⟨(h2 i a b).1.mono hle, (h2 i a b).2.1.mono hle, (h2 i a b).2.2⟩⟩
/-- A map's copy, in an interface. -/
def cloneS (t : TypeId) (r : Nat) : Sem Value := Go.getObj r >>= fun o => match o with
  | .map es c => newObj (.map es c) >>= fun r => (Pure.pure (.iface t (.map (some r))) : Sem Value)
  | _ => Go.stuck "clone"
theorem clone_eq (t : TypeId) (r : Nat) : Extern.MapsClone.clone #[.iface t (.map (some r))] = (Go.getObj r >>= fun o => match o with
  | .map es c => newObj (.map es c) >>= fun r => (Pure.pure (.iface t (.map (some r))) : Sem Value)
  | _ => Go.stuck "maps.clone: a map expected") := rfl
theorem Sim.mapClone {m : Mu} {t : TypeId} {r : Nat} {l : Loc} (hm : m r = some l) : Sim P B m (cloneS t r) (Extern.MapsClone.clone #[.iface t (.map (some l.blk))]) (fun m' v v' => VRel m' v v') := by
  rw [clone_eq]
  unfold cloneS
  refine (Sim.getObj hm).bind fun m1 hm1 o o' ho => ?_
  cases o with
  | map es c =>
    obtain ⟨es', rfl, h1, h2⟩ := ho
    exact (Sim.newMapE h1 h2).bind fun m2 _ r r' hr => Sim.pure (.iface _ _ _ hr)
  | _ => exact Sim.halt

/-- Two slices in two rows. -/
def apartA (P : Program) (t : TypeId) (h : AHeap) (b o b2 : Nat) : Bool := match P.underlying t with
  | some (.slice e) => (match P.info? e with
    | some _ => (match h.get b, h.get b2 with
      | .cells L t1, .cells L2 _ => !Nat.beq b b2 && Nat.blt o L.len && Nat.blt 0 L2.len && (P.info? t1).isSome && (match P.underlying t1 with | some (.int .u8) => false | _ => true)
      | _, _ => false)
    | none => false)
  | _ => false
theorem apart_und {t : TypeId} {h : AHeap} {b o b2 : Nat} (ha : apartA P t h b o b2 = true) : ∃ e i, P.underlying t = some (.slice e) ∧ P.info? e = some i := by
  unfold apartA at ha
  split at ha <;> try (cases ha; done)
  rename_i e ht
  split at ha <;> try (cases ha; done)
  rename_i i hi
  exact ⟨e, i, ht, hi⟩
theorem apart_run {B : Base} {m : Mu} {h : AHeap} {w : World} (hr : Rel P B m h w) {t tr : TypeId} {b o b2 : Nat} (ha : apartA P t h b o b2 = true) {l l2 : Loc} (hl : m b = some l) (hl2 : m b2 = some l2) {n c n2 c2 o2 : Nat} :
    (Extern.SlicesOverlaps.overlaps #[t, t] #[tr] #[.slice (some ⟨l.blk, l.off + o, none⟩) n c, .slice (some ⟨l2.blk, o2, none⟩) n2 c2]).run P w = .ok (.bool false) w := by
  unfold apartA at ha
  split at ha <;> try (cases ha; done)
  rename_i e ht
  split at ha <;> try (cases ha; done)
  rename_i i hi
  split at ha <;> try (cases ha; done)
  rename_i L t1 L2 t2 hb hb2
  simp only [Bool.and_eq_true, Bool.not_eq_true', Nat.blt_eq] at ha
  obtain ⟨⟨⟨⟨hne, ho⟩, h0⟩, hi1⟩, hu⟩ := ha
  obtain ⟨x1, e1, _, p⟩ := hr.obj b (by rw [hb]; intro q; cases q)
  rw [hl] at e1
  obtain rfl := Option.some.inj e1
  rw [hb] at p
  obtain ⟨C, fr, q1, q2, q3, _, q5⟩ := p
  obtain ⟨x2, e2, _, p⟩ := hr.obj b2 (by rw [hb2]; intro q; cases q)
  rw [hl2] at e2
  obtain rfl := Option.some.inj e2
  rw [hb2] at p
  obtain ⟨C2, fr2, p1, _, p3, _, _⟩ := p
  obtain ⟨i1, hi1⟩ := Option.isSome_iff_exists.1 hi1
  have hF := (q5 i1.size (by rw [hi1]; rfl)).2.2.2 (by intro e; rw [e] at hu; cases hu)
  have hblk : l.blk ≠ l2.blk := by
    intro e
    have := hr.sep b b2 l l2 (by rw [hb]; intro q; cases q) (by rw [hb2]; intro q; cases q) (by rw [hb2]; rfl) hl hl2 e
    rw [this] at hne
    simp at hne
  have hq2 := q2 (l.off + o) (by omega)
  refine Lib.run_overlaps_apart w t tr e ht i.size (run_sizeOf' hi) ⟨l.blk, l.off + o, none⟩ ⟨l2.blk, o2, none⟩ n c n2 c2 hblk t1 t2 C.size C2.size ?_ ?_ (by omega) ?_ ?_
  · simp [World.shape?, q1]
  · simp only [World.shape?, p1]
  · simp only [World.frozen?, q1]
    simp; omega
  · simp only [World.frozen?, q1]
    simp; omega
/-- What a call of a function does: it is entered, or it hands its one argument back at once. -/
inductive FKind where
  | enter | pass | other | clone
  | apart (t : TypeId)
  | ext (g : List Value → Option Value)

def opA (P : Program) (enters : FuncId → FKind) (ρ : Operand → Value) (o : Oper) (h : AHeap) : Option (Out × AHeap) :=
  match o.op with
  | .move x | .assign x => some (.val (ρ x), h)
  | .pick c a b => match ρ c with | .bool t => some (.val (if t then ρ a else ρ b), h) | _ => none
  | .alloc t => outV ((Instr.alloc t true (.tuple #[])).runA P h)
  | .box t x => outV ((Instr.box t (ρ x)).runA P h)
  | .build t ps => outV ((Instr.build t (ps.map fun (i, x) => (i, ρ x))).runA P h)
  | .buildSlice t n ps => outC ((Instr.buildSlice t n (ps.map fun (i, x) => (i, ρ x))).runA P h)
  | .load t a => outV ((Instr.loadAt t (ρ a)).runA P h)
  | .store t a x => outU ((Instr.storeAt t (ρ a) (ρ x)).runA P h)
  | .nilCheck x => match ρ x with | .pointer (some a) => some (.val (.pointer (some a)), h) | _ => none
  | .binOp op t x y _ =>
    if flatV (ρ x) && flatV (ρ y) then outP (Sem.runP P (do eqGuard op t x y (ρ x) (ρ y); binOp op t (ρ x) (ρ y))) h
    else match nilEqA P op t (ρ x) (ρ y) with
      | some v => some (.val v, h)
      | none => match ptrEqA P op t (ρ x) (ρ y) with
        | some v => some (.val v, h)
        | none => none
  | .unOp op _ x => if flatV (ρ x) then outP (Sem.runP P (Op.unary op (ρ x))) h else none
  | .convert src dst x =>
    match P.underlying src, P.underlying dst, ρ x with
    | some .string, some (.slice e), .string s =>
      match P.underlying e, P.info? e with
      | some (.int .u8), some i => if Nat.blt h.next h.lim && Nat.beq i.size 1 && Nat.blt s.size (2 ^ 47) then some (.val (.slice (some ⟨h.next, 0, none⟩) s.size OPEN), h.push (.cells (Row.ofList (bytesOf s)) e)) else none
      | _, _ => none
    | some (.slice e), some .string, .slice a n c =>
      match P.underlying e, bytesA h (.slice a n c) with
      | some (.int .u8), some s => some (.val (.string s), h)
      | _, _ => none
    | _, _, v => if flatV v then outP (Sem.runP P (convert src dst v)) h else match unsafeA P src dst v h with
      | some v => some (.val v, h)
      | none => none
  | .makeInterface t x => outV ((Instr.makeInterface t (ρ x)).runA P h)
  | .makeFunc fn a c => outV ((Instr.makeFunc fn (a.map ρ) (c.map ρ)).runA P h)
  | .makeMap t none => outV ((Instr.makeMap t none).runA P h)
  | .makeSlice t l c => outC ((Instr.makeSlice t (ρ l) (ρ c)).runA P h)
  | .slice t x lo hi mx =>
    if optFlat (lo.map ρ) && optFlat (hi.map ρ) && optFlat (mx.map ρ) then
    match ρ x with
    | .string s => outP (Sem.runP P (Instr.sliceAt t (.string s) (lo.map ρ) (hi.map ρ) (mx.map ρ))) h
    | v => match sliceA P t v (lo.map ρ) (hi.map ρ) (mx.map ρ) with | some r => some (.val r, h) | none => none
    else none
  | .fieldAddr s x f => outV ((Instr.fieldAt s (ρ x) f).runA P h)
  | .field s x f => outV ((Instr.field s (ρ x) f).runA P h)
  | .indexAddr t x i => outV ((Instr.indexAt t (ρ x) (ρ i)).runA P h)
  | .index t x i => outV ((Instr.index t (ρ x) (ρ i)).runA P h)
  | .extract x i => outV ((Instr.extract (ρ x) i).runA P h)
  | .range t x => match P.underlying t, ρ x with
    | some .string, .string s => if Nat.blt h.next h.lim then some (.val (.pointer (some ⟨h.next, 0, none⟩)), h.push (.iter s 0)) else none
    | some (.map _ _), .map none => if Nat.blt h.next h.lim then some (.val (.pointer (some ⟨h.next, 0, none⟩)), h.push (.miter none 0 #[] 0)) else none
    | some (.map _ _), .map (some b) => match h.get b with
      | .map _ clock => if Nat.blt h.next h.lim then some (.val (.pointer (some ⟨h.next, 0, none⟩)), h.push (.miter (some b) clock #[] clock)) else none
      | _ => none
    | _, _ => none
  | .next it true => outV (nextA (ρ it) h)
  | .next it false => outV (nextM (ρ it) h)
  | .entry it => outV (entryA (ρ it) h)
  | .typeAssert x xt a ok => outV ((Instr.typeAssert (ρ x) xt a ok).runA P h)
  | .lookup t x i ok => outV ((lookupS t (ρ x) (ρ i) ok).runA P h)
  | .mapUpdate t x i y | .insert t x i y => outU ((mapUpdateS t (ρ x) (ρ i) (ρ y)).runA P h)
  | .call c =>
    match c.callee with
    | .builtin .len => outV ((Builtin.len_ c.argTypes o.type (c.args.map ρ)).runA P h)
    | .builtin .copy => outV ((Builtin.copy_ c.argTypes o.type (c.args.map ρ)).runA P h)
    | .builtin .clear => outV ((clearS c.argTypes (c.args.map ρ).toList).runA P h)
    | .builtin .delete => match c.argTypes[0]?, (c.args.map ρ).toList with
      | some t, [x, k] => outV ((deleteS t x k).runA P h)
      | _, _ => none
    | .builtin .append => match appendZ P c.argTypes (c.args.map ρ) h with
      | some r => some (.val r.1, r.2)
      | none => outV (appendA P c.argTypes (c.args.map ρ) h)
    | .builtin .cap => match c.argTypes[0]?, (c.args.map ρ).toList with
      | some t, [.slice _ _ k] => (match P.underlying t with | some (.slice _) => (match Nat.ble k HALF with | true => some (.val (goInt k), h) | false => none) | _ => none)
      | _, _ => none
    | .builtin .min => if (c.args.map ρ).toList.all flatV then outP (Sem.runP P (Builtin.min_ c.argTypes o.type (c.args.map ρ))) h else none
    | .builtin .max => if (c.args.map ρ).toList.all flatV then outP (Sem.runP P (Builtin.max_ c.argTypes o.type (c.args.map ρ))) h else none
    | .value f => match ρ f with
      | .func (.func g) first captured => match enters g with
        | .enter => some (.call g (first ++ c.args.map ρ ++ captured), h)
        | .pass => match (first ++ c.args.map ρ ++ captured).toList with
          | [x] => some (.val x, h)
          | _ => none
        | .ext k => match k (first ++ c.args.map ρ ++ captured).toList with
          | some v => some (.val v, h)
          | none => none
        | .clone => match (first ++ c.args.map ρ ++ captured).toList with
          | [.iface t (.map (some r))] => outV ((cloneS t r).runA P h)
          | _ => none
        | .apart t => match (first ++ c.args.map ρ ++ captured).toList with
          | [.slice (some ⟨b, o, none⟩) n _, .slice (some ⟨b2, _, none⟩) n2 _] => (match Nat.blt 0 n && Nat.blt 0 n2 && apartA P t h b o b2 with | true => some (.val (.bool false), h) | false => none)
          | _ => none
        | .other => none
      | _ => none
    | .builtin .unsafeSliceData => match (c.args.map ρ).toList with
      | [.slice (some a) n k] => if !Nat.beq n 0 && !Nat.beq k 0 then some (.val (.pointer (some a)), h) else none
      | _ => none
    | .builtin .unsafeString => outV (unsafeStrA P c.argTypes (c.args.map ρ).toList h)
    | .invoke recv name => match ρ recv with
      | .iface t v => match methA P t v name with
        | some (f, x) => match enters f with
          | .enter => some (.call f (#[x] ++ c.args.map ρ), h)
          | _ => none
        | none => none
      | _ => none
    | _ => none
  | _ => none

/-- What is known of the functions that may be entered. -/
def Enters (P : Program) (enters : FuncId → FKind) : Prop := ∀ f, (enters f = .enter → ∀ args w, (callFunc f args).run P w = .ok (.enter f args) w) ∧ (enters f = .pass → ∀ x w, (callFunc f #[x]).run P w = .ok (.value x) w) ∧
  (∀ g, enters f = .ext g → ∀ l v, g l = some v → l.all flatV = true ∧ flatV v = true ∧ ∀ w, (callFunc f l.toArray).run P w = .ok (.value v) w) ∧
  (enters f = .clone → ∀ args w, (callFunc f args).run P w = (Extern.MapsClone.clone args >>= fun v => (Pure.pure (Next.value v) : Sem Next)).run P w) ∧
  (∀ t, enters f = .apart t → ∃ tr, ∀ args w, (callFunc f args).run P w = ((Extern.SlicesOverlaps.overlaps #[t, t] #[tr] args).run P w).andThen fun v w' => .ok (.value v) w')

def Sound (P : Program) (B : Base) (h : AHeap) (m : Mu) (r : Option (Out × AHeap)) (s : Sem Next) (w : World) : Prop :=
  ∀ out h', r = some (out, h') → ∃ n w' m', s.run P w = .ok n w' ∧ Ext h m m' ∧ Rel P B m' h' w' ∧ OutRel m' out n

theorem Sound.ofV {m : Mu} {h : AHeap} {w : World} (hr : Rel P B m h w) {s s' : Sem Value} (hs : Sim P B m s s' (fun m' v v' => VRel m' v v')) :
    Sound P B h m (outV (s.runA P h)) (do pure (.value (← s'))) w := by
  intro out h' he
  cases h1 : s.runA P h with
  | none => rw [h1] at he; cases he
  | some r =>
    obtain ⟨v, h2⟩ := r
    rw [h1] at he
    simp only [outV, Option.some.injEq, Prod.mk.injEq] at he
    obtain ⟨rfl, rfl⟩ := he
    obtain ⟨b, w', m', e1, e2, e3, e4⟩ := hs h w hr v h2 h1
    exact ⟨.value b, w', m', by simp only [Sem.run_bind, e1, Result.andThen_ok, Sem.run_pure], e2, e3, e4⟩
theorem Sound.ofC {m : Mu} {h : AHeap} {w : World} (hr : Rel P B m h w) {s s' : Sem Value} (hs : Sim P B m s s' (fun m' v v' => capOk v = true → VRel m' v v')) :
    Sound P B h m (outC (s.runA P h)) (do pure (.value (← s'))) w := by
  intro out h' he
  cases h1 : s.runA P h with
  | none => rw [h1] at he; cases he
  | some r =>
    obtain ⟨v, h2⟩ := r
    rw [h1] at he
    simp only [outC] at he
    split at he
    · rename_i hc
      simp only [Option.some.injEq, Prod.mk.injEq] at he
      obtain ⟨rfl, rfl⟩ := he
      obtain ⟨b, w', m', e1, e2, e3, e4⟩ := hs h w hr v h2 h1
      exact ⟨.value b, w', m', by simp only [Sem.run_bind, e1, Result.andThen_ok, Sem.run_pure], e2, e3, e4 hc⟩
    · cases he
theorem Sound.ofU {m : Mu} {h : AHeap} {w : World} (hr : Rel P B m h w) {s s' : Sem Unit} (hs : Sim P B m s s' (fun _ _ _ => True)) :
    Sound P B h m (outU (s.runA P h)) (do s'; pure .skip) w := by
  intro out h' he
  cases h1 : s.runA P h with
  | none => rw [h1] at he; cases he
  | some r =>
    obtain ⟨v, h2⟩ := r
    rw [h1] at he
    simp only [outU, Option.some.injEq, Prod.mk.injEq] at he
    obtain ⟨rfl, rfl⟩ := he
    obtain ⟨b, w', m', e1, e2, e3, e4⟩ := hs h w hr v h2 h1
    exact ⟨.skip, w', m', by simp only [Sem.run_bind, e1, Result.andThen_ok, Sem.run_pure], e2, e3, trivial⟩
theorem Sound.ofP {m : Mu} {h : AHeap} {w : World} (hr : Rel P B m h w) {s : Sem Value} : Sound P B h m (outP (Sem.runP P s) h) (do pure (.value (← s))) w := by
  intro out h' he
  cases h1 : Sem.runP P s with
  | none => rw [h1] at he; cases he
  | some v =>
    rw [h1] at he
    simp only [outP] at he
    split at he
    · rename_i hf
      simp only [Option.some.injEq, Prod.mk.injEq] at he
      obtain ⟨rfl, rfl⟩ := he
      exact ⟨.value v, w, m, by simp only [Sem.run_bind, runP_run h1, Result.andThen_ok, Sem.run_pure], Ext.refl _ m, hr, vflat_rel m 8 v hf⟩
    · cases he
theorem Sound.val {m : Mu} {h : AHeap} {w : World} (hr : Rel P B m h w) {v v' : Value} (hv : VRel m v v') {s : Sem Next} (hs : s.run P w = .ok (.value v') w) : Sound P B h m (some (.val v, h)) s w := by
  intro out h' he
  simp only [Option.some.injEq, Prod.mk.injEq] at he
  obtain ⟨rfl, rfl⟩ := he
  exact ⟨_, w, m, hs, Ext.refl _ m, hr, hv⟩
theorem Sound.none {h : AHeap} {m : Mu} {s : Sem Next} {w : World} : Sound P B h m Option.none s w := by
  intro out h' he; cases he

theorem flat_eq {m : Mu} {v v' : Value} (h : VRel m v v') (hf : flatV v = true) : v' = v := h.of_flat 8 hf

theorem next_sound {m : Mu} {h : AHeap} {w : World} (hr : Rel P B m h w) {v v' : Value} (hv : VRel m v v') (t : TypeId) : Sound P B h m (outV (nextA v h)) (do pure (.value (← Instr.next v' true t))) w := by
  unfold nextA
  split
  · rename_i r
    split
    · rename_i s pos hb
      cases hv with
      | ptr _ _ l hm =>
        obtain ⟨l', hl', hp', hok⟩ := hr.obj r (by rw [hb]; intro h; cases h)
        obtain rfl : l = l' := by rw [hm] at hl'; exact Option.some.inj hl'
        rw [hb] at hok
        obtain ⟨q1, q2⟩ := hok
        have ea : l.off + 0 = 0 := by omega
        rw [ea]
        have hg : (Go.getObj l.blk).run P w = .ok (.stringIter s pos) w := by simp [Go.getObj, Sem.run, q1]
        split
        · rename_i hlt
          simp only [Nat.blt_eq] at hlt
          split
          rename_i c width hd
          intro out h' he
          simp only [outV, Option.some.injEq, Prod.mk.injEq] at he
          obtain ⟨rfl, rfl⟩ := he
          have hs : (Go.setObj l.blk (.stringIter s (pos + width))).run P w = .ok () { w with heap := w.heap.setIfInBounds l.blk (.stringIter s (pos + width)) } := by simp [Go.setObj, Sem.run, q1]
          refine ⟨.value (.tuple #[.bool true, goInt pos, .int .i32 c]), { w with heap := w.heap.setIfInBounds l.blk (.stringIter s (pos + width)) }, m, ?_, Ext.refl _ m, ?_, ?_⟩
          · unfold Instr.next
            simp only [Sem.run_bind, hg, Result.andThen_ok, if_pos hlt, hd, hs, Sem.run_pure]
          · refine Rel.update (w := w) (w' := { w with heap := w.heap.setIfInBounds l.blk (.stringIter s (pos + width)) }) hr (by rw [hb]; intro h; cases h) hm rfl rfl rfl (fun k hk => heap_set_other w _ _ _ hk) ?_
            exact ⟨heap_set_self w _ _ _ q1, q2⟩
          · exact .tuple _ _ rfl (fun i a b => by
              have : i = 0 ∨ i = 1 ∨ i = 2 := by simp at a; omega
              rcases this with rfl | rfl | rfl
              · exact .bool _
              · exact .int _ _
              · exact .int _ _)
        · rename_i hlt
          simp only [Nat.blt_eq] at hlt
          refine Sound.val (v' := .tuple #[.bool false]) hr (.tuple _ _ rfl (fun i a b => by
              have : i = 0 := by simp at a; omega
              subst this; exact .bool _)) ?_
          unfold Instr.next
          simp only [Sem.run_bind, hg, Result.andThen_ok, if_neg hlt, Sem.run_pure]
    · exact Sound.none
  · exact Sound.none

theorem nextM_sound {m : Mu} {h : AHeap} {w : World} (hr : Rel P B m h w) {v v' : Value} (hv : VRel m v v') (t : TypeId) : Sound P B h m (outV (nextM v h)) (do pure (.value (← Instr.next v' false t))) w := by
  have over : (∀ w, (Instr.next v' false t).run P w = .ok (.tuple #[.bool false]) w) → Sound P B h m (outV (some (.tuple #[.bool false], h))) (do pure (.value (← Instr.next v' false t))) w := by
    intro hn
    refine Sound.val (v' := .tuple #[.bool false]) hr (.tuple _ _ rfl (fun i a b => by
      have : i = 0 := by simp at a; omega
      subst this; exact .bool _)) ?_
    simp only [Sem.run_bind, hn, Result.andThen_ok, Sem.run_pure]
  have over' : (Instr.next v' false t).run P w = .ok (.tuple #[.bool false]) w → Sound P B h m (outV (some (.tuple #[.bool false], h))) (do pure (.value (← Instr.next v' false t))) w := by
    intro hn
    refine Sound.val (v' := .tuple #[.bool false]) hr (.tuple _ _ rfl (fun i a b => by
      have : i = 0 := by simp at a; omega
      subst this; exact .bool _)) ?_
    simp only [Sem.run_bind, hn, Result.andThen_ok, Sem.run_pure]
  clear over
  unfold nextM
  split
  case h_2 => exact Sound.none
  rename_i r
  cases hv with
  | ptr _ _ l hm =>
    split
    case h_3 => exact Sound.none
    · rename_i since seen last hb
      obtain ⟨l', hl', hp', hok⟩ := hr.obj r (by rw [hb]; intro h; cases h)
      obtain rfl : l = l' := by rw [hm] at hl'; exact Option.some.inj hl'
      rw [hb] at hok
      obtain ⟨⟨x', q1, q3⟩, q2⟩ := hok
      obtain rfl : x' = none := by cases x' with | none => rfl | some y => exact q3.elim
      have ea : l.off + 0 = 0 := by omega
      rw [ea] at over' ⊢
      refine over' ?_
      have hg : (Go.getObj l.blk).run P w = .ok (.mapIter none since seen last) w := by simp [Go.getObj, Sem.run, q1]
      unfold Instr.next
      simp only [Sem.run_bind, hg, Result.andThen_ok, Sem.run_pure]
    · rename_i b since seen last hb
      obtain ⟨l', hl', hp', hok⟩ := hr.obj r (by rw [hb]; intro h; cases h)
      obtain rfl : l = l' := by rw [hm] at hl'; exact Option.some.inj hl'
      rw [hb] at hok
      obtain ⟨⟨x', q1, q3⟩, q2⟩ := hok
      obtain ⟨r', rfl⟩ : ∃ r', x' = some r' := by cases x' with | none => exact q3.elim | some y => exact ⟨y, rfl⟩
      obtain ⟨lb, g1, rfl⟩ := q3
      have ea : l.off + 0 = 0 := by omega
      rw [ea] at over' ⊢
      have hg : (Go.getObj l.blk).run P w = .ok (.mapIter (some lb.blk) since seen last) w := by simp [Go.getObj, Sem.run, q1]
      split
      case h_2 => exact Sound.none
      rename_i es clock hbm
      obtain ⟨lb', hlb', hpb', hokb⟩ := hr.obj b (by rw [hbm]; intro h; cases h)
      obtain rfl : lb = lb' := by rw [g1] at hlb'; exact Option.some.inj hlb'
      rw [hbm] at hokb
      obtain ⟨es', k1, k2, k3, k4⟩ := hokb
      have hg2 : (Go.getObj lb.blk).run P w = .ok (.map es' clock) w := by simp [Go.getObj, Sem.run, k1]
      have hch : ∀ w : World, (choose (.mapNext 1)).run P w = .ok 0 w := by
        intro w
        simp [choose, Sem.run, Question.forced]
      split
      · rename_i he
        obtain rfl : es = #[] := Array.ext' he
        obtain rfl : es' = #[] := Array.eq_empty_of_size_eq_zero k3.symm
        refine over' ?_
        have hguard : (!seen.isEmpty && !(#[] : Array MapEntry).isEmpty && (#[] : Array MapEntry).all (·.born ≥ last)) = false := by simp
        have hleft : (#[] : Array MapEntry).filter (fun e => !seen.contains e.born) = #[] := by apply Array.ext'; rw [Array.toList_filter]; rfl
        have hold : (#[] : Array MapEntry).filter (fun e => decide (e.born < since)) = #[] := by apply Array.ext'; rw [Array.toList_filter]; rfl
        have hnew : (#[] : Array MapEntry).filter (fun e => decide (e.born ≥ since)) = #[] := by apply Array.ext'; rw [Array.toList_filter]; rfl
        have hcand : ((if (#[] : Array MapEntry).isEmpty = true then (#[none] : Array (Option MapEntry)) else #[]) ++ Array.map some ((#[] : Array MapEntry) ++ #[])) = #[none] := by simp
        unfold Instr.next
        simp only [Sem.run_bind, hg, hg2, Result.andThen_ok]
        rw [hguard]
        simp only [Bool.false_eq_true, if_false, hleft, hold, hnew]
        rw [hcand]
        simp [hch]
      · rename_i e he
        obtain rfl : es = #[e] := Array.ext' he
        obtain ⟨e', rfl⟩ : ∃ e', es' = #[e'] := by
          have h1 : es'.toList.length = 1 := by rw [Array.length_toList]; exact k3.symm
          match hq : es'.toList, h1 with
          | [x], _ => exact ⟨x, Array.ext' hq⟩
        have hE : ERel m e e' := k4 0 (by simp) (by simp)
        obtain ⟨hk, hv2, hbn⟩ := hE
        split
        · exact Sound.none
        · rename_i hc1
          have hc1' : ¬ (!seen.isEmpty && Nat.ble last e'.born) = true := by rw [← hbn]; exact hc1
          have hguard : (!seen.isEmpty && !(#[e'] : Array MapEntry).isEmpty && (#[e'] : Array MapEntry).all (·.born ≥ last)) = false := by
            cases hs : seen.isEmpty with
            | true => simp
            | false =>
              rw [hs] at hc1'
              simp only [Bool.not_false, Bool.true_and, Nat.ble_eq] at hc1'
              simp
              omega
          split
          · rename_i hc2
            rw [hbn] at hc2
            refine over' ?_
            unfold Instr.next
            simp only [Sem.run_bind, hg, hg2, Result.andThen_ok]
            rw [hguard]
            have hleft : (#[e'] : Array MapEntry).filter (fun e => !seen.contains e.born) = #[] := by
              apply Array.ext'
              rw [Array.toList_filter]
              show List.filter _ [e'] = []
              simp only [List.filter_cons, List.filter_nil, hc2, Bool.not_true, Bool.false_eq_true, if_false]
            have hold : (#[] : Array MapEntry).filter (fun e => decide (e.born < since)) = #[] := by apply Array.ext'; rw [Array.toList_filter]; rfl
            have hnew : (#[] : Array MapEntry).filter (fun e => decide (e.born ≥ since)) = #[] := by apply Array.ext'; rw [Array.toList_filter]; rfl
            have hcand : ((if (#[] : Array MapEntry).isEmpty = true then (#[none] : Array (Option MapEntry)) else #[]) ++ Array.map some ((#[] : Array MapEntry) ++ #[])) = #[none] := by simp
            simp only [Bool.false_eq_true, if_false, hleft, hold, hnew]
            rw [hcand]
            simp [hch]
          · rename_i hc2
            rw [hbn] at hc2
            split
            case isFalse => exact Sound.none
            rename_i hc3
            rw [hbn, Nat.blt_eq] at hc3
            have hleft : (#[e'] : Array MapEntry).filter (fun e => !seen.contains e.born) = #[e'] := by
              apply Array.ext'
              rw [Array.toList_filter]
              show List.filter _ [e'] = [e']
              have hc2' : seen.contains e'.born = false := by simpa using hc2
              simp only [List.filter_cons, List.filter_nil, hc2', Bool.not_false, if_true]
            have hold : (#[e'] : Array MapEntry).filter (fun e => decide (e.born < since)) = #[e'] := by
              apply Array.ext'
              rw [Array.toList_filter]
              show List.filter _ [e'] = [e']
              simp [hc3]
            have hnew : (#[e'] : Array MapEntry).filter (fun e => decide (e.born ≥ since)) = #[] := by
              apply Array.ext'
              rw [Array.toList_filter]
              show List.filter _ [e'] = []
              simp [hc3]
            intro out h' hout
            simp only [outV, Option.some.injEq, Prod.mk.injEq] at hout
            obtain ⟨rfl, rfl⟩ := hout
            have hs : (Go.setObj l.blk (.mapIter (some lb.blk) since (seen.push e'.born) clock)).run P w = .ok () { w with heap := w.heap.setIfInBounds l.blk (.mapIter (some lb.blk) since (seen.push e'.born) clock) } := by simp [Go.setObj, Sem.run, q1]
            refine ⟨.value (.tuple #[.bool true, e'.key, e'.val]), { w with heap := w.heap.setIfInBounds l.blk (.mapIter (some lb.blk) since (seen.push e'.born) clock) }, m, ?_, Ext.refl _ m, ?_, ?_⟩
            · unfold Instr.next
              simp only [Sem.run_bind, hg, hg2, Result.andThen_ok]
              rw [hguard]
              simp only [Bool.false_eq_true, if_false, hleft, hold, hnew]
              have hcand : ((if (#[e'] : Array MapEntry).isEmpty = true then (#[none] : Array (Option MapEntry)) else #[]) ++ Array.map some (#[e'] ++ #[])) = #[some e'] := by simp
              rw [hcand]
              simp [hch, hs]
            · refine Rel.update (w := w) (w' := { w with heap := w.heap.setIfInBounds l.blk (.mapIter (some lb.blk) since (seen.push e'.born) clock) }) hr (by rw [hb]; intro h; cases h) hm rfl rfl rfl (fun k hk => heap_set_other w _ _ _ hk) ?_
              rw [hbn]
              exact ⟨⟨some lb.blk, heap_set_self w _ _ _ q1, ⟨lb, g1, rfl⟩⟩, q2⟩
            · exact .tuple _ _ rfl (fun i a b => by
                have : i = 0 ∨ i = 1 ∨ i = 2 := by simp at a; omega
                rcases this with rfl | rfl | rfl
                · exact .bool _
                · exact hk
                · exact hv2)
      · exact Sound.none

theorem findE_rel {m : Mu} {st : Nat} : ∀ (l l' : List MapEntry), l.length = l'.length → (∀ i (h : i < l.length) (h' : i < l'.length), ERel m l[i] l'[i]) → ∀ e, l.find? (fun e => e.born == st) = some e → ∃ e', l'.find? (fun e => e.born == st) = some e' ∧ ERel m e e' := by
  intro l
  induction l with
  | nil => intro l' _ _ e h; cases h
  | cons x l ih =>
    intro l' hl hr e h
    cases l' with
    | nil => cases hl
    | cons y l' =>
      have hxy : ERel m x y := hr 0 (by simp) (by simp)
      simp only [List.find?_cons] at h ⊢
      rw [← hxy.2.2]
      split at h
      · cases h
        exact ⟨y, rfl, hxy⟩
      · exact ih l' (by simpa using hl) (fun i a b => hr (i + 1) (by simpa using a) (by simpa using b)) e h
theorem entry_sound {m : Mu} {h : AHeap} {w : World} (hr : Rel P B m h w) {v v' : Value} (hv : VRel m v v') : Sound P B h m (outV (entryA v h)) (do pure (.value (← Instr.entry v'))) w := by
  unfold entryA
  split
  case h_2 => exact Sound.none
  rename_i r
  cases hv with
  | ptr _ _ l hm =>
    split
    case h_2 => exact Sound.none
    rename_i b since seen last hb
    obtain ⟨l', hl', hp', hok⟩ := hr.obj r (by rw [hb]; intro h; cases h)
    obtain rfl : l = l' := by rw [hm] at hl'; exact Option.some.inj hl'
    rw [hb] at hok
    obtain ⟨⟨x', q1, q3⟩, q2⟩ := hok
    obtain ⟨r', rfl⟩ : ∃ r', x' = some r' := by cases x' with | none => exact q3.elim | some y => exact ⟨y, rfl⟩
    obtain ⟨lb, g1, rfl⟩ := q3
    have ea : l.off + 0 = 0 := by omega
    rw [ea]
    have hg : (Go.getObj l.blk).run P w = .ok (.mapIter (some lb.blk) since seen last) w := by simp [Go.getObj, Sem.run, q1]
    split
    case h_2 => exact Sound.none
    rename_i es clock hbm
    obtain ⟨lb', hlb', hpb', hokb⟩ := hr.obj b (by rw [hbm]; intro h; cases h)
    obtain rfl : lb = lb' := by rw [g1] at hlb'; exact Option.some.inj hlb'
    rw [hbm] at hokb
    obtain ⟨es', k1, k2, k3, k4⟩ := hokb
    have hg2 : (Go.getObj lb.blk).run P w = .ok (.map es' clock) w := by simp [Go.getObj, Sem.run, k1]
    split
    case h_2 => exact Sound.none
    rename_i st hst
    split
    case h_2 => exact Sound.none
    rename_i hcl
    obtain rfl := Nat.eq_of_beq_eq_true hcl
    split
    case h_2 => exact Sound.none
    rename_i e he
    obtain ⟨e', f1, f2⟩ := findE_rel es.toList es'.toList (by simpa using k3) (fun i a b => by
      have := k4 i (by simpa using a) (by simpa using b)
      simpa using this) e he
    rw [Array.find?_toList] at f1
    refine Sound.val (v' := .tuple #[e'.key, e'.val]) hr (VRel.tuple #[e.key, e.val] #[e'.key, e'.val] rfl (fun i a b => by
      have : i = 0 ∨ i = 1 := by simp at a; omega
      rcases this with rfl | rfl
      · exact f2.1
      · exact f2.2.1)) ?_
    unfold Instr.entry
    simp only [Sem.run_bind, hg, hg2, hst, Result.andThen_ok, f1, bne_self_eq_false, Bool.false_eq_true, if_false, Sem.run_pure, pure_bind]
  | _ => exact Sound.none
theorem Sim.typeAssert {m : Mu} (hz : ZF P) {v v' : Value} (hv : VRel m v v') (xt a : TypeId) (ok : Bool) : Sim P B m (Instr.typeAssert v xt a ok) (Instr.typeAssert v' xt a ok) (fun m' v v' => VRel m' v v') := by
  have fails : ∀ (e : RuntimeError), Sim P B m (if ok = true then (Go.zeroValue a >>= fun z => (Pure.pure (.tuple #[z, .bool false]) : Sem Value)) else runtimePanic e) (if ok = true then (Go.zeroValue a >>= fun z => (Pure.pure (.tuple #[z, .bool false]) : Sem Value)) else runtimePanic e) (fun m' v v' => VRel m' v v') := by
    intro e
    cases ok with
    | true =>
      simp only [if_true]
      refine Sim.zero hz fun z hzf => Sim.pure (.tuple _ _ rfl (fun i h1 h2 => ?_))
      have : i = 0 ∨ i = 1 := by simp at h1; omega
      rcases this with rfl | rfl
      · exact vflat_rel m 8 z hzf
      · exact .bool _
    | false => simp only [Bool.false_eq_true, if_false]; exact Sim.panic
  have holds : ∀ (u u' : Value), VRel m u u' → Sim P B m (Pure.pure (if ok = true then .tuple #[u, .bool true] else u) : Sem Value) (Pure.pure (if ok = true then .tuple #[u', .bool true] else u') : Sem Value) (fun m' v v' => VRel m' v v') := by
    intro u u' hu
    refine Sim.pure ?_
    cases ok with
    | true =>
      simp only [if_true]
      refine .tuple _ _ rfl (fun i h1 h2 => ?_)
      have : i = 0 ∨ i = 1 := by simp at h1; omega
      rcases this with rfl | rfl
      · exact hu
      · exact .bool _
    | false => simpa using hu
  unfold Instr.typeAssert
  refine Sim.free (Free.underlying a) fun d _ => ?_
  have hv0 := hv
  cases hv with
  | nilIface => cases d <;> exact fails _
  | iface t u u' hu =>
    cases d with
    | interface want =>
      refine Sim.free (Free.typeInfo t) fun ti _ => ?_
      dsimp only
      cases Instr.missingMethod want ti.methods with
      | none => exact holds _ _ hv0
      | some mm => exact fails _
    | _ =>
      dsimp only
      split
      · exact holds _ _ hu
      · exact fails _
  | _ => cases d <;> exact Sim.stuck

theorem opA_sound {enters : FuncId → FKind} (hE : Enters P enters) (hz : ZF P) {ρ ρ' : Operand → Value} {o : Oper} {m : Mu} {h : AHeap} {w : World} (hr : Rel P B m h w)
    (hρ : ∀ x ∈ o.op.operands.toList, VRel m (ρ x) (ρ' x)) : Sound P B h m (opA P enters ρ o h) (execOp ρ' o) w := by
  obtain ⟨dst, op, type, pos, after, guard⟩ := o
  have hparts : ∀ (ps : Array (Nat × Operand)), (∀ x ∈ (ps.toList.map (·.2)), VRel m (ρ x) (ρ' x)) →
      ∀ i (a : i < (ps.map fun (p : Nat × Operand) => (p.1, ρ p.2)).size) (b : i < (ps.map fun (p : Nat × Operand) => (p.1, ρ' p.2)).size), (ps.map fun (p : Nat × Operand) => (p.1, ρ p.2))[i].1 = (ps.map fun (p : Nat × Operand) => (p.1, ρ' p.2))[i].1 ∧ VRel m (ps.map fun (p : Nat × Operand) => (p.1, ρ p.2))[i].2 (ps.map fun (p : Nat × Operand) => (p.1, ρ' p.2))[i].2 := by
    intro ps hps i a b
    simp only [Array.getElem_map, true_and]
    refine hps _ (List.mem_map.2 ⟨ps[i]'(by simpa using a), by simp, rfl⟩)
  cases op <;> try exact Sound.none
  case move x => exact Sound.val hr (hρ x (by simp [Op.operands])) rfl
  case assign x => exact Sound.val hr (hρ x (by simp [Op.operands])) rfl
  case pick c a b =>
    have hc := hρ c (by simp [Op.operands]); have ha := hρ a (by simp [Op.operands]); have hb := hρ b (by simp [Op.operands])
    simp only [opA]
    split
    · rename_i t ht
      rw [ht] at hc
      have e : ρ' c = .bool t := by generalize ρ' c = z at hc; cases hc; rfl
      refine Sound.val (v' := if t then ρ' a else ρ' b) hr (by cases t <;> simp [ha, hb]) ?_
      simp only [execOp, e, Go.asBool, pure_bind, Sem.run_pure]
    · exact Sound.none
  case alloc t => exact Sound.ofV hr (Sim.alloc hz t)
  case box t x => exact Sound.ofV hr (Sim.box (hρ x (by simp [Op.operands])) t)
  case build t ps => exact Sound.ofV hr (Sim.build hz t (by simp) (hparts ps (by simpa only [Op.operands, List.toList_toArray] using hρ)))
  case buildSlice t n ps => exact Sound.ofC hr (Sim.buildSlice hz t n (by simp) (hparts ps (by simpa only [Op.operands, List.toList_toArray] using hρ)))
  case load t a => exact Sound.ofV hr (Sim.loadAt (hρ a (by simp [Op.operands])) t)
  case store t a x => exact Sound.ofU hr (Sim.storeAt (hρ a (by simp [Op.operands])) (hρ x (by simp [Op.operands])) t)
  case nilCheck x =>
    have hx := hρ x (by simp [Op.operands])
    simp only [opA]
    split
    · rename_i a ha
      rw [ha] at hx
      generalize e : ρ' x = z at hx
      cases hx
      exact Sound.val hr (.ptr _ _ _ (by assumption)) (by simp only [execOp, e]; rfl)
    · exact Sound.none
  case binOp op t x y yt =>
    have hx := hρ x (by simp [Op.operands]); have hy := hρ y (by simp [Op.operands])
    simp only [opA]
    split
    · rename_i hf
      simp only [Bool.and_eq_true] at hf
      have := Sound.ofP (P := P) hr (s := do eqGuard op t x y (ρ x) (ρ y); binOp op t (ρ x) (ρ y))
      simp only [execOp, flat_eq hx hf.1, flat_eq hy hf.2]
      exact this
    · split
      · rename_i v hv
        unfold nilEqA at hv
        split at hv
        · rename_i hc
          simp only [Bool.and_eq_true] at hc
          have hk := refKind_rel hx hy hc.1
          have hn : (isNilV (ρ' x) || isNilV (ρ' y)) = true := by rw [isNilV_rel hx (refKind_chan hc.1).1, isNilV_rel hy (refKind_chan hc.1).2]; exact hc.2
          have hq := run_equal_nil (P := P) hk hn w
          rw [isNilV_rel hx (refKind_chan hc.1).1, isNilV_rel hy (refKind_chan hc.1).2] at hq
          have hg : (eqGuard op t x y (ρ' x) (ρ' y)).run P w = .ok () w := by
            have hk2 := hk
            unfold refKind at hk2
            unfold eqGuard
            generalize ρ' x = a at hk2 ⊢
            generalize ρ' y = b at hk2 ⊢
            cases a <;> cases b <;> first | (split <;> rfl; done) | (exfalso; revert hk2; cases P.underlying t with | none => simp | some d => cases d <;> simp)
          have hb : ∀ r : Bool, (op = .eql ∧ r = (isNilV (ρ x) && isNilV (ρ y))) ∨ (op = .neq ∧ r = !(isNilV (ρ x) && isNilV (ρ y))) → (binOp op t (ρ' x) (ρ' y)).run P w = .ok (.bool r) w := by
            intro r hr2
            have hk2 := hk
            unfold refKind at hk2
            generalize ρ' x = a at hk2 hq ⊢
            generalize ρ' y = b at hk2 hq ⊢
            rcases hr2 with ⟨rfl, rfl⟩ | ⟨rfl, rfl⟩ <;> cases a <;> cases b <;> first
              | (exfalso; revert hk2; cases P.underlying t with | none => simp | some d => cases d <;> simp; done)
              | (simp only [binOp, Sem.run_bind, hq, Result.andThen_ok, Sem.run_pure]; done)
          split at hv
          · obtain rfl := Option.some.inj hv
            exact Sound.val hr (.bool _) (by simp only [execOp, Sem.run_bind, hg, hb _ (.inl ⟨rfl, rfl⟩), Result.andThen_ok, Sem.run_pure])
          · obtain rfl := Option.some.inj hv
            exact Sound.val hr (.bool _) (by simp only [execOp, Sem.run_bind, hg, hb _ (.inr ⟨rfl, rfl⟩), Result.andThen_ok, Sem.run_pure])
          · cases hv
        · cases hv
      · split
        · rename_i v hv
          obtain ⟨q1, q2⟩ := ptrEqA_sound (a := x) (b := y) hx hy hv w
          refine Sound.val hr q2 ?_
          simp only [execOp]
          rw [Sem.run_bind, q1]
          rfl
        · exact Sound.none
  case unOp op t x =>
    have hx := hρ x (by simp [Op.operands])
    simp only [opA]
    split
    · rename_i hf
      simp only [execOp, flat_eq hx hf]
      exact Sound.ofP hr
    · exact Sound.none
  case convert src dst x =>
    have hx := hρ x (by simp [Op.operands])
    simp only [opA]
    split
    · rename_i e s h1 h2 h3
      rw [h3] at hx
      have e' : ρ' x = .string s := by generalize ρ' x = z at hx; cases hx; rfl
      split
      · rename_i i h4 h5
        split
        · rename_i hc
          simp only [Bool.and_eq_true, Nat.beq_eq, Nat.blt_eq] at hc
          obtain ⟨v', w', m', q1, q2, q3, q4⟩ := stringToBytes_sound hr hc.1.1 h4 h5 hc.1.2 s hc.2
          intro out h' he
          simp only [Option.some.injEq, Prod.mk.injEq] at he
          obtain ⟨rfl, rfl⟩ := he
          refine ⟨.value v', w', m', ?_, q2, q3, q4⟩
          simp only [execOp, e', convert, Sem.run_bind, run_underlying h1, run_underlying h2, run_underlying h4, Result.andThen_ok, q1, Sem.run_pure]
        · exact Sound.none
      · exact Sound.none
    · rename_i e a n c h1 h2 h3
      rw [h3] at hx
      split
      · rename_i s h4 h5
        have hs := bytesA_sound hr hx h5
        generalize e' : ρ' x = z at hx hs
        refine Sound.val (v' := .string s) hr (.string s) ?_
        cases hx <;> simp only [execOp, e', convert, Sem.run_bind, run_underlying h1, run_underlying h2, run_underlying h4, Result.andThen_ok, hs, Sem.run_pure]
      · exact Sound.none
    · split
      · rename_i hf
        simp only [execOp, flat_eq hx hf]
        exact Sound.ofP hr
      · split
        · rename_i v hv
          obtain ⟨rfl, q⟩ := unsafeA_sound hr hx hv
          refine Sound.val hr hx ?_
          simp only [execOp]
          rw [Sem.run_bind, q]
          rfl
        · exact Sound.none
  case makeInterface t x => exact Sound.ofV hr (Sim.makeInterface (hρ x (by simp [Op.operands])) t)
  case makeFunc fn a c =>
    refine Sound.ofV hr (Sim.makeFunc (ARel.map fun x hx => hρ x ?_) (ARel.map fun x hx => hρ x ?_)) <;> simp [Op.operands] <;> simp_all
  case makeMap t r =>
    cases r with
    | none => exact Sound.ofV hr (Sim.makeMap t)
    | some x => exact Sound.none
  case makeSlice t l c => exact Sound.ofC hr (Sim.makeSlice hz t (hρ l (by simp [Op.operands])) (hρ c (by simp [Op.operands])))
  case slice t x lo hi mx =>
    have hx := hρ x (by simp [Op.operands])
    have h1 : ∀ y ∈ lo, VRel m (ρ y) (ρ' y) := fun y hy => hρ y (by cases hy; simp [Op.operands])
    have h2 : ∀ y ∈ hi, VRel m (ρ y) (ρ' y) := fun y hy => hρ y (by cases hy; simp [Op.operands])
    have h3 : ∀ y ∈ mx, VRel m (ρ y) (ρ' y) := fun y hy => hρ y (by cases hy; simp [Op.operands])
    have hof : ∀ (y : Option Operand), (∀ z ∈ y, VRel m (ρ z) (ρ' z)) → optFlat (y.map ρ) = true → y.map ρ' = y.map ρ := by
      intro y hy hf
      cases y with
      | none => rfl
      | some z => simp only [Option.map_some]; rw [flat_eq (hy z rfl) hf]
    simp only [opA]
    split
    · rename_i hf
      simp only [Bool.and_eq_true] at hf
      have e1 := hof lo h1 hf.1.1
      have e2 := hof hi h2 hf.1.2
      have e3 := hof mx h3 hf.2
      split
      · rename_i s hs
        rw [hs] at hx
        have e' : ρ' x = .string s := by generalize ρ' x = z at hx; cases hx; rfl
        simp only [execOp, e', e1, e2, e3]
        exact Sound.ofP hr
      · split
        · rename_i r hv
          obtain ⟨r', q1, q2⟩ := sliceA_sound hx hv w
          refine Sound.val hr q2 ?_
          simp only [execOp, e1, e2, e3, Sem.run_bind, q1, Result.andThen_ok, Sem.run_pure]
        · exact Sound.none
    · exact Sound.none
  case fieldAddr s x f => exact Sound.ofV hr (Sim.fieldAt (hρ x (by simp [Op.operands])) s f)
  case field s x f => exact Sound.ofV hr (Sim.field (hρ x (by simp [Op.operands])) s f)
  case indexAddr t x i => exact Sound.ofV hr (Sim.indexAt (hρ x (by simp [Op.operands])) (hρ i (by simp [Op.operands])) t)
  case index t x i => exact Sound.ofV hr (Sim.index (hρ x (by simp [Op.operands])) (hρ i (by simp [Op.operands])) t)
  case lookup t x i ok => exact Sound.ofV hr (Sim.lookup hz (hρ x (by simp [Op.operands])) (hρ i (by simp [Op.operands])) t ok)
  case mapUpdate t x i y => exact Sound.ofU hr (Sim.mapUpdate (hρ x (by simp [Op.operands])) (hρ i (by simp [Op.operands])) (hρ y (by simp [Op.operands])) t)
  case insert t x i y => exact Sound.ofU hr (Sim.mapUpdate (hρ x (by simp [Op.operands])) (hρ i (by simp [Op.operands])) (hρ y (by simp [Op.operands])) t)
  case extract x i => exact Sound.ofV hr (Sim.extract (hρ x (by simp [Op.operands])) i)
  case range t x =>
    have hx := hρ x (by simp [Op.operands])
    simp only [opA]
    split
    · rename_i s h1 h2
      rw [h2] at hx
      have e' : ρ' x = .string s := by generalize ρ' x = z at hx; cases hx; rfl
      intro out h' he
      split at he
      case isFalse => cases he
      rename_i hwin
      simp only [Nat.blt_eq] at hwin
      simp only [Option.some.injEq, Prod.mk.injEq] at he
      obtain ⟨rfl, rfl⟩ := he
      refine ⟨.value (.pointer (some ⟨w.heap.size, 0, Option.none⟩)), { w with heap := w.heap.push (.stringIter s 0) }, _, ?_, Ext.add (hr.fresh _ (Nat.le_refl _) hwin).2 hwin, hr.alloc hwin 0 _ _ ⟨heap_push_self w _, rfl⟩, ?_⟩
      · simp only [execOp, e', Instr.range, Sem.run_bind, run_underlying h1, Result.andThen_ok, Sem.run_pure, run_newObj]
      · exact .ptr _ 0 ⟨w.heap.size, 0, 0⟩ (Mu.add_self _ _ _)
    · rename_i kt et h1 h2
      rw [h2] at hx
      have e' : ρ' x = .map none := by generalize ρ' x = z at hx; cases hx; rfl
      intro out h' he
      split at he
      case isFalse => cases he
      rename_i hwin
      simp only [Nat.blt_eq] at hwin
      simp only [Option.some.injEq, Prod.mk.injEq] at he
      obtain ⟨rfl, rfl⟩ := he
      refine ⟨.value (.pointer (some ⟨w.heap.size, 0, Option.none⟩)), { w with heap := w.heap.push (.mapIter Option.none 0 #[] 0) }, _, ?_, Ext.add (hr.fresh _ (Nat.le_refl _) hwin).2 hwin, hr.alloc hwin 0 _ _ ⟨⟨Option.none, heap_push_self w _, trivial⟩, rfl⟩, ?_⟩
      · simp only [execOp, e', Instr.range, Sem.run_bind, run_underlying h1, Result.andThen_ok, Sem.run_pure, run_newObj]
      · exact .ptr _ 0 ⟨w.heap.size, 0, 0⟩ (Mu.add_self _ _ _)
    · rename_i kt et b h1 h2
      rw [h2] at hx
      generalize e' : ρ' x = z at hx
      cases hx with
      | map _ lb g1 =>
        split
        case h_2 => exact Sound.none
        rename_i es clock hb
        obtain ⟨lb', hlb', hpb', hokb⟩ := hr.obj b (by rw [hb]; intro h; cases h)
        obtain rfl : lb = lb' := by rw [g1] at hlb'; exact Option.some.inj hlb'
        rw [hb] at hokb
        obtain ⟨es', k1, k2, k3, k4⟩ := hokb
        have hg2 : (Go.getObj lb.blk).run P w = .ok (.map es' clock) w := by simp [Go.getObj, Sem.run, k1]
        intro out h' he
        split at he
        case isFalse => cases he
        rename_i hwin
        simp only [Nat.blt_eq] at hwin
        simp only [Option.some.injEq, Prod.mk.injEq] at he
        obtain ⟨rfl, rfl⟩ := he
        have hle : Mu.le m (m.add h.next ⟨w.heap.size, 0, 0⟩) := Mu.le_add (hr.fresh _ (Nat.le_refl _) hwin).2
        refine ⟨.value (.pointer (some ⟨w.heap.size, 0, Option.none⟩)), { w with heap := w.heap.push (.mapIter (some lb.blk) clock #[] clock) }, _, ?_, Ext.add (hr.fresh _ (Nat.le_refl _) hwin).2 hwin, hr.alloc hwin 0 _ _ ⟨⟨some lb.blk, heap_push_self w _, ⟨lb, hle _ _ g1, rfl⟩⟩, rfl⟩, ?_⟩
        · simp only [execOp, e', Instr.range, Sem.run_bind, run_underlying h1, Result.andThen_ok, hg2, Sem.run_pure, run_newObj]
        · exact .ptr _ 0 ⟨w.heap.size, 0, 0⟩ (Mu.add_self _ _ _)
    · exact Sound.none
  case entry it => exact entry_sound hr (hρ it (by simp [Op.operands]))
  case typeAssert x xt a ok => exact Sound.ofV hr (Sim.typeAssert hz (hρ x (by simp [Op.operands])) xt a ok)
  case next it b =>
    cases b with
    | true => exact next_sound hr (hρ it (by simp [Op.operands])) _
    | false => exact nextM_sound hr (hρ it (by simp [Op.operands])) _
  case call c =>
    obtain ⟨callee, args, argTypes⟩ := c
    have hargs : ARel m (args.map ρ) (args.map ρ') := ARel.map fun x hx => hρ x (by cases callee <;> simp [Op.operands, Call.operands] <;> simp_all)
    have hflat : (args.map ρ).toList.all flatV = true → args.map ρ' = args.map ρ := by
      intro hf
      refine Array.ext hargs.1.symm fun i a b => ?_
      exact flat_eq (hargs.2 i b a) (List.all_eq_true.1 hf _ (Array.mem_toList_iff.2 (Array.getElem_mem b)))
    simp only [opA]
    split
    · exact Sound.ofV hr (Sim.len hargs)
    · exact Sound.ofV hr (Sim.copy hargs)
    · exact Sound.ofV hr (Sim.clear hz hargs)
    · split
      · rename_i t x k h0 h1
        have hx : (args.map ρ)[0]? = some x := by rw [← Array.getElem?_toList, h1]; rfl
        have hk : (args.map ρ)[1]? = some k := by rw [← Array.getElem?_toList, h1]; rfl
        have hsz : (args.map ρ).size = 2 := by rw [← Array.length_toList, h1]; rfl
        have e0 : 0 < (args.map ρ').size := by rw [← hargs.1, hsz]; decide
        have e1 : 1 < (args.map ρ').size := by rw [← hargs.1, hsz]; decide
        have r0 := hargs.2 0 (by omega) e0
        have r1 := hargs.2 1 (by omega) e1
        rw [Array.getElem?_eq_getElem (by omega)] at hx hk
        rw [Option.some.inj hx] at r0
        rw [Option.some.inj hk] at r1
        exact Sound.ofV hr (Sim.delete r0 r1 t type h0 (Array.getElem?_eq_getElem e0) (Array.getElem?_eq_getElem e1))
      · exact Sound.none
    · intro out h' he
      split at he
      · rename_i r h1
        obtain ⟨v, h2⟩ := r
        simp only [Option.some.injEq, Prod.mk.injEq] at he
        obtain ⟨rfl, rfl⟩ := he
        obtain ⟨v', w', m', q1, q2, q3, q4⟩ := appendZ_sound (ty := type) hargs hr h1
        exact ⟨.value v', w', m', by simp only [execOp, resolve, pure_bind, invoke, builtin, Sem.run_bind, q1, Result.andThen_ok, Sem.run_pure], q2, q3, q4⟩
      cases h1 : appendA P argTypes (args.map ρ) h with
      | none => rw [h1] at he; cases he
      | some r =>
        obtain ⟨v, h2⟩ := r
        rw [h1] at he
        simp only [outV, Option.some.injEq, Prod.mk.injEq] at he
        obtain ⟨rfl, rfl⟩ := he
        obtain ⟨v', w', m', q1, q2, q3, q4⟩ := appendA_sound (ty := type) hargs hr h1
        exact ⟨.value v', w', m', by simp only [execOp, resolve, pure_bind, invoke, builtin, Sem.run_bind, q1, Result.andThen_ok, Sem.run_pure], q2, q3, q4⟩
    · split
      · rename_i t base n k ht0 hx
        split
        · rename_i e hu
          split
          · rename_i hk
            rw [Nat.ble_eq] at hk
            generalize hq : Array.map ρ args = q at hx hargs
            generalize hq' : Array.map ρ' args = q' at hargs
            obtain rfl : q = #[.slice base n k] := Array.ext' hx
            obtain ⟨al⟩ := q'
            have hal : al.length = 1 := hargs.1.symm
            obtain ⟨x', rfl⟩ : ∃ x', al = [x'] := by
              match al, hal with
              | [p], _ => exact ⟨p, rfl⟩
            have hv : VRel m (.slice base n k) x' := hargs.2 0 (by simp) (by simp)
            obtain ⟨base', rfl⟩ : ∃ base', x' = .slice base' n k := by
              cases hv with
              | nilSlice => exact ⟨_, rfl⟩
              | slice _ _ _ _ l hm hc => exact ⟨_, rfl⟩
              | oslice _ _ _ k l hm h1 h2 h3 => unfold OPEN at hk; unfold HALF at *; omega
              | oslice0 _ _ k l a hm h1 h2 => unfold OPEN at hk; unfold HALF at *; omega
              | slice0 _ _ a => exact ⟨_, rfl⟩
            refine Sound.val hr (v' := goInt k) (.int _ _) ?_
            have hcap : (Builtin.cap_ argTypes type #[.slice base' n k]).run P w = .ok (goInt k) w := by
              unfold Builtin.cap_
              rw [ht0]
              show (Go.underlying t >>= _).run P w = _
              rw [Sem.run_bind, run_underlying hu]
              rfl
            simp only [execOp, resolve, pure_bind, invoke, builtin]
            rw [hq', Sem.run_bind, hcap]
            rfl
          · exact Sound.none
        · exact Sound.none
      · exact Sound.none
    · split
      · rename_i hf
        have := Sound.ofP (P := P) hr (s := Builtin.min_ argTypes type (args.map ρ))
        rw [← hflat hf] at this ⊢
        exact this
      · exact Sound.none
    · split
      · rename_i hf
        have := Sound.ofP (P := P) hr (s := Builtin.max_ argTypes type (args.map ρ))
        rw [← hflat hf] at this ⊢
        exact this
      · exact Sound.none
    · rename_i f
      have hf := hρ f (by simp [Op.operands, Call.operands])
      split
      · rename_i g first captured hg
        rw [hg] at hf
        split
        · rename_i hen
          intro out h' he
          simp only [Option.some.injEq, Prod.mk.injEq] at he
          obtain ⟨rfl, rfl⟩ := he
          generalize e' : ρ' f = z at hf
          cases hf with
          | func _ _ first' _ captured' a1 a2 a3 a4 =>
            refine ⟨.enter g (first' ++ args.map ρ' ++ captured'), w, m, ?_, Ext.refl _ m, hr, rfl, (ARel.append ⟨a1, a2⟩ hargs).append ⟨a3, a4⟩⟩
            simp only [execOp, resolve, e', Deferred.ofValue, pure_bind, invoke]
            exact (hE g).1 hen _ _
        · rename_i hen
          split
          · rename_i x hx
            generalize e' : ρ' f = z at hf
            cases hf with
            | func _ _ first' _ captured' a1 a2 a3 a4 =>
              have hrel := (ARel.append ⟨a1, a2⟩ hargs).append (m := m) ⟨a3, a4⟩
              generalize hq : first ++ Array.map ρ args ++ captured = q at hx hrel
              generalize hq' : first' ++ Array.map ρ' args ++ captured' = q' at hrel
              obtain rfl : q = #[x] := Array.ext' hx
              obtain ⟨al⟩ := q'
              have hal : al.length = 1 := hrel.1.symm
              obtain ⟨x', rfl⟩ : ∃ x', al = [x'] := by
                match al, hal with
                | [p], _ => exact ⟨p, rfl⟩
              refine Sound.val hr (hrel.2 0 (by simp) (by simp) : VRel m x x') ?_
              simp only [execOp, resolve, e', Deferred.ofValue, pure_bind, invoke]
              rw [hq']
              exact (hE g).2.1 hen _ _
          · exact Sound.none
        · rename_i k hen
          split
          · rename_i v hv
            obtain ⟨f1, f2, f3⟩ := (hE g).2.2.1 k hen _ _ hv
            generalize e' : ρ' f = z at hf
            cases hf with
            | func _ _ first' _ captured' a1 a2 a3 a4 =>
              have hrel := (ARel.append ⟨a1, a2⟩ hargs).append (m := m) ⟨a3, a4⟩
              have heq : first' ++ Array.map ρ' args ++ captured' = first ++ Array.map ρ args ++ captured := by
                refine Array.ext hrel.1.symm fun i a b => ?_
                exact flat_eq (hrel.2 i b a) (List.all_eq_true.1 f1 _ (Array.mem_toList_iff.2 (Array.getElem_mem b)))
              refine Sound.val hr (v' := v) (vflat_rel m 8 v f2) ?_
              simp only [execOp, resolve, e', Deferred.ofValue, pure_bind, invoke]
              rw [heq]
              have := f3 w
              rw [Array.toArray_toList] at this
              exact this
          · exact Sound.none
        · rename_i hen
          split
          · rename_i t r hx
            generalize e' : ρ' f = z at hf
            cases hf with
            | func _ _ first' _ captured' a1 a2 a3 a4 =>
              have hrel := (ARel.append ⟨a1, a2⟩ hargs).append (m := m) ⟨a3, a4⟩
              generalize hq : first ++ Array.map ρ args ++ captured = q at hx hrel
              generalize hq' : first' ++ Array.map ρ' args ++ captured' = q' at hrel
              obtain rfl : q = #[.iface t (.map (some r))] := Array.ext' hx
              obtain ⟨al⟩ := q'
              have hal : al.length = 1 := hrel.1.symm
              obtain ⟨x', rfl⟩ : ∃ x', al = [x'] := by
                match al, hal with
                | [p], _ => exact ⟨p, rfl⟩
              have hv : VRel m (.iface t (.map (some r))) x' := hrel.2 0 (by simp) (by simp)
              obtain ⟨l, rfl, hm⟩ : ∃ l, x' = .iface t (.map (some l.blk)) ∧ m r = some l := by
                cases hv with
                | iface _ _ v' hv =>
                  cases hv with
                  | map _ l hm => exact ⟨l, rfl, hm⟩
              intro out h' he
              obtain ⟨nx, w', m', k1, k2⟩ := Sound.ofV hr (Sim.mapClone hm) out h' he
              refine ⟨nx, w', m', ?_, k2⟩
              simp only [execOp, resolve, e', Deferred.ofValue, pure_bind, invoke]
              rw [hq', (hE g).2.2.2.1 hen _ _]
              exact k1
          · exact Sound.none
        · rename_i t hen
          split
          · rename_i b o n k b2 o2 n2 k2 hx
            split
            · rename_i hap
              rw [Bool.and_eq_true, Bool.and_eq_true, Nat.blt_eq, Nat.blt_eq] at hap
              obtain ⟨⟨hn0, hn20⟩, hap⟩ := hap
              generalize e' : ρ' f = z at hf
              cases hf with
              | func _ _ first' _ captured' a1 a2 a3 a4 =>
                have hrel := (ARel.append ⟨a1, a2⟩ hargs).append (m := m) ⟨a3, a4⟩
                generalize hq : first ++ Array.map ρ args ++ captured = q at hx hrel
                generalize hq' : first' ++ Array.map ρ' args ++ captured' = q' at hrel
                obtain rfl : q = #[.slice (some ⟨b, o, none⟩) n k, .slice (some ⟨b2, o2, none⟩) n2 k2] := Array.ext' hx
                obtain ⟨al⟩ := q'
                have hal : al.length = 2 := hrel.1.symm
                obtain ⟨x', y', rfl⟩ : ∃ x' y', al = [x', y'] := by
                  match al, hal with
                  | [p, q], _ => exact ⟨p, q, rfl⟩
                have hv : VRel m (.slice (some ⟨b, o, none⟩) n k) x' := hrel.2 0 (by simp) (by simp)
                have hv2 : VRel m (.slice (some ⟨b2, o2, none⟩) n2 k2) y' := hrel.2 1 (by simp) (by simp)
                obtain ⟨tr, hrun⟩ := (hE g).2.2.2.2 t hen
                have sl : ∀ {b o n k : Nat} {x' : Value}, 0 < n → VRel m (.slice (some ⟨b, o, none⟩) n k) x' → ∃ l o' c, m b = some l ∧ x' = .slice (some ⟨l.blk, o', none⟩) n c ∧ o' = l.off + o := by
                  intro b o n k x' h0 hv
                  cases hv with
                  | slice _ _ _ _ l hm hc => exact ⟨l, _, _, hm, rfl, rfl⟩
                  | oslice _ _ _ k l hm h1 h2 h3 => exact ⟨l, _, _, hm, rfl, rfl⟩
                  | oslice0 _ _ k l a hm h1 h2 => exact absurd h0 (Nat.lt_irrefl 0)
                  | slice0 _ _ a => exact absurd h0 (Nat.lt_irrefl 0)
                have fin : (callFunc g #[x', y']).run P w = .ok (.value (.bool false)) w := by
                  rw [hrun]
                  obtain ⟨l, o', c, hl, rfl, rfl⟩ := sl hn0 hv
                  obtain ⟨l2, o2', c2, hl2, rfl, rfl⟩ := sl hn20 hv2
                  rw [apart_run hr hap hl hl2]
                  rfl
                refine Sound.val hr (v' := .bool false) (.bool _) ?_
                simp only [execOp, resolve, e', Deferred.ofValue, pure_bind, invoke]
                rw [hq']
                exact fin
            · exact Sound.none
          · exact Sound.none
        · exact Sound.none
      · exact Sound.none
    · split
      · rename_i a n k hx
        split
        · rename_i hc
          simp only [Bool.and_eq_true, Bool.not_eq_true'] at hc
          have hn : n ≠ 0 := by intro e; rw [e] at hc; simp at hc
          have hk : k ≠ 0 := by intro e; rw [e] at hc; simp at hc
          generalize hq : Array.map ρ args = q at hx hargs
          generalize hq' : Array.map ρ' args = q' at hargs
          obtain rfl : q = #[.slice (some a) n k] := Array.ext' hx
          obtain ⟨al⟩ := q'
          have hal : al.length = 1 := hargs.1.symm
          obtain ⟨x', rfl⟩ : ∃ x', al = [x'] := by
            match al, hal with
            | [p], _ => exact ⟨p, rfl⟩
          have hv : VRel m (.slice (some a) n k) x' := hargs.2 0 (by simp) (by simp)
          have fin : ∀ (a' : Addr) (c' : Nat), c' ≠ 0 → x' = .slice (some a') n c' → VRel m (.pointer (some a)) (.pointer (some a')) → Sound P B h m (some (.val (.pointer (some a)), h)) (execOp ρ' ⟨dst, .call ⟨.builtin .unsafeSliceData, args, argTypes⟩, type, pos, after, guard⟩) w := by
            intro a' c' hc' hx' hv'
            refine Sound.val hr hv' ?_
            simp only [execOp, resolve, pure_bind, invoke, builtin]
            rw [hq', hx', Sem.run_bind, Lib.run_unsafeSliceData_row w argTypes type a' n c' hc']
            rfl
          cases hv with
          | slice b o _ _ l hm hc2 => exact fin _ _ hk rfl (.ptr b o l hm)
          | oslice b o _ k0 l hm g1 g2 g3 => exact fin _ _ (by omega) rfl (.ptr b o l hm)
          | oslice0 b o k0 l a hm g1 g2 => exact absurd rfl hn
          | slice0 b o a => exact absurd rfl hn
        · exact Sound.none
      · exact Sound.none
    · intro out h' he
      cases h1 : unsafeStrA P argTypes (args.map ρ).toList h with
      | none => rw [h1] at he; cases he
      | some r =>
        obtain ⟨v, h2⟩ := r
        rw [h1] at he
        simp only [outV, Option.some.injEq, Prod.mk.injEq] at he
        obtain ⟨rfl, rfl⟩ := he
        obtain ⟨w', q1, q2, q3⟩ := unsafeStrA_sound (ty := type) hr hargs h1
        exact ⟨.value v, w', m, by simp only [execOp, resolve, pure_bind, invoke, builtin, Sem.run_bind, q1, Result.andThen_ok, Sem.run_pure], Ext.refl _ m, q2, q3⟩
    · rename_i recv name
      have hf := hρ recv (by simp [Op.operands, Call.operands])
      split
      · rename_i t v hg
        rw [hg] at hf
        split
        · rename_i f x hm
          split
          · rename_i hen
            intro out h' he
            simp only [Option.some.injEq, Prod.mk.injEq] at he
            obtain ⟨rfl, rfl⟩ := he
            generalize e' : ρ' recv = z at hf
            cases hf with
            | iface _ _ v' hv =>
              obtain ⟨k, hk⟩ : ∃ k, P.types.size + Made.depth = k + 1 := ⟨P.types.size + (Made.depth - 1), by rw [Nat.add_assoc]; rfl⟩
              obtain ⟨x', hx', hrun⟩ := methA_run (P := P) (w := w) (k := k) hv hm
              refine ⟨.enter f (#[x'] ++ args.map ρ'), w, m, ?_, Ext.refl _ m, hr, rfl, ARel.append ⟨rfl, fun i a b => ?_⟩ hargs⟩
              · have hx : (#[Value.iface t v'] ++ args.map ρ').extract 1 (#[Value.iface t v'] ++ args.map ρ').size = args.map ρ' := by
                  simp [Array.extract_append]
                have h0 : (#[Value.iface t v'] ++ args.map ρ')[0]? = some (.iface t v') := (Array.getElem?_append_left (xs := #[Value.iface t v']) (ys := args.map ρ') (i := 0) (show 0 < 1 by decide)).trans rfl
                simp only [execOp, resolve, e', pure_bind, invoke, h0, hx, callMethod, Sem.run_bind, run_program, Result.andThen_ok, hk, hrun]
                exact (hE f).1 hen _ _
              · have : i = 0 := by simp at a; omega
                subst this
                exact hx'
          · exact Sound.none
        · exact Sound.none
      · exact Sound.none
    · exact Sound.none
end
end Go.Ab
namespace Go.Ab
open Go
section
variable {P : Program} {B : Base}

/-! ## Slots -/
def Tget (T : Tree Value) (t : Tmp) : Value := T.get undef t
def Tput (T : Tree Value) (dst : Option Tmp) (v : Value) : Tree Value := match dst with | some d => T.set undef d v | none => T
def rhoA (T : Tree Value) : Operand → Value
  | .tmp t => Tget T t
  | .const v => v
  | .global g => .pointer (some ⟨g, 0, none⟩)
  | .func f => .func (.func f) #[] #[]

structure TRel (m : Mu) (n : Nat) (T : Tree Value) (tmps : Array Value) : Prop where
  size : tmps.size = n
  rel : ∀ t, VRel m (Tget T t) (tmps.getD t undef)

theorem undef_rel (m : Mu) : VRel m undef undef := .tuple _ _ rfl (fun i h => by simp at h)

theorem TRel.mono {m m' : Mu} {n : Nat} {T : Tree Value} {tmps : Array Value} (h : TRel m n T tmps) (hm : Mu.le m m') : TRel m' n T tmps := ⟨h.size, fun t => (h.rel t).mono hm⟩
theorem TRel.put {m : Mu} {n : Nat} {T : Tree Value} {a : Act} {dst : Option Tmp} {v v' : Value} (h : TRel m n T a.tmps) (hd : ∀ d, dst = some d → d < n) (hv : VRel m v v') :
    TRel m n (Tput T dst v) (a.put dst v').tmps := by
  cases dst with
  | none => exact h
  | some d =>
    have hdn := hd d rfl
    refine ⟨by simp [Act.put, h.size], fun t => ?_⟩
    have := h.rel t
    simp only [Tput, Tget, Tree.get_set, Act.put, Array.getD_eq_getD_getElem?, Array.getElem?_setIfInBounds]
    by_cases e : t = d
    · subst e
      rw [if_pos rfl, if_pos rfl, if_pos (by rw [h.size]; exact hdn)]
      exact hv
    · rw [if_neg e, if_neg (fun x => e x.symm)]
      simpa [Tget, Array.getD_eq_getD_getElem?] using this

def opndOk (G : Nat) : Operand → Bool
  | .const v => vflat 8 v
  | .global g => Nat.blt g G
  | _ => true
def opOk (G n : Nat) (o : Oper) : Bool := o.op.operands.toList.all (opndOk G) && (match o.dst with | some d => Nat.blt d n | none => true)
def GRel (G : Nat) (m : Mu) : Prop := ∀ g, g < G → ∃ l, m g = some l ∧ l.blk = g ∧ l.off = 0
theorem GRel.mono {G : Nat} {m m' : Mu} (h : GRel G m) (hm : Mu.le m m') : GRel G m' := fun g hg => let ⟨l, a, b⟩ := h g hg; ⟨l, hm _ _ a, b⟩

theorem rho_rel {m : Mu} {n G : Nat} {T : Tree Value} {a : Act} (hT : TRel m n T a.tmps) (hG : GRel G m) {x : Operand} (hx : opndOk G x = true) : VRel m (rhoA T x) (a.eval x) := by
  cases x with
  | tmp t => exact hT.rel t
  | const v => exact vflat_rel m 8 v hx
  | global g =>
    obtain ⟨l, h1, h2, h3⟩ := hG g (by simpa [opndOk] using hx)
    have := VRel.ptr (m := m) g 0 l h1
    rw [h2, h3] at this
    exact this
  | func f => exact .func _ _ _ _ _ rfl (fun i h => by simp at h) rfl (fun i h => by simp at h)

/-- Is the operation wanted? -/
def wantedA (ops : Array Oper) (o : Oper) (T : Tree Value) : Bool :=
  match o.guard with
  | none => true
  | some (j, want) => match (ops[j]?).bind (·.dst) with
    | some d => match Tget T d with
      | .bool b => b == want
      | _ => false
    | none => false

theorem wanted_eq' {m : Mu} {n : Nat} {T : Tree Value} {a : Act} (hs : a.tmps.size = n) (ops : Array Oper) (o : Oper)
    (hd : ∀ (j : Nat) (w : Bool) (d : Nat), o.guard = some (j, w) → (ops[j]?).bind (·.dst) = some d → d < n ∧ VRel m (Tget T d) (a.tmps.getD d undef)) :
    Region.wanted o (yielded ops a.tmps) = wantedA ops o T := by
  unfold Region.wanted wantedA
  cases hg : o.guard with
  | none => rfl
  | some g =>
    obtain ⟨j, want⟩ := g
    dsimp only
    unfold yielded
    cases hj : (ops[j]?).bind (·.dst) with
    | none => simp
    | some d =>
      obtain ⟨hdn, hr⟩ := hd j want d hg hj
      have hs : a.tmps[d]? = some (a.tmps.getD d undef) := by
        rw [Array.getD_eq_getD_getElem?, Array.getElem?_eq_getElem (by rw [hs]; exact hdn)]; rfl
      simp only [Option.bind_some, hs]
      generalize a.tmps.getD d undef = z at hr
      generalize Tget T d = y at hr
      cases hr <;> first | rfl | (simp; done) | (rename_i h0 h1 h2; revert h0; cases z <;> intro h0 <;> first | (simp; done) | exact absurd rfl (h0 _))
theorem wanted_eq {m : Mu} {n : Nat} {T : Tree Value} {a : Act} (hT : TRel m n T a.tmps) (ops : Array Oper) (o : Oper) (hd : ∀ (j : Nat) (d : Nat), (ops[j]?).bind (·.dst) = some d → d < n) :
    Region.wanted o (yielded ops a.tmps) = wantedA ops o T :=
  wanted_eq' hT.size ops o fun j _ d _ e => ⟨hd j d e, hT.rel d⟩

/-! ## A callee's results -/
def isAggD : TypeDesc → Bool
  | .struct _ | .array _ _ => true
  | _ => false
def loadA (P : Program) (h : AHeap) (t : TypeId) (v : Value) : Option Value :=
  match v with
  | .pointer (some ⟨b, o, none⟩) =>
    match rowIn (h.get b), P.underlying t, P.info? t with
    | some c, some d, some i =>
      if isAggD d then (if Nat.ble (o + i.size) c.len then some (.agg ⟨c.part o i.size⟩) else none)
      else c.get? o
    | _, _, _ => none
  | _ => none

theorem run_isAgg {t : TypeId} {d : TypeDesc} (h : P.underlying t = some d) (w : World) : (Go.isAgg t).run P w = .ok (isAggD d) w := by
  unfold Go.isAgg
  rw [Sem.run_bind, run_underlying h, Result.andThen_ok]
  cases d <;> rfl

theorem loadA_sound {m : Mu} {h : AHeap} {w : World} (hr : Rel P B m h w) {t : TypeId} {v v' r : Value} (hv : VRel m v v') (he : loadA P h t v = some r) :
    ∃ r', (do loadVar t (← asAddr v') : Sem Value).run P w = .ok r' w ∧ VRel m r r' := by
  unfold loadA at he
  split at he <;> try (cases he; done)
  rename_i b o
  cases hv with
  | ptr _ _ l hm =>
    split at he <;> try (cases he; done)
    rename_i c d i hb hu hi
    split at he
    · rename_i hd
      split at he
      · rename_i hlen
        simp only [Nat.ble_eq] at hlen
        obtain rfl := Option.some.inj he
        obtain ⟨xs', h1, h2⟩ := load_row hr hm hb rfl hlen
        refine ⟨.agg xs', ?_, VRel.agg' h2⟩
        simp only [Go.asAddr, pure_bind, loadVar, Sem.run_bind, run_isAgg hu, Result.andThen_ok, hd, if_true, run_sizeOf' hi, h1, Sem.run_pure]
      · cases he
    · rename_i hd
      obtain ⟨l', hl', _, hok⟩ := hr.obj b (rowIn_live hb)
      obtain rfl : l = l' := by rw [hm] at hl'; exact Option.some.inj hl'
      obtain ⟨_, C, te, fr, h1, h3, h4⟩ := okRow hok hb
      obtain ⟨r', hr1, hr2⟩ := h4 _ _ he
      refine ⟨r', ?_, hr2⟩
      have hcell : w.cell? ⟨l.blk, l.off + o, Option.none⟩ = some r' := by simp [World.cell?, h1, hr1]
      simp only [Bool.not_eq_true] at hd
      simp only [Go.asAddr, pure_bind, loadVar, Sem.run_bind, run_isAgg hu, Result.andThen_ok, hd, Bool.false_eq_true, if_false, run_load, hcell]

def resA (P : Program) (h : AHeap) (T : Tree Value) : List ResultVar → Option (List Value)
  | [] => some []
  | .tmp t :: rest => match resA P h T rest with | some l => some (Tget T t :: l) | none => none
  | .cell a t :: rest => match loadA P h t (Tget T a), resA P h T rest with | some v, some l => some (v :: l) | _, _ => none
def oneA : List Value → Value
  | [v] => v
  | l => .tuple l.toArray

theorem resA_sound {m : Mu} {n : Nat} {h : AHeap} {w : World} {T : Tree Value} {a : Act} (hr : Rel P B m h w) (hT : TRel m n T a.tmps) {f : ResultVar → Sem Value}
    (hf1 : ∀ t, f (.tmp t) = pure (a.tmps.getD t undef)) (hf2 : ∀ x t, f (.cell x t) = do loadVar t (← asAddr (a.tmps.getD x undef))) :
    ∀ (rs : List ResultVar) (vs : List Value), resA P h T rs = some vs → ∃ vs', (rs.mapM f).run P w = .ok vs' w ∧ ARel m vs.toArray vs'.toArray := by
  intro rs
  induction rs with
  | nil =>
    intro vs he
    simp only [resA, Option.some.injEq] at he
    subst he
    exact ⟨[], rfl, ARel.empty⟩
  | cons r rs ih =>
    have cons : ∀ (v v' : Value) (l l' : List Value), VRel m v v' → ARel m l.toArray l'.toArray → ARel m (v :: l).toArray (v' :: l').toArray := by
      intro v v' l l' hv hl
      have e1 : (v :: l).toArray = #[v] ++ l.toArray := by simp
      have e2 : (v' :: l').toArray = #[v'] ++ l'.toArray := by simp
      rw [e1, e2]; exact (ARel.single hv).append hl
    intro vs he
    cases r with
    | tmp t =>
      simp only [resA] at he
      split at he <;> try (cases he; done)
      rename_i l hl
      obtain rfl := Option.some.inj he
      obtain ⟨l', h1, h2⟩ := ih l hl
      refine ⟨a.tmps.getD t undef :: l', ?_, cons _ _ _ _ (hT.rel t) h2⟩
      rw [List.mapM_cons, hf1]
      simp only [pure_bind, Sem.run_bind, h1, Result.andThen_ok, Sem.run_pure]
    | cell x t =>
      simp only [resA] at he
      split at he <;> try (cases he; done)
      rename_i v l hv hl
      obtain rfl := Option.some.inj he
      obtain ⟨l', h1, h2⟩ := ih l hl
      obtain ⟨v', q1, q2⟩ := loadA_sound hr (hT.rel x) hv
      refine ⟨v' :: l', ?_, cons _ _ _ _ q2 h2⟩
      rw [List.mapM_cons, hf2, Sem.run_bind, q1, Result.andThen_ok, Sem.run_bind, h1]
      rfl

theorem results_sound {m : Mu} {n : Nat} {h : AHeap} {w : World} {T : Tree Value} {a : Act} (hr : Rel P B m h w) (hT : TRel m n T a.tmps) {fn : Func} {vs : List Value}
    (he : resA P h T fn.results.toList = some vs) : ∃ v', (results fn a.tmps).run P w = .ok v' w ∧ VRel m (oneA vs) v' := by
  obtain ⟨vs', h1, h2⟩ := resA_sound (a := a) hr hT (f := fun
    | .tmp t => pure (a.tmps.getD t undef)
    | .cell x t => do loadVar t (← asAddr (a.tmps.getD x undef))) (fun _ => rfl) (fun _ _ => rfl) fn.results.toList vs he
  have e : (fn.results.mapM (m := Sem) fun
    | .tmp t => pure (a.tmps.getD t undef)
    | .cell x t => do loadVar t (← asAddr (a.tmps.getD x undef))).run P w = .ok vs'.toArray w := by
    rw [Array.mapM_eq_mapM_toList, Sem.run_map, h1]; rfl
  refine ⟨if h : vs'.toArray.size = 1 then vs'.toArray[0] else .tuple vs'.toArray, ?_, ?_⟩
  · unfold results
    rw [Sem.run_bind]
    exact (congrArg (fun r : Result (Array Value) => r.andThen fun vs w => (pure (if h : vs.size = 1 then vs[0] else .tuple vs) : Sem Value).run P w) e).trans rfl
  · have hs := h2.1
    simp only [List.size_toArray] at hs
    match vs, vs', hs, h2 with
    | [], [], _, h2 => exact .tuple _ _ h2.1 h2.2
    | [v], [v'], _, h2 => exact h2.2 0 (by simp) (by simp)
    | v :: u :: l, v' :: u' :: l', _, h2 => simp only [oneA]; rw [dif_neg (by simp)]; exact .tuple _ _ h2.1 h2.2
end
end Go.Ab
namespace Go.Ab
open Go
section
variable {P : Program}

abbrev CallF := FuncId → Array Value → AHeap → Option (Value × AHeap)
def CallSound (P : Program) (G : Nat) (callF : CallF) : Prop :=
  ∀ f args h v h', callF f args h = some (v, h') → Nx h h' ∧
    ∀ (B : Base) m args' w, ARel m args args' → Rel P B m h w → GRel G m →
      Calls P f args' w (fun e w' => ∃ v' m', e = .returned v' ∧ Ext h m m' ∧ Rel P B m' h' w' ∧ VRel m' v v')

/-- One operation: the value for its slot, and the memory behind it. -/
def stepA (P : Program) (enters : FuncId → FKind) (callF : CallF) (ops : Array Oper) (o : Oper) (T : Tree Value) (h : AHeap) : Option (Value × AHeap) :=
  match wantedA ops o T with
  | true => match opA P enters (rhoA T) o h with
    | some (.val v, h') => some (v, h')
    | some (.skip, h') => some (undef, h')
    | some (.call f args, h') => callF f args h'
    | none => none
  | false => some (undef, h)

theorem appendA_next {ts : Array TypeId} {args : Array Value} {h h' : AHeap} {v : Value} (he : appendA P ts args h = some (v, h')) : Nx h h' := by
  unfold appendA at he
  repeat' split at he
  all_goals first
    | (cases he; done)
    | (simp only [Option.some.injEq, Prod.mk.injEq] at he
       obtain ⟨_, rfl⟩ := he
       first
         | exact Nx.refl _
         | (refine Nx.put ?_; simp_all; done)
         | (refine Nx.push ?_; simp_all; done)
         | (refine (Nx.kill _ _).trans (Nx.push ?_); show h.next < h.lim; simp_all; done))

theorem appendZ_next {ts : Array TypeId} {args : Array Value} {h h' : AHeap} {v : Value} (he : appendZ P ts args h = some (v, h')) : Nx h h' := by
  unfold appendZ at he
  repeat' split at he
  all_goals first
    | (cases he; done)
    | (simp only [Option.some.injEq, Prod.mk.injEq] at he
       obtain ⟨_, rfl⟩ := he
       refine Nx.push ?_
       simp_all)
theorem opA_next {enters : FuncId → FKind} {ρ : Operand → Value} {o : Oper} {h h' : AHeap} {out : Out} (he : opA P enters ρ o h = some (out, h')) : Nx h h' := by
  have hV : ∀ (s : Sem Value), outV (s.runA P h) = some (out, h') → Nx h h' := by
    intro s e
    cases h1 : s.runA P h with
    | none => rw [h1] at e; cases e
    | some r =>
      obtain ⟨v, h2⟩ := r
      rw [h1] at e
      simp only [outV, Option.some.injEq, Prod.mk.injEq] at e
      obtain ⟨_, rfl⟩ := e
      exact runA_nx P s _ _ _ h1
  have hC : ∀ (s : Sem Value), outC (s.runA P h) = some (out, h') → Nx h h' := by
    intro s e
    cases h1 : s.runA P h with
    | none => rw [h1] at e; cases e
    | some r =>
      obtain ⟨v, h2⟩ := r
      rw [h1] at e
      simp only [outC] at e
      split at e
      · simp only [Option.some.injEq, Prod.mk.injEq] at e
        obtain ⟨_, rfl⟩ := e
        exact runA_nx P s _ _ _ h1
      · cases e
  have hU : ∀ (s : Sem Unit), outU (s.runA P h) = some (out, h') → Nx h h' := by
    intro s e
    cases h1 : s.runA P h with
    | none => rw [h1] at e; cases e
    | some r =>
      obtain ⟨v, h2⟩ := r
      rw [h1] at e
      simp only [outU, Option.some.injEq, Prod.mk.injEq] at e
      obtain ⟨_, rfl⟩ := e
      exact runA_nx P s _ _ _ h1
  have hP : ∀ (s : Option Value), outP s h = some (out, h') → Nx h h' := by
    intro s e
    unfold outP at e
    split at e
    · split at e
      · simp only [Option.some.injEq, Prod.mk.injEq] at e
        obtain ⟨_, rfl⟩ := e
        exact Nx.refl _
      · cases e
    · cases e
  have hN : ∀ it, outV (nextA it h) = some (out, h') → Nx h h' := by
    intro it e
    unfold nextA at e
    repeat' split at e
    all_goals first
      | (cases e; done)
      | (simp only [outV, Option.some.injEq, Prod.mk.injEq] at e; obtain ⟨_, rfl⟩ := e; first | exact Nx.refl _ | (refine Nx.put ?_; simp_all; done))
  have hM : ∀ it, outV (nextM it h) = some (out, h') → Nx h h' := by
    intro it e
    unfold nextM at e
    repeat' split at e
    all_goals first
      | (cases e; done)
      | (simp only [outV, Option.some.injEq, Prod.mk.injEq] at e; obtain ⟨_, rfl⟩ := e; first | exact Nx.refl _ | (refine Nx.put ?_; simp_all; done))
  have hE : ∀ it, outV (entryA it h) = some (out, h') → Nx h h' := by
    intro it e
    unfold entryA at e
    repeat' split at e
    all_goals first
      | (cases e; done)
      | (simp only [outV, Option.some.injEq, Prod.mk.injEq] at e; obtain ⟨_, rfl⟩ := e; exact Nx.refl _)
  have hA : ∀ ts as, outV (appendA P ts as h) = some (out, h') → Nx h h' := by
    intro ts as e
    cases h1 : appendA P ts as h with
    | none => rw [h1] at e; cases e
    | some r =>
      obtain ⟨v, h2⟩ := r
      rw [h1] at e
      simp only [outV, Option.some.injEq, Prod.mk.injEq] at e
      obtain ⟨_, rfl⟩ := e
      exact appendA_next h1
  have hS : ∀ ts as, outV (unsafeStrA P ts as h) = some (out, h') → Nx h h' := by
    intro ts as e
    unfold unsafeStrA at e
    repeat' split at e
    all_goals first
      | (cases e; done)
      | (simp only [outV, Option.some.injEq, Prod.mk.injEq] at e; obtain ⟨_, rfl⟩ := e; exact Nx.kill _ _)
  unfold opA at he
  repeat' split at he
  all_goals first
    | (cases he; done)
    | exact hS _ _ he
    | exact hV _ he
    | exact hC _ he
    | exact hU _ he
    | exact hP _ he
    | exact hN _ he
    | exact hM _ he
    | exact hE _ he
    | exact hA _ _ he
    | (rename_i r hz
       obtain ⟨v2, h2⟩ := r
       have hz2 := appendZ_next hz
       simp only [Option.some.injEq, Prod.mk.injEq] at he
       obtain ⟨_, rfl⟩ := he
       exact hz2)
    | (simp only [Option.some.injEq, Prod.mk.injEq] at he
       obtain ⟨_, rfl⟩ := he
       first
         | exact Nx.refl _
         | (refine Nx.push ?_; simp_all; done))

theorem stepA_next {G : Nat} {enters : FuncId → FKind} {callF : CallF} (hC : CallSound P G callF) {ops : Array Oper} {o : Oper} {T : Tree Value} {h h' : AHeap} {v : Value}
    (he : stepA P enters callF ops o T h = some (v, h')) : Nx h h' := by
  unfold stepA at he
  split at he
  · split at he
    · rename_i h1; simp only [Option.some.injEq, Prod.mk.injEq] at he; obtain ⟨_, rfl⟩ := he; exact opA_next h1
    · rename_i h1; simp only [Option.some.injEq, Prod.mk.injEq] at he; obtain ⟨_, rfl⟩ := he; exact opA_next h1
    · rename_i h1
      exact (opA_next h1).trans (hC _ _ _ _ _ he).1
    · cases he
  · simp only [Option.some.injEq, Prod.mk.injEq] at he; obtain ⟨_, rfl⟩ := he; exact Nx.refl _

theorem stepA_sound' {B : Base} {G : Nat} {enters : FuncId → FKind} {callF : CallF} (hE : Enters P enters) (hz : ZF P) (hC : CallSound P G callF) {ops : Array Oper} {o : Oper} {T : Tree Value} {h h' : AHeap} {v : Value}
    (he : stepA P enters callF ops o T h = some (v, h')) {m : Mu} {a : Act} {w : World} (hr : Rel P B m h w) (hG : GRel G m) (hρ : ∀ x ∈ o.op.operands.toList, VRel m (rhoA T x) (a.eval x))
    (hw : Region.wanted o (yielded ops a.tmps) = wantedA ops o T)
    {K : Act → World → Prop} {Q : Exit → Act → World → Prop} (hK : ∀ m' v' w', Ext h m m' → Rel P B m' h' w' → VRel m' v v' → K (a.put o.dst v') w') :
    if Region.wanted o (yielded ops a.tmps) then o.wp P a w K Q else K (a.put o.dst undef) w := by
  unfold stepA at he
  split at he
  · rename_i h0
    rw [hw, h0, if_pos rfl]
    have hs := opA_sound hE hz (o := o) (ρ := rhoA T) (ρ' := a.eval) hr hρ
    unfold Oper.wp
    split at he
    · rename_i x hx h1
      simp only [Option.some.injEq, Prod.mk.injEq] at he
      obtain ⟨rfl, rfl⟩ := he
      obtain ⟨nx, w', m', e1, e2, e3, e4⟩ := hs _ _ h1
      rw [e1]
      cases nx <;> first | exact e4.elim | skip
      exact hK m' _ w' e2 e3 e4
    · rename_i hx h1
      simp only [Option.some.injEq, Prod.mk.injEq] at he
      obtain ⟨rfl, rfl⟩ := he
      obtain ⟨nx, w', m', e1, e2, e3, e4⟩ := hs _ _ h1
      rw [e1]
      cases nx <;> first | exact e4.elim | skip
      exact hK m' _ w' e2 e3 (undef_rel m')
    · rename_i f args h2 h1
      obtain ⟨nx, w', m', e1, e2, e3, e4⟩ := hs _ _ h1
      rw [e1]
      cases nx <;> first | exact e4.elim | skip
      obtain ⟨rfl, e5⟩ := e4
      obtain ⟨_, hcs⟩ := hC _ _ _ _ _ he
      have q := opA_next h1
      refine (hcs B m' _ w' e5 e3 (hG.mono e2.1)).mono ?_
      rintro e w2 ⟨v', m2, rfl, c2, c3, c4⟩
      exact hK m2 v' w2 (e2.trans c2 q.1 q.2.1) c3 c4
    · cases he
  · rename_i h0
    rw [hw, h0]
    simp only [Option.some.injEq, Prod.mk.injEq] at he
    obtain ⟨rfl, rfl⟩ := he
    simp only [Bool.false_eq_true, if_false]
    exact hK m undef w (Ext.refl _ m) hr (undef_rel m)

theorem stepA_sound {B : Base} {G n : Nat} {enters : FuncId → FKind} {callF : CallF} (hE : Enters P enters) (hz : ZF P) (hC : CallSound P G callF) {ops : Array Oper} {o : Oper} {T : Tree Value} {h h' : AHeap} {v : Value}
    (he : stepA P enters callF ops o T h = some (v, h')) {m : Mu} {a : Act} {w : World} (hT : TRel m n T a.tmps) (hr : Rel P B m h w) (hG : GRel G m) (hok : opOk G n o = true)
    (hd : ∀ (j : Nat) (d : Nat), (ops[j]?).bind (·.dst) = some d → d < n)
    {K : Act → World → Prop} {Q : Exit → Act → World → Prop} (hK : ∀ m' v' w', Ext h m m' → Rel P B m' h' w' → VRel m' v v' → K (a.put o.dst v') w') :
    if Region.wanted o (yielded ops a.tmps) then o.wp P a w K Q else K (a.put o.dst undef) w := by
  have hw := wanted_eq hT ops o hd
  unfold opOk at hok
  simp only [Bool.and_eq_true] at hok
  exact stepA_sound' hE hz hC he hr hG (fun x hx => rho_rel hT hG (List.all_eq_true.1 hok.1 x hx)) hw hK

/-! ## Code -/
def runOps (P : Program) (enters : FuncId → FKind) (callF : CallF) (ops : Array Oper) : List Oper → Tree Value → AHeap → Option (Tree Value × AHeap)
  | [], T, h => some (T, h)
  | o :: rest, T, h => match stepA P enters callF ops o T h with
    | some (v, h') => runOps P enters callF ops rest (Tput T o.dst v) h'
    | none => none

inductive AExit where
  | normal
  | exit (id : Nat)
  | ret
def AExit.toExit : AExit → Exit
  | .normal => .normal
  | .exit id => .exit id
  | .ret => .ret

abbrev DrawF := Array Oper → Tree Value → AHeap → Option (Tree Value × AHeap)
def DrawSound (P : Program) (G : Nat) (draw : DrawF) : Prop :=
  ∀ ops T h T' h', draw ops T h = some (T', h') → Nx h h' ∧
    ∀ (B : Base) m n id a w (Q : Exit → Act → World → Prop), ops.toList.all (opOk G n) = true → TRel m n T a.tmps → Rel P B m h w → GRel G m →
      (∀ m' a' w', Ext h m m' → TRel m' n T' a'.tmps → a'.defers = a.defers → Rel P B m' h' w' → Q .normal a' w') → (Code.region id ops true).wp P Q a w

def codeA (P : Program) (enters : FuncId → FKind) (callF : CallF) (draw : DrawF) : Nat → Code → Tree Value → AHeap → Option (AExit × Tree Value × AHeap)
  | 0, _, _, _ => none
  | f + 1, c, T, h =>
    match c with
    | .skip | .label _ => some (.normal, T, h)
    | .exit id => some (.exit id, T, h)
    | .ret => some (.ret, T, h)
    | .region _ ops false => match runOps P enters callF ops ops.toList T h with | some (T', h') => some (.normal, T', h') | none => none
    | .region _ ops true => match draw ops T h with | some (T', h') => some (.normal, T', h') | none => none
    | .seq a b => match codeA P enters callF draw f a T h with
      | some (.normal, T', h') => codeA P enters callF draw f b T' h'
      | r => r
    | .cond c a b => match rhoA T c with
      | .bool true => codeA P enters callF draw f a T h
      | .bool false => codeA P enters callF draw f b T h
      | _ => none
    | .block id c => match codeA P enters callF draw f c T h with
      | some (.exit id', T', h') => if id' = id then some (.normal, T', h') else some (.exit id', T', h')
      | r => r
    | .loop c => match codeA P enters callF draw f c T h with
      | some (.normal, T', h') => codeA P enters callF draw f (.loop c) T' h'
      | r => r
    | .scope c => codeA P enters callF draw f c T h
    | _ => none

def codeOk (G n : Nat) : Code → Bool
  | .region _ ops _ => ops.toList.all (opOk G n)
  | .seq a b => codeOk G n a && codeOk G n b
  | .cond c a b => opndOk G c && codeOk G n a && codeOk G n b
  | .block _ c | .loop c | .scope c => codeOk G n c
  | _ => true

theorem dst_of_ok {G n : Nat} {ops : Array Oper} (h : ops.toList.all (opOk G n) = true) : ∀ (j : Nat) (d : Nat), (ops[j]?).bind (·.dst) = some d → d < n := by
  intro j d e
  cases ho : ops[j]? with
  | none => rw [ho] at e; cases e
  | some o =>
    rw [ho] at e
    simp only [Option.bind_some] at e
    have hm : o ∈ ops.toList := by
      have := Array.mem_of_getElem? ho
      exact Array.mem_toList_iff.2 this
    have := List.all_eq_true.1 h o hm
    unfold opOk at this
    rw [e] at this
    simp only [Bool.and_eq_true, Nat.blt_eq] at this
    exact this.2

theorem runOps_next {G : Nat} {enters : FuncId → FKind} {callF : CallF} (hC : CallSound P G callF) {ops : Array Oper} : ∀ (l : List Oper) (T : Tree Value) (h : AHeap) (T' : Tree Value) (h' : AHeap),
    runOps P enters callF ops l T h = some (T', h') → Nx h h' := by
  intro l
  induction l with
  | nil => intro T h T' h' e; simp only [runOps, Option.some.injEq, Prod.mk.injEq] at e; obtain ⟨_, rfl⟩ := e; exact Nx.refl _
  | cons o l ih =>
    intro T h T' h' e
    simp only [runOps] at e
    split at e
    · rename_i v h2 h1
      exact (stepA_next hC h1).trans (ih _ _ _ _ e)
    · cases e

theorem runOps_sound {B : Base} {G n : Nat} {enters : FuncId → FKind} {callF : CallF} (hE : Enters P enters) (hz : ZF P) (hC : CallSound P G callF) {ops : Array Oper}
    (hd : ∀ (j : Nat) (d : Nat), (ops[j]?).bind (·.dst) = some d → d < n) {Q : Exit → Act → World → Prop} : ∀ (l : List Oper) (T : Tree Value) (h : AHeap) (T' : Tree Value) (h' : AHeap) (m : Mu) (a : Act) (w : World),
    l.all (opOk G n) = true → runOps P enters callF ops l T h = some (T', h') → TRel m n T a.tmps → Rel P B m h w → GRel G m →
    (∀ m' a' w', Ext h m m' → TRel m' n T' a'.tmps → a'.defers = a.defers → Rel P B m' h' w' → Q .normal a' w') → wpList P ops Q l a w := by
  intro l
  induction l with
  | nil =>
    intro T h T' h' m a w _ e hT hr hG hQ
    simp only [runOps, Option.some.injEq, Prod.mk.injEq] at e
    obtain ⟨rfl, rfl⟩ := e
    exact hQ m a w (Ext.refl _ m) hT rfl hr
  | cons o l ih =>
    intro T h T' h' m a w hl e hT hr hG hQ
    simp only [List.all_cons, Bool.and_eq_true] at hl
    simp only [runOps] at e
    split at e
    · rename_i v h2 h1
      have q := stepA_next hC h1
      have hdo : ∀ d, o.dst = some d → d < n := by
        intro d e
        have := hl.1
        unfold opOk at this
        rw [e] at this
        simp only [Bool.and_eq_true, Nat.blt_eq] at this
        exact this.2
      have hs := stepA_sound (B := B) hE hz hC h1 hT hr hG hl.1 hd (Q := Q) (K := wpList P ops Q l) (fun m' v' w' c1 c2 c3 => by
        refine ih _ _ _ _ m' (a.put o.dst v') w' hl.2 e ((hT.mono c1.1).put hdo c3) c2 (hG.mono c1.1) ?_
        intro m2 a2 w2 d1 d2 d3 d4
        refine hQ m2 a2 w2 (c1.trans d1 q.1 q.2.1) d2 (d3.trans ?_) d4
        cases o.dst <;> rfl)
      unfold wpList
      split
      · rename_i hw; rw [if_pos hw] at hs; exact .inl hs
      · rename_i hw; rw [if_neg hw] at hs; exact hs
    · cases e

/-- What is shown of a code by so many rounds. -/
def wpF (P : Program) (f : Nat) (c : Code) (Q : Exit → Act → World → Prop) (a : Act) (w : World) : Prop :=
  match c with
  | .loop c0 => Code.rounds P c0 Q f a w
  | c => c.wp P Q a w
theorem wpF_wp {f : Nat} {c : Code} {Q : Exit → Act → World → Prop} {a : Act} {w : World} (h : wpF P f c Q a w) : c.wp P Q a w := by
  cases c <;> first | exact h | exact wp_loop_rounds f h

theorem codeA_soundF {G n : Nat} {enters : FuncId → FKind} {callF : CallF} {draw : DrawF} (hE : Enters P enters) (hz : ZF P) (hC : CallSound P G callF) (hD : DrawSound P G draw) :
    ∀ (f : Nat) (c : Code) (T : Tree Value) (h : AHeap) (e : AExit) (T' : Tree Value) (h' : AHeap), codeA P enters callF draw f c T h = some (e, T', h') → Nx h h' ∧
    ∀ (B : Base) (m : Mu) (a : Act) (w : World) (Q : Exit → Act → World → Prop), codeOk G n c = true → TRel m n T a.tmps → Rel P B m h w → GRel G m →
    (∀ m' a' w', Ext h m m' → TRel m' n T' a'.tmps → a'.defers = a.defers → Rel P B m' h' w' → Q e.toExit a' w') → wpF P f c Q a w := by
  intro f
  induction f with
  | zero => intro c T h e T' h' he; simp [codeA] at he
  | succ f ih =>
    intro c T h e T' h' he
    simp only [codeA] at he
    split at he
    · simp only [Option.some.injEq, Prod.mk.injEq] at he
      obtain ⟨rfl, rfl, rfl⟩ := he
      exact ⟨Nx.refl _, fun B m a w Q _ hT hr hG hQ => wp_skip (hQ m a w (Ext.refl _ m) hT rfl hr)⟩
    · simp only [Option.some.injEq, Prod.mk.injEq] at he
      obtain ⟨rfl, rfl, rfl⟩ := he
      exact ⟨Nx.refl _, fun B m a w Q _ hT hr hG hQ => wp_label (hQ m a w (Ext.refl _ m) hT rfl hr)⟩
    · simp only [Option.some.injEq, Prod.mk.injEq] at he
      obtain ⟨rfl, rfl, rfl⟩ := he
      exact ⟨Nx.refl _, fun B m a w Q _ hT hr hG hQ => wp_exit (hQ m a w (Ext.refl _ m) hT rfl hr)⟩
    · simp only [Option.some.injEq, Prod.mk.injEq] at he
      obtain ⟨rfl, rfl, rfl⟩ := he
      exact ⟨Nx.refl _, fun B m a w Q _ hT hr hG hQ => wp_ret (hQ m a w (Ext.refl _ m) hT rfl hr)⟩
    · rename_i id ops
      split at he
      · rename_i T2 h2 h1
        simp only [Option.some.injEq, Prod.mk.injEq] at he
        obtain ⟨rfl, rfl, rfl⟩ := he
        exact ⟨runOps_next hC _ _ _ _ _ h1, fun B m a w Q hok hT hr hG hQ => wp_region_list (runOps_sound hE hz hC (dst_of_ok hok) _ _ _ _ _ m a w hok h1 hT hr hG hQ)⟩
      · cases he
    · rename_i id ops
      split at he
      · rename_i T2 h2 h1
        simp only [Option.some.injEq, Prod.mk.injEq] at he
        obtain ⟨rfl, rfl, rfl⟩ := he
        obtain ⟨q1, q2⟩ := hD _ _ _ _ _ h1
        exact ⟨q1, fun B m a w Q hok hT hr hG hQ => q2 B m n id a w Q hok hT hr hG hQ⟩
      · cases he
    · rename_i x y
      split at he
      · rename_i T2 h2 h1
        obtain ⟨q1, q2⟩ := ih _ _ _ _ _ _ h1
        obtain ⟨r1, r2⟩ := ih _ _ _ _ _ _ he
        refine ⟨q1.trans r1, fun B m a w Q hok hT hr hG hQ => wp_seq ?_⟩
        simp only [codeOk, Bool.and_eq_true] at hok
        refine wpF_wp (q2 B m a w _ hok.1 hT hr hG ?_)
        intro m' a' w' c1 c2 c3 c4
        refine wpF_wp (r2 B m' a' w' Q hok.2 c2 c4 (hG.mono c1.1) ?_)
        intro m2 a2 w2 d1 d2 d3 d4
        exact hQ m2 a2 w2 (c1.trans d1 q1.1 q1.2.1) d2 (d3.trans c3) d4
      · rename_i hne
        obtain ⟨q1, q2⟩ := ih _ _ _ _ _ _ he
        refine ⟨q1, fun B m a w Q hok hT hr hG hQ => wp_seq ?_⟩
        simp only [codeOk, Bool.and_eq_true] at hok
        refine wpF_wp (q2 B m a w _ hok.1 hT hr hG ?_)
        intro m' a' w' c1 c2 c3 c4
        have := hQ m' a' w' c1 c2 c3 c4
        cases e with
        | normal => exact absurd he (hne _ _)
        | exit id => exact this
        | ret => exact this
    · rename_i c0 x y
      split at he
      · rename_i hc
        obtain ⟨q1, q2⟩ := ih _ _ _ _ _ _ he
        refine ⟨q1, fun B m a w Q hok hT hr hG hQ => ?_⟩
        simp only [codeOk, Bool.and_eq_true] at hok
        have hb := rho_rel (a := a) hT hG hok.1.1
        rw [hc] at hb
        refine wp_cond_true ?_ (wpF_wp (q2 B m a w Q hok.1.2 hT hr hG hQ))
        generalize a.eval c0 = z at hb ⊢
        cases hb; rfl
      · rename_i hc
        obtain ⟨q1, q2⟩ := ih _ _ _ _ _ _ he
        refine ⟨q1, fun B m a w Q hok hT hr hG hQ => ?_⟩
        simp only [codeOk, Bool.and_eq_true] at hok
        have hb := rho_rel (a := a) hT hG hok.1.1
        rw [hc] at hb
        refine wp_cond_false ?_ (wpF_wp (q2 B m a w Q hok.2 hT hr hG hQ))
        generalize a.eval c0 = z at hb ⊢
        cases hb; rfl
      · cases he
    · rename_i id c0
      split at he
      · rename_i id' T2 h2 h1
        obtain ⟨q1, q2⟩ := ih _ _ _ _ _ _ h1
        split at he
        · rename_i hid
          simp only [Option.some.injEq, Prod.mk.injEq] at he
          obtain ⟨rfl, rfl, rfl⟩ := he
          refine ⟨q1, fun B m a w Q hok hT hr hG hQ => wp_block (wpF_wp (q2 B m a w _ hok hT hr hG ?_))⟩
          intro m' a' w' c1 c2 c3 c4
          simp only [AExit.toExit, Exit.inBlock, hid, if_true]
          exact hQ m' a' w' c1 c2 c3 c4
        · rename_i hid
          simp only [Option.some.injEq, Prod.mk.injEq] at he
          obtain ⟨rfl, rfl, rfl⟩ := he
          refine ⟨q1, fun B m a w Q hok hT hr hG hQ => wp_block (wpF_wp (q2 B m a w _ hok hT hr hG ?_))⟩
          intro m' a' w' c1 c2 c3 c4
          simp only [AExit.toExit, Exit.inBlock, hid, if_false]
          exact hQ m' a' w' c1 c2 c3 c4
      · rename_i hne
        obtain ⟨q1, q2⟩ := ih _ _ _ _ _ _ he
        refine ⟨q1, fun B m a w Q hok hT hr hG hQ => wp_block (wpF_wp (q2 B m a w _ hok hT hr hG ?_))⟩
        intro m' a' w' c1 c2 c3 c4
        have := hQ m' a' w' c1 c2 c3 c4
        cases e with
        | normal => exact this
        | exit id => exact absurd he (hne _ _ _)
        | ret => exact this
    · rename_i c0
      split at he
      · rename_i T2 h2 h1
        obtain ⟨q1, q2⟩ := ih _ _ _ _ _ _ h1
        obtain ⟨r1, r2⟩ := ih _ _ _ _ _ _ he
        refine ⟨q1.trans r1, fun B m a w Q hok hT hr hG hQ => ?_⟩
        show Code.rounds P c0 Q (f + 1) a w
        rw [rounds_succ]
        refine wpF_wp (q2 B m a w _ hok hT hr hG ?_)
        intro m' a' w' c1 c2 c3 c4
        refine r2 B m' a' w' Q hok c2 c4 (hG.mono c1.1) ?_
        intro m2 a2 w2 d1 d2 d3 d4
        exact hQ m2 a2 w2 (c1.trans d1 q1.1 q1.2.1) d2 (d3.trans c3) d4
      · rename_i hne
        obtain ⟨q1, q2⟩ := ih _ _ _ _ _ _ he
        refine ⟨q1, fun B m a w Q hok hT hr hG hQ => ?_⟩
        show Code.rounds P c0 Q (f + 1) a w
        rw [rounds_succ]
        refine wpF_wp (q2 B m a w _ hok hT hr hG ?_)
        intro m' a' w' c1 c2 c3 c4
        have := hQ m' a' w' c1 c2 c3 c4
        cases e with
        | normal => exact absurd he (hne _ _)
        | exit id => exact this
        | ret => exact this
    · rename_i c0
      obtain ⟨q1, q2⟩ := ih _ _ _ _ _ _ he
      refine ⟨q1, fun B m a w Q hok hT hr hG hQ => wp_scope_straight (wpF_wp (q2 B m a w _ hok hT hr hG ?_))⟩
      intro m' a' w' c1 c2 c3 c4
      have := hQ m' a' w' c1 c2 c3 c4
      cases e <;> exact this
    · cases he
end
end Go.Ab
namespace Go.Ab
open Go
section
variable {P : Program}

def initT : List Value → Nat → Tree Value → Tree Value
  | [], _, T => T
  | v :: rest, i, T => initT rest (i + 1) (T.set undef i v)

def callA (P : Program) (enters : FuncId → FKind) (FT : FuncId → Option Func) (sp : CallF) (draw : CallF → DrawF) (K : Nat) : Nat → CallF
  | 0, _, _, _ => none
  | d + 1, f, args, h =>
    match sp f args h with
    | some r => some r
    | none =>
      match FT f with
      | some fn =>
        match fn.body, Nat.ble args.size fn.ntmps with
        | some c, true =>
          match codeA P enters (callA P enters FT sp draw K d) (draw (callA P enters FT sp draw K d)) K c (initT args.toList 0 .leaf) h with
          | some (.normal, T', h') => match resA P h' T' fn.results.toList with
            | some vs => some (oneA vs, h')
            | none => none
          | some (.ret, T', h') => match resA P h' T' fn.results.toList with
            | some vs => some (oneA vs, h')
            | none => none
          | _ => none
        | _, _ => none
      | none => none

theorem initT_get : ∀ (l : List Value) (i : Nat) (T : Tree Value) (t : Nat), (initT l i T).get undef t = if i ≤ t ∧ t < i + l.length then (l[t - i]?).getD undef else T.get undef t := by
  intro l
  induction l with
  | nil => intro i T t; rw [if_neg (by simp)]; rfl
  | cons v l ih =>
    intro i T t
    simp only [initT]
    rw [ih, Tree.get_set]
    by_cases e : t = i
    · subst e
      rw [if_neg (by omega), if_pos rfl, if_pos (by simp), Nat.sub_self]; rfl
    · rw [if_neg e]
      by_cases c : i + 1 ≤ t ∧ t < i + 1 + l.length
      · rw [if_pos c, if_pos (by simp; omega)]
        obtain ⟨d, rfl⟩ : ∃ d, t = i + 1 + d := ⟨t - (i + 1), by omega⟩
        rw [show i + 1 + d - (i + 1) = d by omega, show i + 1 + d - i = d + 1 by omega]; rfl
      · rw [if_neg c, if_neg (by simp; omega)]

theorem initT_rel {m : Mu} {args args' : Array Value} {n : Nat} (h : ARel m args args') (hn : args.size ≤ n) :
    TRel m n (initT args.toList 0 .leaf) (args' ++ Array.replicate (n - args'.size) undef) := by
  refine ⟨by simp [← h.1]; omega, fun t => ?_⟩
  unfold Tget
  rw [initT_get]
  simp only [Nat.zero_le, true_and, Nat.zero_add, Array.length_toList, Nat.sub_zero, Tree.get_leaf]
  rw [Array.getD_eq_getD_getElem?, Array.getElem?_append]
  by_cases c : t < args.size
  · rw [if_pos c, if_pos (by rw [← h.1]; exact c)]
    have e1 : args.toList[t]? = some args[t] := by simp [c]
    have c' : t < args'.size := by rw [← h.1]; exact c
    rw [e1, Array.getElem?_eq_getElem c']
    exact h.2 t c c'
  · rw [if_neg c, if_neg (by rw [← h.1]; exact c)]
    simp only [Array.getElem?_replicate]
    split <;> exact undef_rel m

/-- What is asked of a table of functions. -/
structure Table (P : Program) (G : Nat) (enters : FuncId → FKind) (FT : FuncId → Option Func) : Prop where
  has : ∀ f fn, FT f = some fn → P.funcs[f]? = some fn
  code : ∀ f fn c, FT f = some fn → fn.body = some c → codeOk G fn.ntmps c = true

theorem callA_sound {G : Nat} {enters : FuncId → FKind} {FT : FuncId → Option Func} {sp : CallF} {draw : CallF → DrawF} (hE : Enters P enters) (hz : ZF P) (hT : Table P G enters FT) (hS : CallSound P G sp)
    (hD : ∀ callF, CallSound P G callF → DrawSound P G (draw callF)) (K : Nat) : ∀ d, CallSound P G (callA P enters FT sp draw K d) := by
  intro d
  induction d with
  | zero => intro f args h v h' e; simp [callA] at e
  | succ d ih =>
    intro f args h v h' e
    simp only [callA] at e
    split at e
    · rename_i r hr
      cases e
      exact hS f args h v h' hr
    split at e <;> try (cases e; done)
    rename_i fn hfn
    split at e <;> try (cases e; done)
    rename_i c hb hsz
    simp only [Nat.ble_eq] at hsz
    have fin : ∀ (x : AExit) (T' : Tree Value) (h2 : AHeap), (x = .normal ∨ x = .ret) → codeA P enters (callA P enters FT sp draw K d) (draw (callA P enters FT sp draw K d)) K c (initT args.toList 0 .leaf) h = some (x, T', h2) →
        (match resA P h2 T' fn.results.toList with | some vs => some (oneA vs, h2) | none => none) = some (v, h') → Nx h h' ∧
        ∀ (B : Base) m args' w, ARel m args args' → Rel P B m h w → GRel G m →
          Calls P f args' w (fun e w' => ∃ v' m', e = .returned v' ∧ Ext h m m' ∧ Rel P B m' h' w' ∧ VRel m' v v') := by
      intro x T' h2 hx hc he
      split at he <;> try (cases he; done)
      rename_i vs hvs
      simp only [Option.some.injEq, Prod.mk.injEq] at he
      obtain ⟨rfl, rfl⟩ := he
      obtain ⟨q1, q2⟩ := codeA_soundF (n := fn.ntmps) hE hz ih (hD _ ih) K c _ _ _ _ _ hc
      refine ⟨q1, fun B m args' w ha hr hG => ?_⟩
      refine calls_of_wp (hT.has f fn hfn) hb (wpF_wp (q2 B m { tmps := args' ++ Array.replicate (fn.ntmps - args'.size) undef, defers := [] } w _ (hT.code f fn c hfn hb) (initT_rel ha hsz) hr hG ?_))
      intro m' a' w' c1 c2 c3 c4
      obtain ⟨v', r1, r2⟩ := results_sound c4 c2 hvs
      have : bodyPost P fn (fun e w' => ∃ v' m', e = .returned v' ∧ Ext h m m' ∧ Rel P B m' h2 w' ∧ VRel m' (oneA vs) v') .ret a' w' := ⟨c3, v', r1, v', m', rfl, c1, c4, r2⟩
      rcases hx with rfl | rfl <;> exact this
    split at e
    · rename_i T' h2 hc; exact fin _ _ _ (.inl rfl) hc e
    · rename_i T' h2 hc; exact fin _ _ _ (.inr rfl) hc e
    · cases e
end
end Go.Ab
