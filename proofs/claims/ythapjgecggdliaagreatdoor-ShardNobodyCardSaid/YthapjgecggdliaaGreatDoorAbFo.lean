import Derived.Test.YthapjgecggdliaaGreatDoorAbFn
import Derived.Laws.Externs
namespace Go.Ab
open Go Go.RowKit
section
variable {P : Program} {G n : Nat} {enters : FuncId → FKind} {CB : CallB} {CC : CallC} {DB : DrawB} {DC : DrawC}

/-! ## The first parts of a body, told -/
noncomputable def goNC (P : Program) (enters : FuncId → FKind) (CB : CallB) (CC : CallC) (DC : DrawC) (mk : Mk) (K : Nat) : Nat → Code → SC → SC
  | 0, _, x => x
  | k + 1, .seq a b, x => match (codeC P enters CB CC DC mk K a).un x.s.1 x.s.2 x.tp x.lg with
    | .normal T h tp lg => goNC P enters CB CC DC mk K k b ⟨(T, h), tp, lg, x.ok⟩
    | _ => ⟨x.s, x.tp, x.lg, false⟩
  | _ + 1, _, x => ⟨x.s, x.tp, x.lg, false⟩
def dropN : Nat → Code → Code
  | 0, c => c
  | k + 1, .seq _ b => dropN k b
  | _ + 1, c => c
def partsOk (P : Program) (G n : Nat) : Nat → Code → Bool
  | 0, _ => true
  | k + 1, .seq a b => plansOk P a && codeOk G n a && partsOk P G n k b
  | _ + 1, _ => false
theorem goNC_noted (hCC : CallEq CB CC) (hDC : DrawEq DB DC) {mk : Mk} {K : Nat} : ∀ (k : Nat) (c : Code) (x y : SC), goNC P enters CB CC DC mk K k c x = y → y.ok = true → NotedOk y.lg → NotedOk x.lg := by
  intro k
  induction k with
  | zero => intro c x y hx _ hl; subst hx; exact hl
  | succ k ih =>
    intro c x y hx hok hl
    cases c with
    | seq a b =>
      simp only [goNC] at hx
      have q := codeC_eq (P := P) (enters := enters) (DB := DB) hCC hDC mk K a x.s.1 x.s.2 x.tp x.lg
      revert hx q
      cases (codeC P enters CB CC DC mk K a).un x.s.1 x.s.2 x.tp x.lg with
      | normal T h tp lg => intro hx q; exact (q (ih _ _ _ hx hok hl)).1
      | _ => intro hx q; subst hx; cases hok
    | _ => simp only [goNC] at hx; subst hx; cases hok
theorem goNC_wp (hE : Enters P enters) (hz : ZF P) (hC : CallSound P G (callOf CB)) (hCC : CallEq CB CC) (hDC : DrawEq DB DC) (hD : DrawGood P G (fun ops T h => (DB ops).un T h)) {mk : Mk} {K : Nat} {B : Base} {Q : Exit → Act → World → Prop} : ∀ {k : Nat} {c : Code} {x y : SC} {m : Mu} {a : Act} {w : World},
    partsOk P G n k c = true → goNC P enters CB CC DC mk K k c x = y → y.ok = true → NotedOk y.lg → TRel m n x.s.1 a.tmps → Rel P B m x.s.2 w → GRel G m →
    (∀ m' a' w', GRel G m' → TRel m' n y.s.1 a'.tmps → a'.defers = a.defers → Rel P B m' y.s.2 w' → (dropN k c).wp P Q a' w') → c.wp P Q a w := by
  intro k
  induction k with
  | zero => intro c x y m a w _ hx _ _ hT hr hG hk; subst hx; exact hk m a w hG hT rfl hr
  | succ k ih =>
    intro c x y m a w hp hx hok hl hT hr hG hk
    cases c with
    | seq c1 c2 =>
      simp only [partsOk, Bool.and_eq_true] at hp
      simp only [goNC] at hx
      have q := codeC_eq (P := P) (enters := enters) (DB := DB) hCC hDC mk K c1 x.s.1 x.s.2 x.tp x.lg
      revert hx q
      cases (codeC P enters CB CC DC mk K c1).un x.s.1 x.s.2 x.tp x.lg with
      | normal T h tp lg =>
        intro hx q
        have hlg := goNC_noted (P := P) (enters := enters) hCC hDC _ _ _ _ hx hok hl
        obtain ⟨_, q2⟩ := codeB_sound (n := n) hE hz hC hD K c1 hp.1.1 _ _ .normal _ _ (q hlg).2
        refine wp_seq (q2 B m a w _ hp.1.2 hT hr hG ?_)
        intro m' a' w' d1 d2 d3 d4
        exact ih hp.2 hx hok hl d2 d4 (hG.mono d1.1) fun m2 a2 w2 e1 e2 e3 e4 => hk m2 a2 w2 e1 e2 (e3.trans d3) e4
      | _ => intro hx q; subst hx; cases hok
    | _ => simp only [goNC] at hx; subst hx; cases hok
/-- One part, told, from a tape. -/
theorem oneC_wp (hE : Enters P enters) (hz : ZF P) (hC : CallSound P G (callOf CB)) (hCC : CallEq CB CC) (hDC : DrawEq DB DC) (hD : DrawGood P G (fun ops T h => (DB ops).un T h)) {mk : Mk} {K : Nat} {c : Code} {s s' : Tree Value × AHeap} {tp tp' : Tape} {lg : Noted} {e : AExit} {B : Base} {m : Mu} {a : Act} {w : World} {Q : Exit → Act → World → Prop}
    (hp : plansOk P c = true) (hok : codeOk G n c = true) (hx : (codeC P enters CB CC DC mk K c).un s.1 s.2 tp [] = (match e with | .normal => .normal s'.1 s'.2 tp' lg | .exit id => .exit id s'.1 s'.2 tp' lg | .ret => .ret s'.1 s'.2 tp' lg)) (hl : NotedOk lg) (hT : TRel m n s.1 a.tmps) (hr : Rel P B m s.2 w) (hG : GRel G m)
    (hk : ∀ m' a' w', GRel G m' → TRel m' n s'.1 a'.tmps → a'.defers = a.defers → Rel P B m' s'.2 w' → Q e.toExit a' w') : c.wp P Q a w := by
  have q := codeC_eq (P := P) (enters := enters) (DB := DB) hCC hDC mk K c s.1 s.2 tp []
  rw [hx] at q
  cases e with
  | normal =>
    obtain ⟨_, q2⟩ := codeB_sound (n := n) hE hz hC hD K c hp _ _ .normal _ _ (q hl).2
    exact q2 B m a w Q hok hT hr hG fun m' a' w' d1 d2 d3 d4 => hk m' a' w' (hG.mono d1.1) d2 d3 d4
  | exit id =>
    obtain ⟨_, q2⟩ := codeB_sound (n := n) hE hz hC hD K c hp _ _ (.exit id) _ _ (q hl).2
    exact q2 B m a w Q hok hT hr hG fun m' a' w' d1 d2 d3 d4 => hk m' a' w' (hG.mono d1.1) d2 d3 d4
  | ret =>
    obtain ⟨_, q2⟩ := codeB_sound (n := n) hE hz hC hD K c hp _ _ .ret _ _ (q hl).2
    exact q2 B m a w Q hok hT hr hG fun m' a' w' d1 d2 d3 d4 => hk m' a' w' (hG.mono d1.1) d2 d3 d4
end
/-! ## A byte's place in a text -/
def idxF : List UInt8 → Nat → Nat → Int
  | [], _, _ => .negSucc 0
  | x :: l, c, i => match Nat.beq (u8n x) c with
    | true => .ofNat i
    | false => idxF l c (Nat.succ i)
def idxB (l : List Value) : Option Value := match l with
  | [.string s, .int .u8 (.ofNat c)] => (match Nat.blt c 256 with | true => some (.int .i64 (idxF (byteList s) c 0)) | false => none)
  | _ => none
theorem idx_find (s : ByteArray) (c : UInt8) : ∀ (l : List UInt8) (i : Nat), s.data.toList.drop i = l →
    (match (List.range' i l.length).find? (fun j => s[j]! == c) with | some j => (j : Int) | none => -1) = idxF l c.toNat i := by
  intro l
  induction l with
  | nil => intro i _; rfl
  | cons x l ih =>
    intro i h
    have hi : i < s.data.toList.length := by
      rcases Nat.lt_or_ge i s.data.toList.length with h2 | h2
      · exact h2
      · rw [List.drop_eq_nil_of_le h2] at h; cases h
    rw [List.drop_eq_getElem_cons hi] at h
    obtain ⟨hx, hl⟩ := List.cons.inj h
    have hi2 : i < s.data.size := by simpa using hi
    have hget : s[i]! = x := by
      rw [getElem!_pos s i hi2]
      show s.data[i] = x
      rw [← hx]
      simp
    rw [List.length_cons, List.range'_succ, List.find?_cons]
    simp only [hget, idxF]
    cases hb : x == c with
    | true =>
      have : x = c := by simpa using hb
      subst this
      rw [show Nat.beq (u8n x) x.toNat = true from Nat.beq_refl _]
      rfl
    | false =>
      have hne : x ≠ c := by simpa using hb
      have : Nat.beq (u8n x) c.toNat = false := by
        rw [Bool.eq_false_iff]
        intro q
        exact hne (UInt8.toNat_inj.1 (Nat.eq_of_beq_eq_true q))
      rw [this]
      exact ih (i + 1) hl
theorem firstIdx_eq (s : ByteArray) (c : Nat) (hc : c < 256) : firstIdx s (Int.toNat (.ofNat c)).toUInt8 = idxF (byteList s) c 0 := by
  have := idx_find s (Int.toNat (.ofNat c)).toUInt8 s.data.toList 0 rfl
  have hs : s.data.toList.length = s.size := Array.length_toList
  rw [hs, ← List.range_eq_range'] at this
  unfold firstIdx
  refine Eq.trans this ?_
  have hn : ((Int.toNat (.ofNat c)).toUInt8).toNat = c := by
    show (c.toUInt8).toNat = c
    simp [Nat.toUInt8]
    omega
  rw [hn]
  rfl
theorem idxB_ok {P : Program} {f : FuncId} (hf : ∀ args w, (callFunc f args).run P w = ((Extern.BytealgIndexByte.indexByte args).run P w).andThen fun v w' => .ok (.value v) w') (l : List Value) (v : Value) (h : idxB l = some v) :
    l.all flatV = true ∧ flatV v = true ∧ ∀ w, (callFunc f l.toArray).run P w = .ok (.value v) w := by
  unfold idxB at h
  split at h
  · rename_i s c
    split at h
    · rename_i hc
      obtain rfl := Option.some.inj h
      refine ⟨rfl, rfl, fun w => ?_⟩
      rw [Nat.blt_eq] at hc
      rw [hf]
      show ((Extern.BytealgIndexByte.indexByte #[.string s, .int .u8 (.ofNat c)]).run P w).andThen _ = _
      rw [run_indexByte_string, firstIdx_eq s c hc]
      rfl
    · cases h
  · cases h

/-! ## Marks out of lists -/
def inL (l : List Nat) (t : Nat) : Bool := l.any (Nat.beq t)
def marksOf (l l2 l3 : List Nat) (t : Nat) : Nat := match inL l t with
  | true => 1
  | false => match inL l2 t with
    | true => 2
    | false => match inL l3 t with
      | true => 3
      | false => 0
def marksIn : List (Nat × List Nat × List Nat × List Nat) → Marks
  | [], _ => fun _ => 0
  | (f, l, l2, l3) :: r, g => match Nat.beq f g with
    | true => marksOf l l2 l3
    | false => marksIn r g
/-- 4: loads of whose object alone a fact is noted. -/
def with4 (l : List (Nat × List Nat)) (mk : Marks) (g : Nat) (t : Nat) : Nat := match l.any (fun x => Nat.beq x.1 g && inL x.2 t) with
  | true => 4
  | false => mk g t
/-- So many of them. -/
def upTo {α : Type} (f : Nat → α) : Nat → Nat → List α
  | 0, _ => []
  | k + 1, i => f i :: upTo f k (i + 1)
theorem upTo_eq {α : Type} {f g : Nat → α} : ∀ (k i : Nat), upTo f k i = upTo g k i → ∀ j, i ≤ j → j < i + k → f j = g j := by
  intro k
  induction k with
  | zero => intro i _ j h1 h2; omega
  | succ k ih =>
    intro i h j h1 h2
    simp only [upTo, List.cons.injEq] at h
    by_cases e : j = i
    · rw [e]; exact h.1
    · exact ih (i + 1) h.2 j (by omega) (by omega)
def stOf (r : RCC) : Tree Value × AHeap := match r with
  | .normal T h _ _ => (T, h)
  | .exit _ T h _ _ => (T, h)
  | .ret T h _ _ => (T, h)
  | .none => (.leaf, ⟨.leaf, 0, 0⟩)
def isN (r : RCC) : Option Noted := match r with | .normal _ _ _ lg => some lg | _ => none
def isX (r : RCC) : Option (Nat × Noted) := match r with | .exit id _ _ _ lg => some (id, lg) | _ => none
theorem norm_of {r : RCC} {lg : Noted} (h : isN r = some lg) : ∃ tp, r = .normal (stOf r).1 (stOf r).2 tp lg := by
  cases r <;> first | (cases h; exact ⟨_, rfl⟩) | cases h
theorem exit_of {r : RCC} {id : Nat} {lg : Noted} (h : isX r = some (id, lg)) : ∃ tp, r = .exit id (stOf r).1 (stOf r).2 tp lg := by
  cases r <;> first | (cases h; exact ⟨_, rfl⟩) | cases h
def saidOf (r : Option OutC) : Option (Value × Noted) := match r with | some o => some (o.v, o.lg) | none => none
def slotsOf (l : List (Nat × Value)) (jt : Nat → Value) : Nat → Value := fun t => match l with
  | [] => jt t
  | (k, v) :: l => match Nat.beq k t with | true => v | false => slotsOf l jt t

/-! ## States in one form -/
def treeF (f : Nat → Value) : Nat → Nat → Tree Value → Tree Value
  | 0, _, acc => acc
  | k + 1, i, acc => treeF f k (i + 1) (acc.set undef i (f i))
def heapF : List AObj → Nat → Tree AObj → Tree AObj
  | [], _, acc => acc
  | o :: l, i, acc => heapF l (i + 1) (acc.set .dead i o)
def cellsOfL (l : List Value) (t : TypeId) : AObj := .cells ⟨l.length, treeF (fun i => l.getD i undef) l.length 0 .leaf⟩ t
def blkOf (v : Value) : Nat := match v with
  | .pointer (some a) => a.block
  | .slice (some a) _ _ => a.block
  | .map (some b) => b
  | _ => 0
def ptrTo (b : Nat) : Value := .pointer (some ⟨b, 0, none⟩)
def i64 (n : Int) : Value := .int .i64 n
def pr (a b : Value) : Prop := a = b
end Go.Ab
