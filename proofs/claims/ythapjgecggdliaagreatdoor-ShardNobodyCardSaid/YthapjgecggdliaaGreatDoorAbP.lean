import Derived.Test.YthapjgecggdliaaGreatDoorAbO
namespace Go.Ab
open Go
section
variable {P : Program}

/-! ## A region that draws its order: the plan -/
inductive Cls where
  | plain | alloc | loud
def clsOf (P : Program) (o : Oper) : Cls :=
  match o.op with
  | .move _ | .assign _ | .pick .. | .build .. | .load .. | .nilCheck _ | .binOp .. | .unOp .. | .makeInterface .. | .makeFunc .. | .slice .. | .fieldAddr .. | .field .. | .indexAddr .. | .index .. | .lookup .. | .extract .. => .plain
  | .convert _ dst _ => match P.underlying dst with
    | some (.slice _) => .loud
    | _ => .plain
  | .alloc _ | .box .. | .buildSlice .. | .makeSlice .. | .makeMap _ none => .alloc
  | .call c => match c.callee with
    | .builtin .len | .builtin .min | .builtin .max => .plain
    | _ => .loud
  | _ => .loud
def isLoud (P : Program) (o : Oper) : Bool := match clsOf P o with | .loud => true | _ => false

def edgesOf (o : Oper) : List Nat := o.after.toList.filterMap fun e => if Region.binds .any e then some e.on else none
def masksGo : List Oper → List Nat → List Nat
  | [], acc => acc
  | o :: rest, acc => masksGo rest (acc ++ [(edgesOf o).foldl (fun m i => m ||| 2 ^ i ||| acc.getD i 0) 0])
def prd (ms : List Nat) (j i : Nat) : Bool := (ms.getD j 0).testBit i

def tmpsOf (o : Oper) : List Tmp := o.op.operands.toList.filterMap fun | .tmp t => some t | _ => none
def opAt (ops : Array Oper) (j : Nat) : Oper := ops.getD j default

def planAt (P : Program) (ops : Array Oper) (ms : List Nat) (n j : Nat) : Bool :=
  let o := opAt ops j
  Nat.blt (ms.getD j 0) (2 ^ j)
  && (List.range n).all (fun i => !prd ms j i || (Nat.blt i j && (edgesOf o).any fun e => Nat.beq e i || prd ms e i))
  && ((tmpsOf o) ++ (match o.guard with | some (g, _) => ((ops[g]?).bind (·.dst)).toList | none => [])).all (fun t => (List.range n).all fun i => Nat.beq i j || !((opAt ops i).dst == some t) || prd ms j i || prd ms i j)
  && (match o.guard with | some (g, _) => Nat.blt g n && prd ms j g | none => true)
  && (match o.dst with | none => true | some d => (List.range j).all fun i => !((opAt ops i).dst == some d))
  && (!isLoud P o || (List.range j).all fun i => !isLoud P (opAt ops i) || prd ms j i)
def boundIn (md : Region.Mode) (o : Oper) (seen : List Nat) : Bool := o.after.toList.all fun e => !Region.binds md e || seen.any (Nat.beq e.on)
def orderGo (md : Region.Mode) (ops : Array Oper) : List Nat → List Nat → Bool
  | [], _ => true
  | i :: rest, seen => boundIn md (opAt ops i) seen && orderGo md ops rest (i :: seen)
/-- Each one is bound by those ahead of it alone. -/
def natGo (md : Region.Mode) : List Oper → Nat → Bool
  | [], _ => true
  | o :: rest, j => (o.after.toList.all fun e => !Region.binds md e || Nat.blt e.on j) && natGo md rest (j + 1)
/-- There is an order. -/
def orderOk (md : Region.Mode) (ops : Array Oper) : Bool := natGo md ops.toList 0 || (
  orderGo md ops (Region.linearise md ops 0) [] && ((List.range ops.size).all fun i => (Region.linearise md ops 0).any (Nat.beq i)) && (Region.linearise md ops 0).all fun i => Nat.blt i ops.size)
def planOk (P : Program) (ops : Array Oper) (ms : List Nat) (n : Nat) : Bool :=
  (List.range n).all (planAt P ops ms n) && orderOk .any ops && orderOk .text ops && orderOk .gc ops

def isDead : AObj → Bool
  | .dead => true
  | _ => false
theorem isDead_iff {o : AObj} : isDead o = true ↔ o = .dead := by cases o <;> simp [isDead]

def objAt : List (Nat × AObj) → Nat → Option AObj
  | [], _ => none
  | (i, o) :: rest, j => if Nat.beq i j then some o else objAt rest j
/-- Blocks that were made, laid into a memory in which they are not yet. -/
def fillA (sel : Nat → Bool) (base : Nat) : List (Nat × AObj) → AHeap → AHeap
  | [], G => G
  | (i, o) :: rest, G => if sel i && isDead (G.get (base + i)) then (fillA sel base rest G).put (base + i) o else fillA sel base rest G
theorem fillA_get {sel : Nat → Bool} {base : Nat} {G : AHeap} : ∀ (objs : List (Nat × AObj)) (b : Nat),
    (∃ i o, b = base + i ∧ objAt objs i = some o ∧ sel i = true ∧ G.get b = .dead ∧ (fillA sel base objs G).get b = o) ∨
    ((∀ i o, b = base + i → objAt objs i = some o → sel i = true → G.get b ≠ .dead) ∧ (fillA sel base objs G).get b = G.get b) := by
  intro objs
  induction objs with
  | nil => intro b; right; exact ⟨fun i o _ h => by simp [objAt] at h, rfl⟩
  | cons x rest ih =>
    intro b
    obtain ⟨i0, o0⟩ := x
    simp only [fillA]
    by_cases e : b = base + i0
    · subst e
      by_cases c : (sel i0 && isDead (G.get (base + i0))) = true
      · left
        rw [if_pos c]
        simp only [Bool.and_eq_true, isDead_iff] at c
        exact ⟨i0, o0, rfl, by simp [objAt], c.1, c.2, by rw [AHeap.get_put, if_pos rfl]⟩
      · rw [if_neg c]
        right
        have hno : sel i0 = true → G.get (base + i0) ≠ .dead := by
          intro h1 h2
          exact c (by simp [h1, isDead_iff.2 h2])
        refine ⟨fun i o hi ho hs => ?_, ?_⟩
        · obtain rfl : i = i0 := by omega
          exact hno hs
        · rcases ih (base + i0) with ⟨i, o, h1, h2, h3, h4, h5⟩ | ⟨_, h2⟩
          · obtain rfl : i = i0 := by omega
            exact absurd h4 (hno h3)
          · exact h2
    · have hput : ∀ g : AHeap, (g.put (base + i0) o0).get b = g.get b := fun g => by rw [AHeap.get_put, if_neg e]
      have hobj : ∀ i, b = base + i → objAt ((i0, o0) :: rest) i = objAt rest i := by
        intro i hi
        have : Nat.beq i0 i = false := by
          cases hb : Nat.beq i0 i with
          | false => rfl
          | true => rw [Nat.beq_eq] at hb; exact absurd (by omega) e
        simp [objAt, this]
      have hget : (if (sel i0 && isDead (G.get (base + i0))) = true then (fillA sel base rest G).put (base + i0) o0 else fillA sel base rest G).get b = (fillA sel base rest G).get b := by
        split
        · exact hput _
        · rfl
      rw [hget]
      rcases ih b with ⟨i, o, h1, h2, h3, h4, h5⟩ | ⟨h1, h2⟩
      · exact .inl ⟨i, o, h1, by rw [hobj i h1]; exact h2, h3, h4, h5⟩
      · exact .inr ⟨fun i o hi ho => h1 i o hi (by rw [← hobj i hi]; exact ho), h2⟩
theorem fillA_next {sel : Nat → Bool} {base : Nat} {G : AHeap} : ∀ (objs : List (Nat × AObj)), (fillA sel base objs G).next = G.next ∧ (fillA sel base objs G).lim = G.lim := by
  intro objs
  induction objs with
  | nil => exact ⟨rfl, rfl⟩
  | cons x rest ih =>
    obtain ⟨i0, o0⟩ := x
    simp only [fillA]
    split
    · exact ih
    · exact ih

/-! ### Equality of values -/
def veq : Nat → Value → Value → Bool
  | _, .bool a, .bool b => a == b
  | _, .int j a, .int k b => j == k && a == b
  | _, .string a, .string b => a.data.toList == b.data.toList
  | _, .pointer a, .pointer b => a == b
  | _, .slice a n c, .slice b m d => a == b && Nat.beq n m && Nat.beq c d
  | _, .map a, .map b => a == b
  | _, .nilIface, .nilIface => true
  | _, .nilFunc, .nilFunc => true
  | f + 1, .iface t v, .iface u w => Nat.beq t u && veq f v w
  | f + 1, .agg a, .agg b => veqs f a.toList b.toList
  | f + 1, .tuple a, .tuple b => veqs f a.toList b.toList
  | _, _, _ => false
  where veqs (f : Nat) : List Value → List Value → Bool
  | [], [] => true
  | x :: xs, y :: ys => veq f x y && veqs f xs ys
  | _, _ => false
theorem veq_eq : ∀ (f : Nat) (a b : Value), veq f a b = true → a = b := by
  have rows : ∀ f, (∀ a b, veq f a b = true → a = b) → ∀ l l', veq.veqs f l l' = true → l = l' := by
    intro f ih l
    induction l with
    | nil => intro l' h; cases l' with | nil => rfl | cons => simp [veq.veqs] at h
    | cons x xs ihl =>
      intro l' h
      cases l' with
      | nil => simp [veq.veqs] at h
      | cons y ys =>
        simp only [veq.veqs, Bool.and_eq_true] at h
        rw [ih x y h.1, ihl ys h.2]
  intro f
  induction f with
  | zero =>
    intro a b h
    cases a <;> cases b <;> simp only [veq, Bool.and_eq_true, beq_iff_eq, Nat.beq_eq, Bool.false_eq_true] at h <;> try (cases h; done)
    all_goals first
      | rfl
      | (rw [h])
      | (obtain ⟨h1, h2⟩ := h; rw [h1, h2])
      | (obtain ⟨⟨h1, h2⟩, h3⟩ := h; rw [h1, h2, h3])
      | (congr 1; exact ByteArray.ext (Array.ext' h))
  | succ f ih =>
    intro a b h
    cases a <;> cases b <;> simp only [veq, Bool.and_eq_true, beq_iff_eq, Nat.beq_eq, Bool.false_eq_true] at h <;> try (cases h; done)
    all_goals first
      | rfl
      | (rw [h])
      | (obtain ⟨h1, h2⟩ := h; rw [h1, h2])
      | (obtain ⟨⟨h1, h2⟩, h3⟩ := h; rw [h1, h2, h3])
      | (obtain ⟨h1, h2⟩ := h; rw [h1, ih _ _ h2])
      | (congr 1; exact ByteArray.ext (Array.ext' h))
      | (congr 1; exact Array.ext' (rows f ih _ _ h))

/-! ### The run -/
/-- A loud operation. -/
def drawGo (P : Program) (enters : FuncId → FKind) (callF : CallF) (ops : Array Oper) (ms : List Nat) (base : Nat) : List Oper → Nat → Tree Value → AHeap → List (Nat × AObj) →
    Option (List Value × List AHeap × List (Nat × AObj))
  | [], _, _, _, objs => some ([], [], objs)
  | o :: rest, j, T, G, objs =>
    match wantedA ops o T with
    | false => match drawGo P enters callF ops ms base rest (j + 1) (Tput T o.dst undef) G objs with
      | some (vs, Gs, os) => some (undef :: vs, G :: Gs, os)
      | none => none
    | true => match clsOf P o with
      | .plain => match opR P (rhoA T) o (fillA (prd ms j) base objs G) with
        | some v => match drawGo P enters callF ops ms base rest (j + 1) (Tput T o.dst v) G objs with
          | some (vs, Gs, os) => some (v :: vs, G :: Gs, os)
          | none => none
        | none => none
      | .alloc => match opN P (rhoA T) o (base + j) with
        | some (v, ob) => match drawGo P enters callF ops ms base rest (j + 1) (Tput T o.dst v) G ((j, ob) :: objs) with
          | some (vs, Gs, os) => some (v :: vs, G :: Gs, os)
          | none => none
        | none => none
      | .loud => match stepA P enters callF ops o T (fillA (prd ms j) base objs G) with
        | some (v, G') => if objs.all (fun x => isDead ((fillA (prd ms j) base objs G).get (base + x.1)) || !isDead (G'.get (base + x.1))) then match drawGo P enters callF ops ms base rest (j + 1) (Tput T o.dst v) G' objs with
          | some (vs, Gs, os) => some (v :: vs, G' :: Gs, os)
          | none => none
          else none
        | none => none

def loudsOf (P : Program) (ops : Array Oper) : List Nat := (List.range ops.size).filter fun j => isLoud P (opAt ops j)
def compat (P : Program) (ops : Array Oper) (ms : List Nat) (i q : Nat) : Bool := (loudsOf P ops).all fun l => (!prd ms i l || Nat.blt l q) && (!Nat.blt l q || !prd ms l i)
def sameQ (P : Program) (ops : Array Oper) (i q : Nat) : Bool := Nat.ble q i && (loudsOf P ops).all fun l => !(Nat.ble q l && Nat.blt l i)
def todoAt (P : Program) (ops : Array Oper) (ms : List Nat) (i : Nat) : List Nat := (0 :: (loudsOf P ops).map (· + 1)).filter fun q => compat P ops ms i q && !sameQ P ops i q
def noHeap : AHeap := ⟨.leaf, 0, 0⟩
def heapAt (h0 : AHeap) (Gs : List AHeap) : Nat → AHeap
  | 0 => h0
  | q + 1 => Gs.getD q noHeap
def checkGo (P : Program) (ops : Array Oper) (ms : List Nat) (base : Nat) (h0 : AHeap) (Gs : List AHeap) (objs : List (Nat × AObj)) : List Oper → List Value → Nat → Tree Value → Bool
  | o :: rest, v :: vs, j, T =>
    (match clsOf P o, wantedA ops o T with
    | .plain, true => (todoAt P ops ms j).all fun q => match opR P (rhoA T) o (fillA (prd ms j) base objs (heapAt h0 Gs q)) with
      | some v' => veq 8 v' v
      | none => false
    | _, _ => true) && checkGo P ops ms base h0 Gs objs rest vs (j + 1) (Tput T o.dst v)
  | _, _, _, _ => true
def slots : List Oper → List Value → Tree Value → Tree Value
  | o :: rest, v :: vs, T => slots rest vs (Tput T o.dst v)
  | _, _, T => T

def drawA (P : Program) (enters : FuncId → FKind) (callF : CallF) : DrawF := fun ops T h =>
  let ms := masksGo ops.toList []
  if (planOk P ops ms ops.size && Nat.ble (h.next + ops.size) h.lim) && (List.range ops.size).all (fun i => isDead (h.get (h.next + i))) then
    let h0 : AHeap := { h with next := h.next + ops.size }
    match drawGo P enters callF ops ms h.next ops.toList 0 T h0 [] with
    | some (vs, Gs, objs) =>
      if checkGo P ops ms h.next h0 Gs objs ops.toList vs 0 T then some (slots ops.toList vs T, fillA (fun _ => true) h.next objs (heapAt h0 Gs ops.size)) else none
    | none => none
  else none
end
end Go.Ab
