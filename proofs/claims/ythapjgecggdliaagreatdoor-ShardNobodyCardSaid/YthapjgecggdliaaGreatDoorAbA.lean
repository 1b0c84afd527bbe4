import Derived.Orders
import Derived.Tactics
namespace Go.Ab
open Go

/-! ## A trie over numbers: four ways at each place -/
inductive Path where
  | z
  | a (p : Path)
  | b (p : Path)
  | c (p : Path)
  | d (p : Path)

def Path.turn : Nat → Path → Path
  | 0, p => .a p
  | 1, p => .b p
  | 2, p => .c p
  | _ + 3, p => .d p
def Path.ofF : Nat → Nat → Path
  | 0, _ => .z
  | f + 1, n => match n with
    | 0 => .z
    | m + 1 => Path.turn (m % 4) (Path.ofF f (m / 4))
/-- The way to a number. -/
def Path.of (n : Nat) : Path := Path.ofF (n + 1) n
def Path.num : Path → Nat
  | .z => 0
  | .a p => 4 * p.num + 1
  | .b p => 4 * p.num + 2
  | .c p => 4 * p.num + 3
  | .d p => 4 * p.num + 4
theorem Path.num_ofF : ∀ (f n : Nat), n < f → (Path.ofF f n).num = n := by
  intro f
  induction f with
  | zero => intro n h; omega
  | succ f ih =>
    intro n h
    cases n with
    | zero => rfl
    | succ m =>
      have h4 : m % 4 < 4 := Nat.mod_lt _ (by decide)
      have q := ih (m / 4) (by omega)
      simp only [Path.ofF]
      match hm : m % 4, h4 with
      | 0, _ => simp only [Path.turn, Path.num]; omega
      | 1, _ => simp only [Path.turn, Path.num]; omega
      | 2, _ => simp only [Path.turn, Path.num]; omega
      | 3, _ => simp only [Path.turn, Path.num]; omega
theorem Path.num_of (n : Nat) : (Path.of n).num = n := Path.num_ofF (n + 1) n (by omega)
theorem Path.of_inj {n k : Nat} (h : Path.of n = Path.of k) : n = k := by rw [← Path.num_of n, h, Path.num_of]

inductive Tree (α : Type) where
  | leaf
  | node (v : α) (t0 t1 t2 t3 : Tree α)
  deriving Inhabited

def Tree.top {α : Type} (d : α) : Tree α → α
  | .leaf => d
  | .node v _ _ _ _ => v
def Tree.getP {α : Type} (d : α) : Path → Tree α → α
  | .z, t => t.top d
  | .a p, t => match t with | .leaf => d | .node _ t0 _ _ _ => Tree.getP d p t0
  | .b p, t => match t with | .leaf => d | .node _ _ t1 _ _ => Tree.getP d p t1
  | .c p, t => match t with | .leaf => d | .node _ _ _ t2 _ => Tree.getP d p t2
  | .d p, t => match t with | .leaf => d | .node _ _ _ _ t3 => Tree.getP d p t3
def Tree.setP {α : Type} (d : α) : Path → Tree α → α → Tree α
  | .z, t, x => match t with | .leaf => .node x .leaf .leaf .leaf .leaf | .node _ t0 t1 t2 t3 => .node x t0 t1 t2 t3
  | .a p, t, x => match t with | .leaf => .node d (Tree.setP d p .leaf x) .leaf .leaf .leaf | .node v t0 t1 t2 t3 => .node v (Tree.setP d p t0 x) t1 t2 t3
  | .b p, t, x => match t with | .leaf => .node d .leaf (Tree.setP d p .leaf x) .leaf .leaf | .node v t0 t1 t2 t3 => .node v t0 (Tree.setP d p t1 x) t2 t3
  | .c p, t, x => match t with | .leaf => .node d .leaf .leaf (Tree.setP d p .leaf x) .leaf | .node v t0 t1 t2 t3 => .node v t0 t1 (Tree.setP d p t2 x) t3
  | .d p, t, x => match t with | .leaf => .node d .leaf .leaf .leaf (Tree.setP d p .leaf x) | .node v t0 t1 t2 t3 => .node v t0 t1 t2 (Tree.setP d p t3 x)
theorem Tree.getP_leaf {α : Type} (d : α) (p : Path) : Tree.getP d p .leaf = d := by cases p <;> rfl
theorem Tree.getP_setP {α : Type} (d x : α) : ∀ (p : Path) (t : Tree α) (q : Path), (p = q → Tree.getP d q (Tree.setP d p t x) = x) ∧ (p ≠ q → Tree.getP d q (Tree.setP d p t x) = Tree.getP d q t) := by
  intro p
  induction p with
  | z =>
    intro t q
    refine ⟨fun h => by subst h; cases t <;> rfl, fun h => ?_⟩
    cases q <;> first | exact absurd rfl h | (cases t <;> simp [Tree.setP, Tree.getP, Tree.getP_leaf])
  | a p ih =>
    intro t q
    refine ⟨fun h => by subst h; cases t <;> exact (ih _ p).1 rfl, fun h => ?_⟩
    cases q with
    | a q => cases t with
      | leaf => simpa [Tree.setP, Tree.getP, Tree.getP_leaf] using (ih .leaf q).2 (fun e => h (by rw [e]))
      | node v t0 t1 t2 t3 => exact (ih t0 q).2 (fun e => h (by rw [e]))
    | _ => cases t <;> simp [Tree.setP, Tree.getP, Tree.getP_leaf, Tree.top]
  | b p ih =>
    intro t q
    refine ⟨fun h => by subst h; cases t <;> exact (ih _ p).1 rfl, fun h => ?_⟩
    cases q with
    | b q => cases t with
      | leaf => simpa [Tree.setP, Tree.getP, Tree.getP_leaf] using (ih .leaf q).2 (fun e => h (by rw [e]))
      | node v t0 t1 t2 t3 => exact (ih t1 q).2 (fun e => h (by rw [e]))
    | _ => cases t <;> simp [Tree.setP, Tree.getP, Tree.getP_leaf, Tree.top]
  | c p ih =>
    intro t q
    refine ⟨fun h => by subst h; cases t <;> exact (ih _ p).1 rfl, fun h => ?_⟩
    cases q with
    | c q => cases t with
      | leaf => simpa [Tree.setP, Tree.getP, Tree.getP_leaf] using (ih .leaf q).2 (fun e => h (by rw [e]))
      | node v t0 t1 t2 t3 => exact (ih t2 q).2 (fun e => h (by rw [e]))
    | _ => cases t <;> simp [Tree.setP, Tree.getP, Tree.getP_leaf, Tree.top]
  | d p ih =>
    intro t q
    refine ⟨fun h => by subst h; cases t <;> exact (ih _ p).1 rfl, fun h => ?_⟩
    cases q with
    | d q => cases t with
      | leaf => simpa [Tree.setP, Tree.getP, Tree.getP_leaf] using (ih .leaf q).2 (fun e => h (by rw [e]))
      | node v t0 t1 t2 t3 => exact (ih t3 q).2 (fun e => h (by rw [e]))
    | _ => cases t <;> simp [Tree.setP, Tree.getP, Tree.getP_leaf, Tree.top]

def Tree.get {α : Type} (d : α) (t : Tree α) (n : Nat) : α := Tree.getP d (Path.of n) t
def Tree.set {α : Type} (d : α) (t : Tree α) (n : Nat) (x : α) : Tree α := Tree.setP d (Path.of n) t x
theorem Tree.get_leaf {α : Type} (d : α) (n : Nat) : (Tree.leaf : Tree α).get d n = d := Tree.getP_leaf d _
theorem Tree.get_set {α : Type} (d : α) (t : Tree α) (n k : Nat) (x : α) : (t.set d n x).get d k = if k = n then x else t.get d k := by
  unfold Tree.get Tree.set
  by_cases e : k = n
  · subst e; rw [if_pos rfl]; exact (Tree.getP_setP d x _ t _).1 rfl
  · rw [if_neg e]; exact (Tree.getP_setP d x _ t _).2 (fun h => e (Path.of_inj h).symm)

/-! ## Rows of values -/
structure Row where
  len : Nat
  t : Tree Value
def Row.get? (r : Row) (i : Nat) : Option Value := if Nat.blt i r.len then some (r.t.get undef i) else none
def Row.set (r : Row) (i : Nat) (v : Value) : Row := ⟨r.len, r.t.set undef i v⟩
theorem Row.get?_eq (r : Row) (i : Nat) : r.get? i = if i < r.len then some (r.t.get undef i) else none := by
  unfold Row.get?
  by_cases h : i < r.len
  · rw [if_pos h, if_pos (by simpa using h)]
  · rw [if_neg h, if_neg (by simpa using h)]
theorem Row.get?_none {r : Row} {i : Nat} (h : r.len ≤ i) : r.get? i = none := by rw [Row.get?_eq, if_neg (by omega)]
theorem Row.lt_of_get? {r : Row} {i : Nat} {v : Value} (h : r.get? i = some v) : i < r.len := by
  rcases Nat.lt_or_ge i r.len with h1 | h1
  · exact h1
  · rw [Row.get?_none h1] at h; cases h
theorem Row.get?_lt {r : Row} {i : Nat} (h : i < r.len) : ∃ v, r.get? i = some v := ⟨_, by rw [Row.get?_eq, if_pos h]⟩
theorem Row.get?_set (r : Row) (i j : Nat) (v : Value) : (r.set i v).get? j = if i = j then (if i < r.len then some v else none) else r.get? j := by
  rw [Row.get?_eq, Row.get?_eq]
  simp only [Row.set, Tree.get_set]
  by_cases e : i = j
  · subst e
    simp
  · rw [if_neg e, if_neg (show ¬ j = i from fun h => e h.symm)]
/-- A list's values, from a place on. -/
def treeOf : List Value → Nat → Tree Value → Tree Value
  | [], _, t => t
  | v :: rest, i, t => treeOf rest (i + 1) (t.set undef i v)
def Row.ofList (l : List Value) : Row := ⟨l.length, treeOf l 0 .leaf⟩
theorem treeOf_get : ∀ (l : List Value) (i : Nat) (t : Tree Value) (k : Nat), (treeOf l i t).get undef k = if i ≤ k ∧ k < i + l.length then (l[k - i]?).getD undef else t.get undef k := by
  intro l
  induction l with
  | nil => intro i t k; rw [if_neg (by simp)]; rfl
  | cons v l ih =>
    intro i t k
    simp only [treeOf]
    rw [ih, Tree.get_set]
    by_cases e : k = i
    · subst e
      rw [if_neg (by omega), if_pos rfl, if_pos (by simp), Nat.sub_self]; rfl
    · rw [if_neg e]
      by_cases c : i + 1 ≤ k ∧ k < i + 1 + l.length
      · rw [if_pos c, if_pos (by simp; omega)]
        obtain ⟨d, rfl⟩ : ∃ d, k = i + 1 + d := ⟨k - (i + 1), by omega⟩
        rw [show i + 1 + d - (i + 1) = d by omega, show i + 1 + d - i = d + 1 by omega]; rfl
      · rw [if_neg c, if_neg (by simp; omega)]
theorem Row.ofList_len (l : List Value) : (Row.ofList l).len = l.length := rfl
theorem Row.ofList_get? (l : List Value) (i : Nat) : (Row.ofList l).get? i = l[i]? := by
  rw [Row.get?_eq]
  simp only [Row.ofList, treeOf_get, Nat.zero_le, true_and, Nat.zero_add, Nat.sub_zero]
  by_cases h : i < l.length
  · rw [if_pos h, if_pos h]; simp [h]
  · rw [if_neg h]; simp; omega
/-- So many values from a place on. -/
def Row.part (r : Row) (i : Nat) : Nat → List Value
  | 0 => []
  | n + 1 => r.t.get undef i :: Row.part r (i + 1) n
theorem Row.part_length (r : Row) : ∀ (n i : Nat), (r.part i n).length = n := by
  intro n
  induction n with
  | zero => intro i; rfl
  | succ n ih => intro i; simp [Row.part, ih]
theorem Row.part_get? (r : Row) : ∀ (n i j : Nat), i + n ≤ r.len → j < n → (r.part i n)[j]? = r.get? (i + j) := by
  intro n
  induction n with
  | zero => intro i j _ h; omega
  | succ n ih =>
    intro i j h1 h2
    cases j with
    | zero => simp only [Row.part, List.getElem?_cons_zero, Nat.add_zero]; rw [Row.get?_eq, if_pos (by omega)]
    | succ j =>
      simp only [Row.part, List.getElem?_cons_succ]
      rw [ih (i + 1) j (by omega) (by omega), show i + 1 + j = i + (j + 1) by omega]
/-- Values written over a row's, from a place on. -/
def Row.lay (r : Row) (i : Nat) (l : List Value) : Row := ⟨r.len, treeOf l i r.t⟩
theorem Row.lay_get? (r : Row) (i : Nat) (l : List Value) (j : Nat) (h : i + l.length ≤ r.len) : (r.lay i l).get? j = if i ≤ j ∧ j < i + l.length then l[j - i]? else r.get? j := by
  rw [Row.get?_eq, Row.get?_eq]
  simp only [Row.lay, treeOf_get]
  by_cases c : i ≤ j ∧ j < i + l.length
  · rw [if_pos c, if_pos c, if_pos (by omega)]
    have : j - i < l.length := by omega
    simp [this]
  · rw [if_neg c, if_neg c]
/-- A row that is longer. -/
def Row.more (r : Row) (l : List Value) : Row := ⟨r.len + l.length, treeOf l r.len r.t⟩
theorem Row.more_get? (r : Row) (l : List Value) (j : Nat) : (r.more l).get? j = if j < r.len then r.get? j else l[j - r.len]? := by
  rw [Row.get?_eq, Row.get?_eq]
  simp only [Row.more, treeOf_get]
  by_cases c : j < r.len
  · rw [if_pos c, if_pos c, if_pos (show j < r.len + l.length by omega), if_neg (show ¬ (r.len ≤ j ∧ j < r.len + l.length) by omega)]
  · rw [if_neg c]
    by_cases e : j < r.len + l.length
    · rw [if_pos e, if_pos (by omega)]
      have : j - r.len < l.length := by omega
      simp [this]
    · rw [if_neg e, List.getElem?_eq_none (by omega)]
/-- What lies from a place on. -/
def Row.tail (r : Row) (o : Nat) : Row := match o with
  | 0 => r
  | k + 1 => Row.ofList (r.part (k + 1) (r.len - (k + 1)))
theorem Row.tail_len (r : Row) (o : Nat) : (r.tail o).len = r.len - o := by
  cases o with
  | zero => rfl
  | succ k => simp [Row.tail, Row.ofList_len, Row.part_length]
theorem Row.tail_get? (r : Row) (o j : Nat) : (r.tail o).get? j = r.get? (o + j) := by
  cases o with
  | zero => simp [Row.tail]
  | succ k =>
    simp only [Row.tail, Row.ofList_get?]
    by_cases h : j < r.len - (k + 1)
    · exact Row.part_get? r _ _ _ (by omega) h
    · rw [List.getElem?_eq_none (by rw [Row.part_length]; omega), Row.get?_none (by omega)]
theorem Row.tail_part (r : Row) (o n : Nat) (h : o + n ≤ r.len) : (r.tail o).part 0 n = r.part o n := by
  refine List.ext_getElem? fun j => ?_
  by_cases c : j < n
  · rw [Row.part_get? _ _ _ _ (by rw [Row.tail_len]; omega) c, Row.part_get? _ _ _ _ h c, Row.tail_get?, Nat.zero_add]
  · rw [List.getElem?_eq_none (by rw [Row.part_length]; omega), List.getElem?_eq_none (by rw [Row.part_length]; omega)]
end Go.Ab
