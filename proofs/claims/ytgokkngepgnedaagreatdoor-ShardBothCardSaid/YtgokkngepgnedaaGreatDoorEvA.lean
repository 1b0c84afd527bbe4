/- The evaluator over an abstract memory, proved sound: part 1. -/
import Derived.Orders
import Derived.Tactics
import Derived.Laws.Sem
import Derived.Laws.Cells
import Derived.Laws.Entries
import Derived.Lib.AppendZerosOnto
import Derived.Laws.AppendOwn
namespace Go.Ab
open Go

/-! ## A trie over numbers: four ways at each place -/
inductive Path where
  | z
  | a (p : Path)
  | b (p : Path)
  | c (p : Path)
  | d (p : Path)

def Path.turn : Nat → Path → Path
  | 0, p => .a p
  | 1, p => .b p
  | 2, p => .c p
  | _ + 3, p => .d p
def Path.ofF : Nat → Nat → Path
  | 0, _ => .z
  | f + 1, n => match n with
    | 0 => .z
    | m + 1 => Path.turn (m % 4) (Path.ofF f (m / 4))
/-- The way to a number. -/
def Path.of (n : Nat) : Path := Path.ofF (n + 1) n
def Path.num : Path → Nat
  | .z => 0
  | .a p => 4 * p.num + 1
  | .b p => 4 * p.num + 2
  | .c p => 4 * p.num + 3
  | .d p => 4 * p.num + 4
theorem Path.num_ofF : ∀ (f n : Nat), n < f → (Path.ofF f n).num = n := by
  intro f
  induction f with
  | zero => intro n h; omega
  | succ f ih =>
    intro n h
    cases n with
    | zero => rfl
    | succ m =>
      have h4 : m % 4 < 4 := Nat.mod_lt _ (by decide)
      have q := ih (m / 4) (by omega)
      simp only [Path.ofF]
      match hm : m % 4, h4 with
      | 0, _ => simp only [Path.turn, Path.num]; omega
      | 1, _ => simp only [Path.turn, Path.num]; omega
      | 2, _ => simp only [Path.turn, Path.num]; omega
      | 3, _ => simp only [Path.turn, Path.num]; omega
theorem Path.num_of (n : Nat) : (Path.of n).num = n := Path.num_ofF (n + 1) n (by omega)
theorem Path.of_inj {n k : Nat} (h : Path.of n = Path.of k) : n = k := by rw [← Path.num_of n, h, Path.num_of]

inductive Tree (α : Type) where
  | leaf
  | node (v : α) (t0 t1 t2 t3 : Tree α)
  deriving Inhabited

def Tree.top {α : Type} (d : α) : Tree α → α
  | .leaf => d
  | .node v _ _ _ _ => v
def Tree.getP {α : Type} (d : α) : Path → Tree α → α
  | .z, t => t.top d
  | .a p, t => match t with | .leaf => d | .node _ t0 _ _ _ => Tree.getP d p t0
  | .b p, t => match t with | .leaf => d | .node _ _ t1 _ _ => Tree.getP d p t1
  | .c p, t => match t with | .leaf => d | .node _ _ _ t2 _ => Tree.getP d p t2
  | .d p, t => match t with | .leaf => d | .node _ _ _ _ t3 => Tree.getP d p t3
def Tree.setP {α : Type} (d : α) : Path → Tree α → α → Tree α
  | .z, t, x => match t with | .leaf => .node x .leaf .leaf .leaf .leaf | .node _ t0 t1 t2 t3 => .node x t0 t1 t2 t3
  | .a p, t, x => match t with | .leaf => .node d (Tree.setP d p .leaf x) .leaf .leaf .leaf | .node v t0 t1 t2 t3 => .node v (Tree.setP d p t0 x) t1 t2 t3
  | .b p, t, x => match t with | .leaf => .node d .leaf (Tree.setP d p .leaf x) .leaf .leaf | .node v t0 t1 t2 t3 => .node v t0 (Tree.setP d p t1 x) t2 t3
  | .c p, t, x => match t with | .leaf => .node d .leaf .leaf (Tree.setP d p .leaf x) .leaf | .node v t0 t1 t2 t3 => .node v t0 t1 (Tree.setP d p t2 x) t3
  | .d p, t, x => match t with | .leaf => .node d .leaf .leaf .leaf (Tree.setP d p .leaf x) | .node v t0 t1 t2 t3 => .node v t0 t1 t2 (Tree.setP d p t3 x)
theorem Tree.getP_leaf {α : Type} (d : α) (p : Path) : Tree.getP d p .leaf = d := by cases p <;> rfl
theorem Tree.getP_setP {α : Type} (d x : α) : ∀ (p : Path) (t : Tree α) (q : Path), (p = q → Tree.getP d q (Tree.setP d p t x) = x) ∧ (p ≠ q → Tree.getP d q (Tree.setP d p t x) = Tree.getP d q t) := by
  intro p
  induction p with
  | z =>
    intro t q
    refine ⟨fun h => by subst h; cases t <;> rfl, fun h => ?_⟩
    cases q <;> first | exact absurd rfl h | (cases t <;> simp [Tree.setP, Tree.getP, Tree.getP_leaf])
  | a p ih =>
    intro t q
    refine ⟨fun h => by subst h; cases t <;> exact (ih _ p).1 rfl, fun h => ?_⟩
    cases q with
    | a q => cases t with
      | leaf => simpa [Tree.setP, Tree.getP, Tree.getP_leaf] using (ih .leaf q).2 (fun e => h (by rw [e]))
      | node v t0 t1 t2 t3 => exact (ih t0 q).2 (fun e => h (by rw [e]))
    | _ => cases t <;> simp [Tree.setP, Tree.getP, Tree.getP_leaf, Tree.top]
  | b p ih =>
    intro t q
    refine ⟨fun h => by subst h; cases t <;> exact (ih _ p).1 rfl, fun h => ?_⟩
    cases q with
    | b q => cases t with
      | leaf => simpa [Tree.setP, Tree.getP, Tree.getP_leaf] using (ih .leaf q).2 (fun e => h (by rw [e]))
      | node v t0 t1 t2 t3 => exact (ih t1 q).2 (fun e => h (by rw [e]))
    | _ => cases t <;> simp [Tree.setP, Tree.getP, Tree.getP_leaf, Tree.top]
  | c p ih =>
    intro t q
    refine ⟨fun h => by subst h; cases t <;> exact (ih _ p).1 rfl, fun h => ?_⟩
    cases q with
    | c q => cases t with
      | leaf => simpa [Tree.setP, Tree.getP, Tree.getP_leaf] using (ih .leaf q).2 (fun e => h (by rw [e]))
      | node v t0 t1 t2 t3 => exact (ih t2 q).2 (fun e => h (by rw [e]))
    | _ => cases t <;> simp [Tree.setP, Tree.getP, Tree.getP_leaf, Tree.top]
  | d p ih =>
    intro t q
    refine ⟨fun h => by subst h; cases t <;> exact (ih _ p).1 rfl, fun h => ?_⟩
    cases q with
    | d q => cases t with
      | leaf => simpa [Tree.setP, Tree.getP, Tree.getP_leaf] using (ih .leaf q).2 (fun e => h (by rw [e]))
      | node v t0 t1 t2 t3 => exact (ih t3 q).2 (fun e => h (by rw [e]))
    | _ => cases t <;> simp [Tree.setP, Tree.getP, Tree.getP_leaf, Tree.top]

def Tree.get {α : Type} (d : α) (t : Tree α) (n : Nat) : α := Tree.getP d (Path.of n) t
def Tree.set {α : Type} (d : α) (t : Tree α) (n : Nat) (x : α) : Tree α := Tree.setP d (Path.of n) t x
theorem Tree.get_leaf {α : Type} (d : α) (n : Nat) : (Tree.leaf : Tree α).get d n = d := Tree.getP_leaf d _
theorem Tree.get_set {α : Type} (d : α) (t : Tree α) (n k : Nat) (x : α) : (t.set d n x).get d k = if k = n then x else t.get d k := by
  unfold Tree.get Tree.set
  by_cases e : k = n
  · subst e; rw [if_pos rfl]; exact (Tree.getP_setP d x _ t _).1 rfl
  · rw [if_neg e]; exact (Tree.getP_setP d x _ t _).2 (fun h => e (Path.of_inj h).symm)

/-! ## Rows of values -/
structure Row where
  len : Nat
  t : Tree Value
def Row.get? (r : Row) (i : Nat) : Option Value := if Nat.blt i r.len then some (r.t.get undef i) else none
def Row.set (r : Row) (i : Nat) (v : Value) : Row := ⟨r.len, r.t.set undef i v⟩
theorem Row.get?_eq (r : Row) (i : Nat) : r.get? i = if i < r.len then some (r.t.get undef i) else none := by
  unfold Row.get?
  by_cases h : i < r.len
  · rw [if_pos h, if_pos (by simpa using h)]
  · rw [if_neg h, if_neg (by simpa using h)]
theorem Row.get?_none {r : Row} {i : Nat} (h : r.len ≤ i) : r.get? i = none := by rw [Row.get?_eq, if_neg (by omega)]
theorem Row.lt_of_get? {r : Row} {i : Nat} {v : Value} (h : r.get? i = some v) : i < r.len := by
  rcases Nat.lt_or_ge i r.len with h1 | h1
  · exact h1
  · rw [Row.get?_none h1] at h; cases h
theorem Row.get?_lt {r : Row} {i : Nat} (h : i < r.len) : ∃ v, r.get? i = some v := ⟨_, by rw [Row.get?_eq, if_pos h]⟩
theorem Row.get?_set (r : Row) (i j : Nat) (v : Value) : (r.set i v).get? j = if i = j then (if i < r.len then some v else none) else r.get? j := by
  rw [Row.get?_eq, Row.get?_eq]
  simp only [Row.set, Tree.get_set]
  by_cases e : i = j
  · subst e
    simp
  · rw [if_neg e, if_neg (show ¬ j = i from fun h => e h.symm)]
/-- A list's values, from a place on. -/
def treeOf : List Value → Nat → Tree Value → Tree Value
  | [], _, t => t
  | v :: rest, i, t => treeOf rest (i + 1) (t.set undef i v)
def Row.ofList (l : List Value) : Row := ⟨l.length, treeOf l 0 .leaf⟩
theorem treeOf_get : ∀ (l : List Value) (i : Nat) (t : Tree Value) (k : Nat), (treeOf l i t).get undef k = if i ≤ k ∧ k < i + l.length then (l[k - i]?).getD undef else t.get undef k := by
  intro l
  induction l with
  | nil => intro i t k; rw [if_neg (by simp)]; rfl
  | cons v l ih =>
    intro i t k
    simp only [treeOf]
    rw [ih, Tree.get_set]
    by_cases e : k = i
    · subst e
      rw [if_neg (by omega), if_pos rfl, if_pos (by simp), Nat.sub_self]; rfl
    · rw [if_neg e]
      by_cases c : i + 1 ≤ k ∧ k < i + 1 + l.length
      · rw [if_pos c, if_pos (by simp; omega)]
        obtain ⟨d, rfl⟩ : ∃ d, k = i + 1 + d := ⟨k - (i + 1), by omega⟩
        rw [show i + 1 + d - (i + 1) = d by omega, show i + 1 + d - i = d + 1 by omega]; rfl
      · rw [if_neg c, if_neg (by simp; omega)]
theorem Row.ofList_len (l : List Value) : (Row.ofList l).len = l.length := rfl
theorem Row.ofList_get? (l : List Value) (i : Nat) : (Row.ofList l).get? i = l[i]? := by
  rw [Row.get?_eq]
  simp only [Row.ofList, treeOf_get, Nat.zero_le, true_and, Nat.zero_add, Nat.sub_zero]
  by_cases h : i < l.length
  · rw [if_pos h, if_pos h]; simp [h]
  · rw [if_neg h]; simp; omega
/-- So many values from a place on. -/
def Row.part (r : Row) (i : Nat) : Nat → List Value
  | 0 => []
  | n + 1 => r.t.get undef i :: Row.part r (i + 1) n
theorem Row.part_length (r : Row) : ∀ (n i : Nat), (r.part i n).length = n := by
  intro n
  induction n with
  | zero => intro i; rfl
  | succ n ih => intro i; simp [Row.part, ih]
theorem Row.part_get? (r : Row) : ∀ (n i j : Nat), i + n ≤ r.len → j < n → (r.part i n)[j]? = r.get? (i + j) := by
  intro n
  induction n with
  | zero => intro i j _ h; omega
  | succ n ih =>
    intro i j h1 h2
    cases j with
    | zero => simp only [Row.part, List.getElem?_cons_zero, Nat.add_zero]; rw [Row.get?_eq, if_pos (by omega)]
    | succ j =>
      simp only [Row.part, List.getElem?_cons_succ]
      rw [ih (i + 1) j (by omega) (by omega), show i + 1 + j = i + (j + 1) by omega]
/-- Values written over a row's, from a place on. -/
def Row.lay (r : Row) (i : Nat) (l : List Value) : Row := ⟨r.len, treeOf l i r.t⟩
theorem Row.lay_get? (r : Row) (i : Nat) (l : List Value) (j : Nat) (h : i + l.length ≤ r.len) : (r.lay i l).get? j = if i ≤ j ∧ j < i + l.length then l[j - i]? else r.get? j := by
  rw [Row.get?_eq, Row.get?_eq]
  simp only [Row.lay, treeOf_get]
  by_cases c : i ≤ j ∧ j < i + l.length
  · rw [if_pos c, if_pos c, if_pos (by omega)]
    have : j - i < l.length := by omega
    simp [this]
  · rw [if_neg c, if_neg c]
/-- A row that is longer. -/
def Row.more (r : Row) (l : List Value) : Row := ⟨r.len + l.length, treeOf l r.len r.t⟩
theorem Row.more_get? (r : Row) (l : List Value) (j : Nat) : (r.more l).get? j = if j < r.len then r.get? j else l[j - r.len]? := by
  rw [Row.get?_eq, Row.get?_eq]
  simp only [Row.more, treeOf_get]
  by_cases c : j < r.len
  · rw [if_pos c, if_pos c, if_pos (show j < r.len + l.length by omega), if_neg (show ¬ (r.len ≤ j ∧ j < r.len + l.length) by omega)]
  · rw [if_neg c]
    by_cases e : j < r.len + l.length
    · rw [if_pos e, if_pos (by omega)]
      have : j - r.len < l.length := by omega
      simp [this]
    · rw [if_neg e, List.getElem?_eq_none (by omega)]
/-- What lies from a place on. -/
def Row.tail (r : Row) (o : Nat) : Row := match o with
  | 0 => r
  | k + 1 => Row.ofList (r.part (k + 1) (r.len - (k + 1)))
theorem Row.tail_len (r : Row) (o : Nat) : (r.tail o).len = r.len - o := by
  cases o with
  | zero => rfl
  | succ k => simp [Row.tail, Row.ofList_len, Row.part_length]
theorem Row.tail_get? (r : Row) (o j : Nat) : (r.tail o).get? j = r.get? (o + j) := by
  cases o with
  | zero => simp [Row.tail]
  | succ k =>
    simp only [Row.tail, Row.ofList_get?]
    by_cases h : j < r.len - (k + 1)
    · exact Row.part_get? r _ _ _ (by omega) h
    · rw [List.getElem?_eq_none (by rw [Row.part_length]; omega), Row.get?_none (by omega)]
theorem Row.tail_part (r : Row) (o n : Nat) (h : o + n ≤ r.len) : (r.tail o).part 0 n = r.part o n := by
  refine List.ext_getElem? fun j => ?_
  by_cases c : j < n
  · rw [Row.part_get? _ _ _ _ (by rw [Row.tail_len]; omega) c, Row.part_get? _ _ _ _ h c, Row.tail_get?, Nat.zero_add]
  · rw [List.getElem?_eq_none (by rw [Row.part_length]; omega), List.getElem?_eq_none (by rw [Row.part_length]; omega)]
end Go.Ab
namespace Go.Ab
open Go

/-! ## Abstract memory -/
inductive AObj where
  | dead
  | cells (c : Row) (elem : TypeId)
  | map (es : Array MapEntry) (clock : Nat)
  | iter (s : ByteArray) (pos : Nat)
  | miter (x : Option Nat) (since : Nat) (seen : Array Nat) (last : Nat)
  | ro (c : Row) (elem : TypeId)

def isRo : AObj → Bool
  | .ro _ _ => true
  | _ => false
/-- What is kept lies in the base; all else does not. -/
def protOf (o : AObj) (x : Option Obj) : Prop := match o with
  | .ro _ _ => x ≠ none
  | _ => x = none
theorem protOf_none {o : AObj} {x : Option Obj} (h : protOf o x) (hn : isRo o = false) : x = none := by
  cases o <;> first | exact h | cases hn
theorem protOf_some {o : AObj} {x : Option Obj} (h : protOf o x) (hn : isRo o = true) : x ≠ none := by
  cases o <;> first | exact h | cases hn
theorem protOf_mk {o : AObj} {x : Option Obj} (h1 : isRo o = true → x ≠ none) (h2 : isRo o = false → x = none) : protOf o x := by
  cases o <;> first | exact h1 rfl | exact h2 rfl

structure AHeap where
  t : Tree AObj
  next : Nat
  lim : Nat

def AHeap.get (h : AHeap) (b : Nat) : AObj := h.t.get .dead b
def AHeap.put (h : AHeap) (b : Nat) (o : AObj) : AHeap := match h with | ⟨t, n, l⟩ => ⟨t.set .dead b o, n, l⟩
def AHeap.push (h : AHeap) (o : AObj) : AHeap := match h with | ⟨t, n, l⟩ => ⟨t.set .dead n o, n + 1, l⟩

theorem AHeap.get_put (h : AHeap) (b k : Nat) (o : AObj) : (h.put b o).get k = if k = b then o else h.get k := by
  unfold AHeap.get AHeap.put
  simp only [Tree.get_set]
theorem AHeap.get_push (h : AHeap) (k : Nat) (o : AObj) : (h.push o).get k = if k = h.next then o else h.get k := by
  unfold AHeap.get AHeap.push
  simp only [Tree.get_set]

/-- Where an abstract block lies: the block, the offset of its first cell, its room in elements from there. -/
structure Loc where
  blk : Nat
  off : Nat
  cap : Nat

abbrev Mu := Nat → Option Loc
def Mu.le (m m' : Mu) : Prop := ∀ b l, m b = some l → m' b = some l
theorem Mu.le_refl (m : Mu) : m.le m := fun _ _ h => h
theorem Mu.le_trans {a b c : Mu} (h : a.le b) (k : b.le c) : a.le c := fun _ _ x => k _ _ (h _ _ x)

def OPEN : Nat := 2 ^ 64
def HALF : Nat := 2 ^ 63

/-- A value and what it stands for. -/
inductive VRel (m : Mu) : Value → Value → Prop where
  | bool (b : Bool) : VRel m (.bool b) (.bool b)
  | int (k : IntKind) (n : Int) : VRel m (.int k n) (.int k n)
  | float (k : FloatKind) (n : Nat) : VRel m (.float k n) (.float k n)
  | complex (k : FloatKind) (a b : Nat) : VRel m (.complex k a b) (.complex k a b)
  | string (s : ByteArray) : VRel m (.string s) (.string s)
  | nilPtr : VRel m (.pointer none) (.pointer none)
  | ptr (b o : Nat) (l : Loc) : m b = some l → VRel m (.pointer (some ⟨b, o, none⟩)) (.pointer (some ⟨l.blk, l.off + o, none⟩))
  | nilSlice (n c : Nat) : VRel m (.slice none n c) (.slice none n c)
  | slice (b o n c : Nat) (l : Loc) : m b = some l → c ≤ HALF → VRel m (.slice (some ⟨b, o, none⟩) n c) (.slice (some ⟨l.blk, l.off + o, none⟩) n c)
  | oslice (b o n k : Nat) (l : Loc) : m b = some l → k ≤ l.cap → k < HALF → n ≤ l.cap - k → VRel m (.slice (some ⟨b, o, none⟩) n (OPEN - k)) (.slice (some ⟨l.blk, l.off + o, none⟩) n (l.cap - k))
  | oslice0 (b o k : Nat) (l : Loc) (a : Addr) : m b = some l → k = l.cap → k < HALF → VRel m (.slice (some ⟨b, o, none⟩) 0 (OPEN - k)) (.slice (some a) 0 0)
  | slice0 (b o : Nat) (a : Addr) : VRel m (.slice (some ⟨b, o, none⟩) 0 0) (.slice (some a) 0 0)
  | nilMap : VRel m (.map none) (.map none)
  | nilChan : VRel m (.chan none) (.chan none)
  | any (r : Nat) (v' : Value) : (∀ b, v' ≠ .bool b) → (∀ c, v' ≠ .agg c) → (∀ c, v' ≠ .tuple c) → VRel m (.chan (some r)) v'
  | map (b : Nat) (l : Loc) : m b = some l → VRel m (.map (some b)) (.map (some l.blk))
  | nilFunc : VRel m .nilFunc .nilFunc
  | func (f : Fn) (a a' c c' : Array Value) : a.size = a'.size → (∀ i (h : i < a.size) (h' : i < a'.size), VRel m a[i] a'[i]) →
      c.size = c'.size → (∀ i (h : i < c.size) (h' : i < c'.size), VRel m c[i] c'[i]) → VRel m (.func f a c) (.func f a' c')
  | nilIface : VRel m .nilIface .nilIface
  | iface (t : TypeId) (v v' : Value) : VRel m v v' → VRel m (.iface t v) (.iface t v')
  | agg (c c' : Array Value) : c.size = c'.size → (∀ i (h : i < c.size) (h' : i < c'.size), VRel m c[i] c'[i]) → VRel m (.agg c) (.agg c')
  | tuple (c c' : Array Value) : c.size = c'.size → (∀ i (h : i < c.size) (h' : i < c'.size), VRel m c[i] c'[i]) → VRel m (.tuple c) (.tuple c')

/-- Rows of values. -/
def ARel (m : Mu) (c c' : Array Value) : Prop := c.size = c'.size ∧ ∀ i (h : i < c.size) (h' : i < c'.size), VRel m c[i] c'[i]

theorem VRel.mono {m m' : Mu} (hm : m.le m') {v v' : Value} (h : VRel m v v') : VRel m' v v' := by
  induction h with
  | bool b => exact .bool b
  | int k n => exact .int k n
  | float k n => exact .float k n
  | complex k a b => exact .complex k a b
  | string s => exact .string s
  | nilPtr => exact .nilPtr
  | ptr b o l h => exact .ptr b o l (hm _ _ h)
  | nilSlice n c => exact .nilSlice n c
  | slice b o n c l h hc => exact .slice b o n c l (hm _ _ h) hc
  | oslice b o n k l h h1 h2 h3 => exact .oslice b o n k l (hm _ _ h) h1 h2 h3
  | oslice0 b o k l a h h1 h2 => exact .oslice0 b o k l a (hm _ _ h) h1 h2
  | slice0 b o a => exact .slice0 b o a
  | nilMap => exact .nilMap
  | nilChan => exact .nilChan
  | any r v' g h k => exact .any r v' g h k
  | map b l h => exact .map b l (hm _ _ h)
  | nilFunc => exact .nilFunc
  | func f a a' c c' h1 _ h3 _ i1 i2 => exact .func f a a' c c' h1 i1 h3 i2
  | nilIface => exact .nilIface
  | iface t v v' _ ih => exact .iface t v v' ih
  | agg c c' h1 _ ih => exact .agg c c' h1 ih
  | tuple c c' h1 _ ih => exact .tuple c c' h1 ih

theorem ARel.mono {m m' : Mu} (hm : m.le m') {c c' : Array Value} (h : ARel m c c') : ARel m' c c' :=
  ⟨h.1, fun i a b => (h.2 i a b).mono hm⟩

/-- A value that holds no address. -/
def vflat : Nat → Value → Bool
  | _, .bool _ | _, .int _ _ | _, .float _ _ | _, .complex _ _ _ | _, .string _ | _, .pointer none | _, .slice none _ _ | _, .map none | _, .chan none | _, .nilFunc | _, .nilIface => true
  | n + 1, .iface _ v => vflat n v
  | n + 1, .agg c => c.toList.all (vflat n)
  | n + 1, .tuple c => c.toList.all (vflat n)
  | n + 1, .func _ a c => a.toList.all (vflat n) && c.toList.all (vflat n)
  | _, _ => false

theorem vflat_rel (m : Mu) : ∀ (n : Nat) (v : Value), vflat n v = true → VRel m v v := by
  intro n
  induction n with
  | zero =>
    intro v h
    cases v with
    | bool => exact .bool _
    | int => exact .int _ _
    | float => exact .float _ _
    | complex => exact .complex _ _ _
    | string => exact .string _
    | pointer a => cases a with | none => exact .nilPtr | some a => simp [vflat] at h
    | slice a => cases a with | none => exact .nilSlice _ _ | some a => simp [vflat] at h
    | map r => cases r with | none => exact .nilMap | some a => simp [vflat] at h
    | chan r => cases r with | none => exact .nilChan | some a => simp [vflat] at h
    | nilFunc => exact .nilFunc
    | nilIface => exact .nilIface
    | _ => simp [vflat] at h
  | succ n ih =>
    intro v h
    have rows : ∀ c : Array Value, c.toList.all (vflat n) = true → ∀ i (h : i < c.size) (_ : i < c.size), VRel m c[i] c[i] := by
      intro c hc i hi _
      exact ih _ (List.all_eq_true.1 hc _ (by simp))
    cases v with
    | bool => exact .bool _
    | int => exact .int _ _
    | float => exact .float _ _
    | complex => exact .complex _ _ _
    | string => exact .string _
    | pointer a => cases a with | none => exact .nilPtr | some a => simp [vflat] at h
    | slice a => cases a with | none => exact .nilSlice _ _ | some a => simp [vflat] at h
    | map r => cases r with | none => exact .nilMap | some a => simp [vflat] at h
    | chan r => cases r with | none => exact .nilChan | some a => simp [vflat] at h
    | nilFunc => exact .nilFunc
    | nilIface => exact .nilIface
    | iface t v => exact .iface t _ _ (ih v (by simpa [vflat] using h))
    | agg c => exact .agg _ _ rfl (rows c (by simpa [vflat] using h))
    | tuple c => exact .tuple _ _ rfl (rows c (by simpa [vflat] using h))
    | func f a c =>
      simp only [vflat, Bool.and_eq_true] at h
      exact .func _ _ _ _ _ rfl (rows a h.1) rfl (rows c h.2)

theorem VRel.of_flat {m : Mu} {v v' : Value} (h : VRel m v v') : ∀ n, vflat n v = true → v' = v := by
  induction h with
  | ptr b o l h => intro n hn; cases n <;> simp [vflat] at hn
  | slice b o n c l h hc => intro n hn; cases n <;> simp [vflat] at hn
  | oslice b o n k l h h1 h2 h3 => intro n hn; cases n <;> simp [vflat] at hn
  | oslice0 b o k l a h h1 h2 => intro n hn; cases n <;> simp [vflat] at hn
  | slice0 b o a => intro n hn; cases n <;> simp [vflat] at hn
  | map b l h => intro n hn; cases n <;> simp [vflat] at hn
  | any r v' g h k => intro n hn; cases n <;> simp [vflat] at hn
  | func f a a' c c' h1 _ h3 _ i1 i2 =>
    intro n hn
    cases n with
    | zero => simp [vflat] at hn
    | succ n =>
      simp only [vflat, Bool.and_eq_true] at hn
      have e1 : a' = a := Array.ext h1.symm (fun i hi hi' => i1 i hi' hi n (List.all_eq_true.1 hn.1 _ (by simp)))
      have e2 : c' = c := Array.ext h3.symm (fun i hi hi' => i2 i hi' hi n (List.all_eq_true.1 hn.2 _ (by simp)))
      rw [e1, e2]
  | iface t v v' _ ih =>
    intro n hn
    cases n with
    | zero => simp [vflat] at hn
    | succ n => rw [ih n (by simpa [vflat] using hn)]
  | agg c c' h1 _ ih =>
    intro n hn
    cases n with
    | zero => simp [vflat] at hn
    | succ n =>
      simp only [vflat] at hn
      have e1 : c' = c := Array.ext h1.symm (fun i hi hi' => ih i hi' hi n (List.all_eq_true.1 hn _ (by simp)))
      rw [e1]
  | tuple c c' h1 _ ih =>
    intro n hn
    cases n with
    | zero => simp [vflat] at hn
    | succ n =>
      simp only [vflat] at hn
      have e1 : c' = c := Array.ext h1.symm (fun i hi hi' => ih i hi' hi n (List.all_eq_true.1 hn _ (by simp)))
      rw [e1]
  | _ => intro n _; rfl

/-! ## The relation of memories -/
structure Base where
  prot : Nat → Option Obj
  os : Os
  tape : Nat → Question → Nat
  output : Array (Nat × ByteArray)

def ERel (m : Mu) (e e' : MapEntry) : Prop := VRel m e.key e'.key ∧ VRel m e.val e'.val ∧ e.born = e'.born

/-- A map's number, and what it stands for. -/
def MRel (m : Mu) : Option Nat → Option Nat → Prop
  | none, none => True
  | some b, some r => ∃ l, m b = some l ∧ l.blk = r
  | _, _ => False
theorem MRel.mono {m m' : Mu} (hm : Mu.le m m') {x x' : Option Nat} (h : MRel m x x') : MRel m' x x' := by
  cases x <;> cases x' <;> first | exact h.elim | exact trivial | (obtain ⟨l, h1, h2⟩ := h; exact ⟨l, hm _ _ h1, h2⟩)

/-- What lies there. -/
def OKObj (P : Program) (m : Mu) (l : Loc) (w : World) : AObj → Prop
  | .dead => True
  | .cells c t => ∃ C fr, w.heap[l.blk]? = some (.cells C t fr) ∧ (∀ i, i < C.size → ¬ (fr.1 ≤ i ∧ i < fr.2)) ∧ l.off + c.len ≤ C.size ∧
      (∀ i v, c.get? i = some v → ∃ v', C[l.off + i]? = some v' ∧ VRel m v v') ∧
      (∀ s, (P.info? t).map (·.size) = some s → l.off + l.cap * s ≤ C.size ∧ l.off % s = 0 ∧ l.cap ≤ HALF ∧ (P.underlying t ≠ some (.int .u8) → ¬ (fr.1 ≤ C.size ∧ C.size < fr.2)))
  | .map es k => ∃ es', w.heap[l.blk]? = some (.map es' k) ∧ l.off = 0 ∧ es.size = es'.size ∧ ∀ i (h : i < es.size) (h' : i < es'.size), ERel m es[i] es'[i]
  | .iter s p => w.heap[l.blk]? = some (.stringIter s p) ∧ l.off = 0
  | .ro c _ => ∃ C t fr, w.heap[l.blk]? = some (.cells C t fr) ∧ l.off + c.len ≤ C.size ∧ ∀ i v, c.get? i = some v → ∃ v', C[l.off + i]? = some v' ∧ VRel m v v'
  | .miter x since seen last => (∃ x', w.heap[l.blk]? = some (.mapIter x' since seen last) ∧ MRel m x x') ∧ l.off = 0

def rowIn : AObj → Option Row
  | .cells c _ => some c
  | .ro c _ => some c
  | _ => none
theorem okRow {P : Program} {m : Mu} {l : Loc} {w : World} {o : AObj} {c : Row} (h : OKObj P m l w o) (hc : rowIn o = some c) :
    o ≠ .dead ∧ ∃ C t fr, w.heap[l.blk]? = some (.cells C t fr) ∧ l.off + c.len ≤ C.size ∧ ∀ i v, c.get? i = some v → ∃ v', C[l.off + i]? = some v' ∧ VRel m v v' := by
  cases o with
  | cells c' t => cases hc; obtain ⟨C, fr, h1, _, h3, h4, _⟩ := h; exact ⟨(fun q => by cases q), C, t, fr, h1, h3, h4⟩
  | ro c' t => cases hc; obtain ⟨C, te, fr, h1, h3, h4⟩ := h; exact ⟨(fun q => by cases q), C, te, fr, h1, h3, h4⟩
  | _ => cases hc
theorem rowIn_live {o : AObj} {c : Row} (hc : rowIn o = some c) : o ≠ .dead := by cases o <;> first | cases hc; done | (intro q; cases q)

structure Rel (P : Program) (B : Base) (m : Mu) (h : AHeap) (w : World) : Prop where
  os : w.os = B.os
  tape : w.tape = B.tape
  output : w.output = B.output
  prot : ∀ k o, B.prot k = some o → w.heap[k]? = some o
  obj : ∀ b, h.get b ≠ .dead → ∃ l, m b = some l ∧ protOf (h.get b) (B.prot l.blk) ∧ OKObj P m l w (h.get b)
  sep : ∀ b b' l l', h.get b ≠ .dead → h.get b' ≠ .dead → isRo (h.get b') = false → m b = some l → m b' = some l' → l.blk = l'.blk → b = b'
  fresh : ∀ b, h.next ≤ b → b < h.lim → h.get b = .dead ∧ m b = none

/-! ## Running over abstract memory -/
def AHeap.cell? (h : AHeap) (a : Addr) : Option Value :=
  match a.spot with
  | some _ => none
  | none => match h.get a.block with
    | .cells c _ => c.get? a.off
    | .ro c _ => c.get? a.off
    | _ => none

theorem AHeap.cell?_row {h : AHeap} {b o : Nat} {c : Row} (hb : rowIn (h.get b) = some c) : h.cell? ⟨b, o, none⟩ = c.get? o := by
  unfold AHeap.cell?
  dsimp only
  cases hg : h.get b <;> rw [hg] at hb <;> cases hb <;> rfl

def AHeap.setCell (h : AHeap) (a : Addr) (v : Value) : Option AHeap :=
  match a.spot with
  | some _ => none
  | none => match h.get a.block with
    | .cells c t => match Nat.blt a.off c.len with | true => some (h.put a.block (.cells (c.set a.off v) t)) | false => none
    | _ => none

def _root_.Go.Sem.runA {α : Type} (P : Program) : Sem α → AHeap → Option (α × AHeap)
  | .pure a, h => some (a, h)
  | .load _ a k, h => match h.cell? a with
    | some v => (k v).runA P h
    | none => none
  | .store _ _ (.agg _) _, _ => none
  | .store _ _ (.tuple _) _, _ => none
  | .store _ a v k, h => match h.setCell a v with
    | some h' => k.runA P h'
    | none => none
  | .new (.cells c e (0, 0)) k, h => match Nat.blt h.next h.lim with
    | true => (k h.next).runA P (h.push (.cells (Row.ofList c.toList) e))
    | false => none
  | .new (.map es c) k, h => match Nat.blt h.next h.lim with
    | true => (k h.next).runA P (h.push (.map es c))
    | false => none
  | .new (.stringIter s p) k, h => match Nat.blt h.next h.lim with
    | true => (k h.next).runA P (h.push (.iter s p))
    | false => none
  | .getObj r k, h => match h.get r with
    | .map es c => (k (.map es c)).runA P h
    | .iter s p => (k (.stringIter s p)).runA P h
    | _ => none
  | .setObj r (.map es c) k, h => match h.get r with
    | .map _ _ => k.runA P (h.put r (.map es c))
    | _ => none
  | .setObj r (.stringIter s p) k, h => match h.get r with
    | .iter _ _ => k.runA P (h.put r (.iter s p))
    | _ => none
  | .program k, h => (k P).runA P h
  | .mark _ k, h => k.runA P h
  | _, _ => none

theorem runA_bind {α β : Type} (P : Program) (s : Sem α) (f : α → Sem β) : ∀ h, (s.bind f).runA P h = match s.runA P h with
    | some (a, h') => (f a).runA P h'
    | none => none := by
  induction s with
  | pure a => intro h; rfl
  | load md a k ih => intro h; simp only [Sem.bind, Sem.runA]; split <;> simp_all
  | store md a v k ih => intro h; cases v <;> simp only [Sem.bind, Sem.runA] <;> (try rfl) <;> split <;> simp_all
  | new o k ih =>
    intro h
    cases o with
    | cells c e fr => obtain ⟨x, y⟩ := fr; cases x <;> cases y <;> simp only [Sem.bind, Sem.runA] <;> split <;> simp_all
    | map => simp only [Sem.bind, Sem.runA]; split <;> simp_all
    | stringIter => simp only [Sem.bind, Sem.runA]; split <;> simp_all
    | _ => simp [Sem.bind, Sem.runA]
  | shape r k ih => intro h; rfl
  | freeze a n k ih => intro h; rfl
  | frozen a k ih => intro h; rfl
  | getObj r k ih => intro h; simp only [Sem.bind, Sem.runA]; split <;> simp_all
  | setObj r o k ih =>
    intro h
    cases o with
    | map => simp only [Sem.bind, Sem.runA]; split <;> simp_all
    | stringIter => simp only [Sem.bind, Sem.runA]; split <;> simp_all
    | _ => simp [Sem.bind, Sem.runA]
  | choose q k ih => intro h; rfl
  | sys c k ih => intro h; rfl
  | program k ih => intro h; simp only [Sem.bind, Sem.runA]; exact ih _ _
  | mark md k ih => intro h; simp only [Sem.bind, Sem.runA]; exact ih _
  | halt x => intro h; rfl

/-- What grows: outside the window nothing is turned. -/
def Ext (h : AHeap) (m m' : Mu) : Prop := Mu.le m m' ∧ ∀ b, b < h.next ∨ h.lim ≤ b → m' b = m b
theorem Ext.refl (h : AHeap) (m : Mu) : Ext h m m := ⟨Mu.le_refl m, fun _ _ => rfl⟩
theorem Ext.trans {h h2 : AHeap} {a b c : Mu} (k : Ext h a b) (k2 : Ext h2 b c) (hn : h.next ≤ h2.next) (hl : h2.lim = h.lim) : Ext h a c :=
  ⟨Mu.le_trans k.1 k2.1, fun x hx => by
    rw [k2.2 x (by rw [hl]; omega), k.2 x hx]⟩

/-- The window moves on alone; what is dead outside it stays dead. -/
def Nx (h h' : AHeap) : Prop := h.next ≤ h'.next ∧ h'.lim = h.lim ∧ (∀ b, (b < h.next ∨ h.lim ≤ b) → h.get b = .dead → h'.get b = .dead) ∧ ∀ b, isRo (h'.get b) = true → h'.get b = h.get b
theorem Nx.refl (h : AHeap) : Nx h h := ⟨Nat.le_refl _, rfl, fun _ _ e => e, fun _ _ => rfl⟩
theorem Nx.trans {a b c : AHeap} (h : Nx a b) (k : Nx b c) : Nx a c :=
  ⟨Nat.le_trans h.1 k.1, k.2.1.trans h.2.1, fun x hx e => k.2.2.1 x (by have := h.1; have := h.2.1; omega) (h.2.2.1 x hx e), fun x hx => by
    have e := k.2.2.2 x hx
    rw [e] at hx ⊢
    exact h.2.2.2 x hx⟩
theorem Nx.put {h : AHeap} {b : Nat} {o : AObj} (hb : h.get b ≠ .dead) (hno : isRo o = false := by rfl) : Nx h (h.put b o) :=
  ⟨Nat.le_refl _, rfl, fun x _ e => by
    rw [AHeap.get_put, if_neg]
    · exact e
    · rintro rfl; exact hb e, fun x hx => by
    rw [AHeap.get_put] at hx ⊢
    split
    · rename_i e; rw [if_pos e, hno] at hx; cases hx
    · rfl⟩
theorem Nx.kill (h : AHeap) (b : Nat) : Nx h (h.put b .dead) :=
  ⟨Nat.le_refl _, rfl, fun x _ e => by
    rw [AHeap.get_put]
    split
    · rfl
    · exact e, fun x hx => by
    rw [AHeap.get_put] at hx ⊢
    split
    · rename_i e; rw [if_pos e] at hx; cases hx
    · rfl⟩
theorem Nx.push {h : AHeap} {o : AObj} (hl : h.next < h.lim) (hno : isRo o = false := by rfl) : Nx h (h.push o) :=
  ⟨Nat.le_succ _, rfl, fun x hx e => by
    rw [AHeap.get_push, if_neg (by omega)]
    exact e, fun x hx => by
    rw [AHeap.get_push] at hx ⊢
    split
    · rename_i e; rw [if_pos e, hno] at hx; cases hx
    · rfl⟩

theorem AHeap.setCell_next {h h' : AHeap} {a : Addr} {v : Value} (e : h.setCell a v = some h') : Nx h h' := by
  unfold AHeap.setCell at e
  split at e
  · cases e
  · split at e
    · rename_i hb
      split at e
      · obtain rfl := Option.some.inj e; exact Nx.put (by rw [hb]; intro h; cases h)
      · cases e
    · cases e

theorem runA_nx {α : Type} (P : Program) (s : Sem α) : ∀ (h : AHeap) (a : α) (h' : AHeap), s.runA P h = some (a, h') → Nx h h' := by
  induction s with
  | pure a => intro h b h' e; simp only [Sem.runA, Option.some.injEq, Prod.mk.injEq] at e; obtain ⟨_, rfl⟩ := e; exact Nx.refl _
  | load md a k ih => intro h b h' e; simp only [Sem.runA] at e; split at e; (exact ih _ _ _ _ e); (cases e)
  | store md a v k ih =>
    intro h b h' e
    cases v <;> simp only [Sem.runA] at e <;> first
      | (cases e; done)
      | (split at e
         · rename_i h2 hs
           exact (AHeap.setCell_next hs).trans (ih _ _ _ e)
         · cases e)
  | new o k ih =>
    intro h b h' e
    cases o with
    | cells c t fr => obtain ⟨x, y⟩ := fr; cases x <;> cases y <;> simp only [Sem.runA] at e <;> first | (cases e; done) | (split at e; (rename_i hb; exact (Nx.push (by simpa using hb)).trans (ih _ _ _ _ e)); (cases e))
    | map => simp only [Sem.runA] at e; split at e; (rename_i hb; exact (Nx.push (by simpa using hb)).trans (ih _ _ _ _ e)); (cases e)
    | stringIter => simp only [Sem.runA] at e; split at e; (rename_i hb; exact (Nx.push (by simpa using hb)).trans (ih _ _ _ _ e)); (cases e)
    | _ => simp [Sem.runA] at e
  | shape r k ih => intro h b h' e; simp [Sem.runA] at e
  | freeze a n k ih => intro h b h' e; simp [Sem.runA] at e
  | frozen a k ih => intro h b h' e; simp [Sem.runA] at e
  | getObj r k ih => intro h b h' e; simp only [Sem.runA] at e; split at e <;> first | (exact ih _ _ _ _ e) | (cases e)
  | setObj r o k ih =>
    intro h b h' e
    cases o with
    | map => simp only [Sem.runA] at e; split at e; (rename_i hb; exact (Nx.put (by rw [hb]; intro h; cases h)).trans (ih _ _ _ e)); (cases e)
    | stringIter => simp only [Sem.runA] at e; split at e; (rename_i hb; exact (Nx.put (by rw [hb]; intro h; cases h)).trans (ih _ _ _ e)); (cases e)
    | _ => simp [Sem.runA] at e
  | choose q k ih => intro h b h' e; simp [Sem.runA] at e
  | sys c k ih => intro h b h' e; simp [Sem.runA] at e
  | program k ih => intro h b h' e; simp only [Sem.runA] at e; exact ih _ _ _ _ e
  | mark md k ih => intro h b h' e; simp only [Sem.runA] at e; exact ih _ _ _ e
  | halt x => intro h b h' e; simp [Sem.runA] at e
theorem runA_next {α : Type} (P : Program) (s : Sem α) (h : AHeap) (a : α) (h' : AHeap) (e : s.runA P h = some (a, h')) : h.next ≤ h'.next ∧ h'.lim = h.lim :=
  ⟨(runA_nx P s h a h' e).1, (runA_nx P s h a h' e).2.1⟩

end Go.Ab
namespace Go.Ab
open Go

/-! ## Simulation of one computation by another -/
section
variable {P : Program} {B : Base}

def Sim (P : Program) (B : Base) (m : Mu) {α β : Type} (s : Sem α) (s' : Sem β) (RR : Mu → α → β → Prop) : Prop :=
  ∀ h w, Rel P B m h w → ∀ a h', s.runA P h = some (a, h') → ∃ b w' m', s'.run P w = .ok b w' ∧ Ext h m m' ∧ Rel P B m' h' w' ∧ RR m' a b

theorem runA_bind' {α β : Type} (s : Sem α) (f : α → Sem β) (hp : AHeap) : (s >>= f).runA P hp = match s.runA P hp with
    | some (a, h') => (f a).runA P h'
    | none => none := runA_bind P s f hp
theorem runA_bind_none {α β : Type} {s : Sem α} {f : α → Sem β} {hp : AHeap} (h : s.runA P hp = Option.none) : (s >>= f).runA P hp = Option.none := by
  rw [runA_bind', h]
theorem runA_bind_some {α β : Type} {s : Sem α} {f : α → Sem β} {hp h1 : AHeap} {a : α} (h : s.runA P hp = some (a, h1)) : (s >>= f).runA P hp = (f a).runA P h1 := by
  rw [runA_bind', h]
theorem runA_pure {α : Type} (a : α) (hp : AHeap) : (Pure.pure a : Sem α).runA P hp = some (a, hp) := rfl

theorem Sim.pure {m : Mu} {α β : Type} {a : α} {b : β} {RR : Mu → α → β → Prop} (h : RR m a b) : Sim P B m (Pure.pure a : Sem α) (Pure.pure b : Sem β) RR := by
  intro hp w hr a' h' he
  rw [runA_pure] at he
  simp only [Option.some.injEq, Prod.mk.injEq] at he
  obtain ⟨rfl, rfl⟩ := he
  exact ⟨b, w, m, rfl, Ext.refl _ m, hr, h⟩

theorem Sim.bind {m : Mu} {α α' β β' : Type} {s : Sem α} {s' : Sem α'} {f : α → Sem β} {f' : α' → Sem β'} {RR : Mu → α → α' → Prop} {SS : Mu → β → β' → Prop}
    (h : Sim P B m s s' RR) (k : ∀ m', Mu.le m m' → ∀ a b, RR m' a b → Sim P B m' (f a) (f' b) SS) : Sim P B m (s >>= f) (s' >>= f') SS := by
  intro hp w hr a h' he
  cases h1 : s.runA P hp with
  | none => rw [runA_bind_none h1] at he; cases he
  | some r =>
    obtain ⟨x, h2⟩ := r
    rw [runA_bind_some h1] at he
    obtain ⟨b, w', m', hrun, hle, hr', hRR⟩ := h hp w hr x h2 h1
    obtain ⟨b2, w2, m2, hrun2, hle2, hr2, hSS⟩ := k m' hle.1 x b hRR h2 w' hr' a h' he
    have hnx := runA_next P s _ _ _ h1
    refine ⟨b2, w2, m2, ?_, Ext.trans hle hle2 hnx.1 hnx.2, hr2, hSS⟩
    rw [Sem.run_bind, hrun]
    exact hrun2

theorem Sim.mono {m : Mu} {α β : Type} {s : Sem α} {s' : Sem β} {RR SS : Mu → α → β → Prop} (h : Sim P B m s s' RR) (k : ∀ m', Mu.le m m' → ∀ a b, RR m' a b → SS m' a b) : Sim P B m s s' SS := by
  intro hp w hr a h' he
  obtain ⟨b, w', m', h1, h2, h3, h4⟩ := h hp w hr a h' he
  exact ⟨b, w', m', h1, h2, h3, k _ h2.1 _ _ h4⟩

/-- What halts here stands for anything. -/
theorem Sim.of_none {m : Mu} {α β : Type} {s : Sem α} {s' : Sem β} {RR : Mu → α → β → Prop} (h : ∀ hp, s.runA P hp = Option.none) : Sim P B m s s' RR := by
  intro hp w hr a h' he
  rw [h] at he; cases he
theorem Sim.halt {m : Mu} {α β : Type} {x : Halt} {s' : Sem β} {RR : Mu → α → β → Prop} : Sim P B m (.halt x : Sem α) s' RR := Sim.of_none fun _ => rfl
theorem Sim.stuck {m : Mu} {α β : Type} {x : String} {s' : Sem β} {RR : Mu → α → β → Prop} : Sim P B m (Go.stuck x : Sem α) s' RR := Sim.halt
theorem Sim.unsupported {m : Mu} {α β : Type} {x : Unsupported} {s' : Sem β} {RR : Mu → α → β → Prop} : Sim P B m (Go.unsupported x : Sem α) s' RR := Sim.halt
theorem choose_runA (q : Question) : ∀ h, (choose q).runA P h = Option.none := fun _ => rfl
theorem goPanic_runA {α : Type} (v : Value) : ∀ h, (goPanic v : Sem α).runA P h = Option.none := fun _ => rfl
theorem bind_none_right {α β : Type} {s : Sem α} {f : α → Sem β} (h : ∀ a hp, (f a).runA P hp = Option.none) : ∀ hp, (s >>= f).runA P hp = Option.none := by
  intro hp
  cases h1 : s.runA P hp with
  | none => exact runA_bind_none h1
  | some r => obtain ⟨x, h2⟩ := r; rw [runA_bind_some h1, h]
theorem runtimePanic_runA {α : Type} (e : RuntimeError) : ∀ h, (runtimePanic e : Sem α).runA P h = Option.none := by
  intro h
  unfold runtimePanic
  refine bind_none_right (fun p hp => ?_) h
  cases e <;> first
    | rfl
    | exact bind_none_right (fun a hp => goPanic_runA _ hp) hp
    | exact bind_none_right (fun a hp => bind_none_right (fun a hp => goPanic_runA _ hp) hp) hp
theorem boundsPanic_runA {α : Type} (k : IntKind) (x y : Int) (c : BoundsCode) : ∀ h, (boundsPanic k x y c : Sem α).runA P h = Option.none := by
  intro h
  unfold boundsPanic
  dsimp only
  split
  · exact bind_none_right (fun a hp => runtimePanic_runA _ hp) h
  · exact bind_none_right (fun a hp => runtimePanic_runA _ hp) h
theorem Sim.panic {m : Mu} {α β : Type} {e : RuntimeError} {s' : Sem β} {RR : Mu → α → β → Prop} : Sim P B m (runtimePanic e : Sem α) s' RR := Sim.of_none (runtimePanic_runA e)
theorem Sim.bounds {m : Mu} {α β : Type} {k : IntKind} {x y : Int} {c : BoundsCode} {s' : Sem β} {RR : Mu → α → β → Prop} : Sim P B m (boundsPanic k x y c : Sem α) s' RR := Sim.of_none (boundsPanic_runA k x y c)
theorem Sim.bind_stuck {m : Mu} {α β γ : Type} {s : Sem α} {f : α → Sem γ} {s' : Sem β} {RR : Mu → γ → β → Prop} (h : ∀ hp, s.runA P hp = Option.none) : Sim P B m (s >>= f) s' RR :=
  Sim.of_none fun _ => runA_bind_none (h _)

/-- What does not touch memory. -/
def Free (P : Program) {α : Type} (s : Sem α) : Prop := ∀ h a h', s.runA P h = some (a, h') → h' = h ∧ ∀ w, s.run P w = .ok a w
theorem Free.pure {α : Type} (a : α) : Free P (Pure.pure a : Sem α) := by
  intro h b h' he
  rw [runA_pure] at he
  simp only [Option.some.injEq, Prod.mk.injEq] at he
  obtain ⟨rfl, rfl⟩ := he
  exact ⟨rfl, fun _ => rfl⟩
theorem Free.bind {α β : Type} {s : Sem α} {f : α → Sem β} (h : Free P s) (k : ∀ a, Free P (f a)) : Free P (s >>= f) := by
  intro hp a h' he
  cases h1 : s.runA P hp with
  | none => rw [runA_bind_none h1] at he; cases he
  | some r =>
    obtain ⟨x, h2⟩ := r
    rw [runA_bind_some h1] at he
    obtain ⟨rfl, hw⟩ := h hp x h2 h1
    obtain ⟨rfl, hw2⟩ := k x h2 a h' he
    refine ⟨rfl, fun w => ?_⟩
    rw [Sem.run_bind, hw]
    exact hw2 w
theorem Free.of_none {α : Type} {s : Sem α} (h : ∀ hp, s.runA P hp = Option.none) : Free P s := by
  intro hp b h' he
  rw [h] at he; cases he
theorem Free.halt {α : Type} (x : Halt) : Free P (.halt x : Sem α) := Free.of_none fun _ => rfl
theorem Free.program : Free P Go.program := by
  intro h b h' he
  simp only [Go.program, Sem.runA, Option.some.injEq, Prod.mk.injEq] at he
  obtain ⟨rfl, rfl⟩ := he
  exact ⟨rfl, fun _ => rfl⟩
theorem Free.underlying (t : TypeId) : Free P (Go.underlying t) := by
  unfold Go.underlying
  refine Free.bind Free.program fun p => ?_
  split
  · exact Free.pure _
  · exact Free.halt _
theorem Free.typeInfo (t : TypeId) : Free P (Go.typeInfo t) := by
  unfold Go.typeInfo
  refine Free.bind Free.program fun p => ?_
  split
  · exact Free.pure _
  · exact Free.halt _
theorem Free.sizeOf (t : TypeId) : Free P (Go.sizeOf t) := by
  unfold Go.sizeOf
  exact Free.bind (Free.typeInfo t) fun i => Free.pure _
theorem Free.zeroValue (t : TypeId) : Free P (Go.zeroValue t) := by
  unfold Go.zeroValue
  refine Free.bind (Free.typeInfo t) fun i => ?_
  split
  · exact Free.pure _
  · exact Free.halt _
theorem Free.isAgg (t : TypeId) : Free P (Go.isAgg t) := by
  unfold Go.isAgg
  refine Free.bind (Free.underlying t) fun i => ?_
  split <;> exact Free.pure _

/-- A computation that touches no memory, done on both sides alike. -/
theorem Sim.free {m : Mu} {α β γ : Type} {s : Sem α} {f : α → Sem β} {f' : α → Sem γ} {RR : Mu → β → γ → Prop} (h : Free P s)
    (k : ∀ a, (∃ hp, s.runA P hp = some (a, hp)) → Sim P B m (f a) (f' a) RR) : Sim P B m (s >>= f) (s >>= f') RR := by
  intro hp w hr a h' he
  cases h1 : s.runA P hp with
  | none => rw [runA_bind_none h1] at he; cases he
  | some r =>
    obtain ⟨x, h2⟩ := r
    rw [runA_bind_some h1] at he
    obtain ⟨rfl, hw⟩ := h hp x h2 h1
    obtain ⟨b2, w2, m2, hrun2, hle2, hr2, hSS⟩ := k x ⟨_, h1⟩ _ w hr a h' he
    refine ⟨b2, w2, m2, ?_, hle2, hr2, hSS⟩
    rw [Sem.run_bind, hw]
    exact hrun2

/-- What a type's facts are. -/
theorem zero_of_run {t : TypeId} {z : Value} {hp : AHeap} (h : (zeroValue t).runA P hp = some (z, hp)) : ∃ i, P.info? t = some i ∧ i.zero = some z := by
  unfold zeroValue typeInfo at h
  simp only [runA_bind', Go.program, Sem.runA] at h
  cases e : P.info? t with
  | none => simp [e, Go.stuck, Sem.runA] at h
  | some i =>
    simp only [e, runA_pure] at h
    cases e2 : i.zero with
    | none => simp [e2, Go.unsupported, Sem.runA] at h
    | some v =>
      simp only [e2, runA_pure, Option.some.injEq, Prod.mk.injEq, and_true] at h
      subst h
      exact ⟨i, rfl, e2⟩

/-! ## The steps on memory -/
def AdRel (m : Mu) (a a' : Addr) : Prop := ∃ b o l, a = ⟨b, o, none⟩ ∧ m b = some l ∧ a' = ⟨l.blk, l.off + o, none⟩
theorem AdRel.mono {m m' : Mu} (hm : Mu.le m m') {a a' : Addr} (h : AdRel m a a') : AdRel m' a a' := by
  obtain ⟨b, o, l, h1, h2, h3⟩ := h
  exact ⟨b, o, l, h1, hm _ _ h2, h3⟩
theorem AdRel.add {m : Mu} {a a' : Addr} (h : AdRel m a a') (n : Nat) : AdRel m (a.add n) (a'.add n) := by
  obtain ⟨b, o, l, rfl, h2, rfl⟩ := h
  unfold Addr.add
  by_cases e : n = 0
  · rw [if_pos e, if_pos e]; exact ⟨b, o, l, rfl, h2, rfl⟩
  · rw [if_neg e, if_neg e]; exact ⟨b, o + n, l, rfl, h2, by simp [Nat.add_assoc]⟩
theorem AdRel.ptr {m : Mu} {a a' : Addr} (h : AdRel m a a') : VRel m (.pointer (some a)) (.pointer (some a')) := by
  obtain ⟨b, o, l, rfl, h2, rfl⟩ := h
  exact .ptr b o l h2

theorem Sim.load {m : Mu} {a a' : Addr} (h : AdRel m a a') : Sim P B m (Go.load a) (Go.load a') (fun m' v v' => VRel m' v v') := by
  intro hp w hr v h' he
  obtain ⟨b, o, l, rfl, hm, rfl⟩ := h
  simp only [Go.load, Sem.runA, AHeap.cell?] at he
  cases hb : hp.get b with
  | cells c t =>
    rw [hb] at he
    simp only at he
    cases hc : c.get? o with
    | none => rw [hc] at he; cases he
    | some x =>
      rw [hc] at he
      simp only [Option.some.injEq, Prod.mk.injEq] at he
      obtain ⟨rfl, rfl⟩ := he
      obtain ⟨l', hl', hp', hok⟩ := hr.obj b (by rw [hb]; intro h; cases h)
      obtain rfl : l = l' := by rw [hm] at hl'; exact Option.some.inj hl'
      rw [hb] at hok
      obtain ⟨C, fr, h1, h2, h3, h4, h5⟩ := hok
      obtain ⟨v', hv', hv⟩ := h4 o x hc
      refine ⟨v', w, m, ?_, Ext.refl _ m, hr, hv⟩
      have : w.cell? ⟨l.blk, l.off + o, Option.none⟩ = some v' := by simp [World.cell?, h1, hv']
      simp [this]
  | ro c t =>
    rw [hb] at he
    simp only at he
    cases hc : c.get? o with
    | none => rw [hc] at he; cases he
    | some x =>
      rw [hc] at he
      simp only [Option.some.injEq, Prod.mk.injEq] at he
      obtain ⟨rfl, rfl⟩ := he
      obtain ⟨l', hl', hp', hok⟩ := hr.obj b (by rw [hb]; intro h; cases h)
      obtain rfl : l = l' := by rw [hm] at hl'; exact Option.some.inj hl'
      rw [hb] at hok
      obtain ⟨C, te, fr, h1, h3, h4⟩ := hok
      obtain ⟨v', hv', hv⟩ := h4 o x hc
      refine ⟨v', w, m, ?_, Ext.refl _ m, hr, hv⟩
      have : w.cell? ⟨l.blk, l.off + o, Option.none⟩ = some v' := by simp [World.cell?, h1, hv']
      simp [this]
  | dead => rw [hb] at he; cases he
  | map => rw [hb] at he; cases he
  | iter => rw [hb] at he; cases he
  | miter => rw [hb] at he; cases he
end
end Go.Ab
namespace Go.Ab
open Go
section
variable {P : Program} {B : Base}

theorem ERel.mono {m m' : Mu} (hm : Mu.le m m') {e e' : MapEntry} (h : ERel m e e') : ERel m' e e' := ⟨h.1.mono hm, h.2.1.mono hm, h.2.2⟩

theorem OKObj.congr {m m' : Mu} (hm : Mu.le m m') {l : Loc} {w w' : World} {o : AObj} (he : w'.heap[l.blk]? = w.heap[l.blk]?) (h : OKObj P m l w o) : OKObj P m' l w' o := by
  cases o with
  | dead => trivial
  | cells c t =>
    obtain ⟨C, fr, h1, h2, h3, h4, h5⟩ := h
    exact ⟨C, fr, he.trans h1, h2, h3, fun i v hv => let ⟨v', a, b⟩ := h4 i v hv; ⟨v', a, b.mono hm⟩, h5⟩
  | map es k =>
    obtain ⟨es', h1, h2, h3, h4⟩ := h
    exact ⟨es', he.trans h1, h2, h3, fun i a b => (h4 i a b).mono hm⟩
  | iter s p => exact ⟨he.trans h.1, h.2⟩
  | miter x a b c => obtain ⟨⟨x', h1, h2⟩, h3⟩ := h; exact ⟨⟨x', he.trans h1, h2.mono hm⟩, h3⟩
  | ro c t => obtain ⟨C, te, fr, h1, h3, h4⟩ := h; exact ⟨C, te, fr, he.trans h1, h3, fun i v hv => let ⟨v', a, b⟩ := h4 i v hv; ⟨v', a, b.mono hm⟩⟩

/-- One block is turned. -/
theorem Rel.update {m : Mu} {h : AHeap} {w w' : World} (hr : Rel P B m h w) {b : Nat} {l : Loc} {o : AObj} (hb : h.get b ≠ .dead) (hl : m b = some l)
    (hos : w'.os = w.os) (htape : w'.tape = w.tape) (hout : w'.output = w.output) (hh : ∀ k, k ≠ l.blk → w'.heap[k]? = w.heap[k]?) (hok : OKObj P m l w' o) (hnr : isRo (h.get b) = false := by simp only [*, isRo]) (hno : isRo o = false := by rfl) : Rel P B m (h.put b o) w' := by
  have hp : B.prot l.blk = none := by
    obtain ⟨l', h1, h2, _⟩ := hr.obj b hb
    rw [hl] at h1; cases h1; exact protOf_none h2 hnr
  refine ⟨hos.trans hr.os, htape.trans hr.tape, hout.trans hr.output, ?_, ?_, ?_, ?_⟩
  · intro k x hx
    rw [hh k (by rintro rfl; rw [hp] at hx; cases hx)]
    exact hr.prot k x hx
  · intro b2 hb2
    rw [AHeap.get_put] at hb2 ⊢
    by_cases e : b2 = b
    · subst e
      rw [if_pos rfl] at hb2 ⊢
      exact ⟨l, hl, protOf_mk (fun q => by rw [hno] at q; cases q) (fun _ => hp), hok⟩
    · rw [if_neg e] at hb2 ⊢
      obtain ⟨l2, h1, h2, h3⟩ := hr.obj b2 hb2
      refine ⟨l2, h1, h2, h3.congr (Mu.le_refl m) (hh _ fun e2 => e (hr.sep b2 b l2 l hb2 hb hnr h1 hl e2))⟩
  · intro b1 b2 l1 l2 h1 h2 h3
    rw [AHeap.get_put] at h1 h2 h3
    have q1 : h.get b1 ≠ .dead := by by_cases e : b1 = b; (subst e; exact hb); (rw [if_neg e] at h1; exact h1)
    have q2 : h.get b2 ≠ .dead := by by_cases e : b2 = b; (subst e; exact hb); (rw [if_neg e] at h2; exact h2)
    have q3 : isRo (h.get b2) = false := by by_cases e : b2 = b; (subst e; exact hnr); (rw [if_neg e] at h3; exact h3)
    exact hr.sep b1 b2 l1 l2 q1 q2 q3
  · intro b2 hb2 hb3
    have hf := hr.fresh b2 hb2 hb3
    refine ⟨?_, hf.2⟩
    rw [AHeap.get_put, if_neg]
    · exact hf.1
    · rintro rfl; exact hb hf.1

/-- A block is struck. -/
theorem Rel.kill {m : Mu} {h : AHeap} {w : World} (hr : Rel P B m h w) (b : Nat) : Rel P B m (h.put b .dead) w := by
  refine ⟨hr.os, hr.tape, hr.output, hr.prot, ?_, ?_, ?_⟩
  · intro b2 hb2
    rw [AHeap.get_put] at hb2 ⊢
    by_cases e : b2 = b
    · rw [if_pos e] at hb2; exact absurd rfl hb2
    · rw [if_neg e] at hb2 ⊢; exact hr.obj b2 hb2
  · intro b1 b2 l1 l2 h1 h2 h3
    rw [AHeap.get_put] at h1 h2 h3
    have q1 : h.get b1 ≠ .dead := by by_cases e : b1 = b; (rw [if_pos e] at h1; exact absurd rfl h1); (rw [if_neg e] at h1; exact h1)
    have q2 : h.get b2 ≠ .dead := by by_cases e : b2 = b; (rw [if_pos e] at h2; exact absurd rfl h2); (rw [if_neg e] at h2; exact h2)
    have q3 : isRo (h.get b2) = false := by by_cases e : b2 = b; (rw [if_pos e] at h2; exact absurd rfl h2); (rw [if_neg e] at h3; exact h3)
    exact hr.sep b1 b2 l1 l2 q1 q2 q3
  · intro b2 hb2 hb3
    have hf := hr.fresh b2 hb2 hb3
    refine ⟨?_, hf.2⟩
    rw [AHeap.get_put]
    split
    · rfl
    · exact hf.1

theorem Rel.lt_size {m : Mu} {h : AHeap} {w : World} (hr : Rel P B m h w) {b : Nat} (hb : h.get b ≠ .dead) {l : Loc} (hl : m b = some l) : l.blk < w.heap.size := by
  obtain ⟨l', h1, _, h2⟩ := hr.obj b hb
  rw [hl] at h1; cases h1
  have key : ∀ x, w.heap[l.blk]? = some x → l.blk < w.heap.size := fun x hx => by
    rcases Nat.lt_or_ge l.blk w.heap.size with h | h
    · exact h
    · rw [Array.getElem?_eq_none h] at hx; cases hx
  cases hg : h.get b with
  | dead => exact absurd hg hb
  | cells c t => rw [hg] at h2; obtain ⟨C, fr, h3, _⟩ := h2; exact key _ h3
  | map es k => rw [hg] at h2; obtain ⟨es', h3, _⟩ := h2; exact key _ h3
  | iter s p => rw [hg] at h2; exact key _ h2.1
  | miter x a b c => rw [hg] at h2; obtain ⟨⟨x', h3, _⟩, _⟩ := h2; exact key _ h3
  | ro c t => rw [hg] at h2; obtain ⟨C, te, fr, h3, _⟩ := h2; exact key _ h3

def Mu.add (m : Mu) (b : Nat) (l : Loc) : Mu := fun x => if x = b then some l else m x
theorem Mu.le_add {m : Mu} {b : Nat} {l : Loc} (h : m b = none) : Mu.le m (m.add b l) := by
  intro x y hx
  unfold Mu.add
  rw [if_neg]
  · exact hx
  · rintro rfl; rw [h] at hx; cases hx
theorem Ext.add {h : AHeap} {m : Mu} {l : Loc} (hm : m h.next = none) (hlim : h.next < h.lim) : Ext h m (m.add h.next l) := by
  refine ⟨?_, fun b hb => ?_⟩
  · intro x y hx
    unfold Mu.add
    rw [if_neg]
    · exact hx
    · rintro rfl; rw [hm] at hx; cases hx
  · unfold Mu.add; rw [if_neg (by omega)]
theorem Mu.add_self (m : Mu) (b : Nat) (l : Loc) : m.add b l b = some l := if_pos rfl

/-- A new block, at a place that no live block has. -/
theorem Rel.push {m : Mu} {h : AHeap} {w w' : World} (hr : Rel P B m h w) (hlim : h.next < h.lim) {l : Loc} {o : AObj}
    (hos : w'.os = w.os) (htape : w'.tape = w.tape) (hout : w'.output = w.output) (hh : ∀ k, k < w.heap.size → k ≠ l.blk → w'.heap[k]? = w.heap[k]?)
    (hp : B.prot l.blk = none) (hsep : ∀ b l', h.get b ≠ .dead → m b = some l' → l'.blk ≠ l.blk) (hok : OKObj P (m.add h.next l) l w' o) (hno : isRo o = false := by rfl) : Rel P B (m.add h.next l) (h.push o) w' := by
  have hle : Mu.le m (m.add h.next l) := Mu.le_add (hr.fresh _ (Nat.le_refl _) hlim).2
  have old : ∀ b l', h.get b ≠ .dead → (m.add h.next l) b = some l' → b ≠ h.next ∧ m b = some l' := by
    intro b l' hb hl'
    have hne : b ≠ h.next := by rintro rfl; exact hb (hr.fresh _ (Nat.le_refl _) hlim).1
    refine ⟨hne, ?_⟩
    unfold Mu.add at hl'
    rwa [if_neg hne] at hl'
  refine ⟨hos.trans hr.os, htape.trans hr.tape, hout.trans hr.output, ?_, ?_, ?_, ?_⟩
  · intro k x hx
    have := hr.prot k x hx
    have hk : k < w.heap.size := by
      rcases Nat.lt_or_ge k w.heap.size with h | h
      · exact h
      · rw [Array.getElem?_eq_none h] at this; cases this
    rw [hh k hk (by rintro rfl; rw [hp] at hx; cases hx)]
    exact this
  · intro b2 hb2
    rw [AHeap.get_push] at hb2 ⊢
    by_cases e : b2 = h.next
    · subst e
      rw [if_pos rfl] at hb2 ⊢
      exact ⟨l, Mu.add_self _ _ _, protOf_mk (fun q => by rw [hno] at q; cases q) (fun _ => hp), hok⟩
    · rw [if_neg e] at hb2 ⊢
      obtain ⟨l2, h1, h2, h3⟩ := hr.obj b2 hb2
      exact ⟨l2, hle _ _ h1, h2, h3.congr hle (hh _ (hr.lt_size hb2 h1) (hsep b2 l2 hb2 h1))⟩
  · intro b1 b2 l1 l2 h1 h2 h3 m1 m2 e12
    rw [AHeap.get_push] at h1 h2 h3
    by_cases e1 : b1 = h.next
    · by_cases e2 : b2 = h.next
      · rw [e1, e2]
      · rw [if_neg e2] at h2
        subst e1
        rw [Mu.add_self] at m1; cases m1
        exact absurd e12.symm (hsep b2 l2 h2 (old b2 l2 h2 m2).2)
    · rw [if_neg e1] at h1
      by_cases e2 : b2 = h.next
      · subst e2
        rw [Mu.add_self] at m2; cases m2
        exact absurd e12 (hsep b1 l1 h1 (old b1 l1 h1 m1).2)
      · rw [if_neg e2] at h2 h3
        exact hr.sep b1 b2 l1 l2 h1 h2 h3 (old b1 l1 h1 m1).2 (old b2 l2 h2 m2).2 e12
  · intro b2 hb2 hb3
    have hb2' : h.next + 1 ≤ b2 := hb2
    have hf := hr.fresh b2 (by omega) hb3
    refine ⟨?_, ?_⟩
    · rw [AHeap.get_push, if_neg (by omega)]; exact hf.1
    · unfold Mu.add; rw [if_neg (by omega)]; exact hf.2

/-- What the base keeps is looked at, too. -/
theorem Rel.pushRo {m : Mu} {h : AHeap} {w : World} (hr : Rel P B m h w) (hlim : h.next < h.lim) {l : Loc} {c : Row} {t : TypeId} (hp : B.prot l.blk ≠ none) (hok : OKObj P (m.add h.next l) l w (.ro c t)) :
    Rel P B (m.add h.next l) (h.push (.ro c t)) w := by
  have hle : Mu.le m (m.add h.next l) := Mu.le_add (hr.fresh _ (Nat.le_refl _) hlim).2
  have old : ∀ b l', h.get b ≠ .dead → (m.add h.next l) b = some l' → b ≠ h.next ∧ m b = some l' := by
    intro b l' hb hl'
    have hne : b ≠ h.next := by rintro rfl; exact hb (hr.fresh _ (Nat.le_refl _) hlim).1
    refine ⟨hne, ?_⟩
    unfold Mu.add at hl'
    rwa [if_neg hne] at hl'
  refine ⟨hr.os, hr.tape, hr.output, hr.prot, ?_, ?_, ?_⟩
  · intro b2 hb2
    rw [AHeap.get_push] at hb2 ⊢
    by_cases e : b2 = h.next
    · subst e
      rw [if_pos rfl] at hb2 ⊢
      exact ⟨l, Mu.add_self _ _ _, hp, hok⟩
    · rw [if_neg e] at hb2 ⊢
      obtain ⟨l2, h1, h2, h3⟩ := hr.obj b2 hb2
      exact ⟨l2, hle _ _ h1, h2, h3.congr hle rfl⟩
  · intro b1 b2 l1 l2 h1 h2 h3 m1 m2 e12
    rw [AHeap.get_push] at h1 h2 h3
    by_cases e2 : b2 = h.next
    · rw [if_pos e2] at h3; cases h3
    · rw [if_neg e2] at h2 h3
      have q2 := (old b2 l2 h2 m2).2
      by_cases e1 : b1 = h.next
      · subst e1
        rw [Mu.add_self] at m1; cases m1
        obtain ⟨l3, g1, g2, _⟩ := hr.obj b2 h2
        rw [q2] at g1; cases g1
        rw [e12] at hp
        exact absurd (protOf_none g2 h3) hp
      · rw [if_neg e1] at h1
        exact hr.sep b1 b2 l1 l2 h1 h2 h3 (old b1 l1 h1 m1).2 q2 e12
  · intro b2 hb2 hb3
    have hb2' : h.next + 1 ≤ b2 := hb2
    have hf := hr.fresh b2 (by omega) hb3
    refine ⟨?_, ?_⟩
    · rw [AHeap.get_push, if_neg (by omega)]; exact hf.1
    · unfold Mu.add; rw [if_neg (by omega)]; exact hf.2

theorem heap_push_other (w : World) (o : Obj) (k : Nat) (h : k < w.heap.size) : ({ w with heap := w.heap.push o } : World).heap[k]? = w.heap[k]? := by
  show (w.heap.push o)[k]? = _
  rw [Array.getElem?_push, if_neg (by omega)]
theorem heap_push_self (w : World) (o : Obj) : ({ w with heap := w.heap.push o } : World).heap[w.heap.size]? = some o := by
  show (w.heap.push o)[w.heap.size]? = _
  simp

/-- A new block at the heap's end. -/
theorem Rel.alloc {m : Mu} {h : AHeap} {w : World} (hr : Rel P B m h w) (hlim : h.next < h.lim) (cap : Nat) (o : AObj) (o' : Obj)
    (hok : OKObj P (m.add h.next ⟨w.heap.size, 0, cap⟩) ⟨w.heap.size, 0, cap⟩ { w with heap := w.heap.push o' } o) (hno : isRo o = false := by rfl) :
    Rel P B (m.add h.next ⟨w.heap.size, 0, cap⟩) (h.push o) { w with heap := w.heap.push o' } := by
  refine Rel.push (w := w) (w' := { w with heap := w.heap.push o' }) hr hlim rfl rfl rfl (fun k hk _ => heap_push_other w o' k hk) ?_ (fun b l' hb hl' => Nat.ne_of_lt (hr.lt_size hb hl')) hok hno
  cases hp : B.prot w.heap.size with
  | none => rfl
  | some x => have := hr.prot _ _ hp; simp at this

/-! ## Store, new, maps -/
theorem heap_setCell (w : World) (a : Addr) (u : Value) (k : Nat) (h : k ≠ a.block) : (w.setCell a u).heap[k]? = w.heap[k]? := by
  simp only [World.setCell, Array.getElem?_modify]
  rw [if_neg (by omega)]
theorem heap_setCell_self (w : World) (k o : Nat) (u : Value) (C : Array Value) (t : TypeId) (fr : Nat × Nat) (h : w.heap[k]? = some (.cells C t fr)) :
    (w.setCell ⟨k, o, none⟩ u).heap[k]? = some (.cells (C.setIfInBounds o u) t fr) := by
  simp only [World.setCell, Array.getElem?_modify, if_pos, h]
  rfl

theorem VRel.cell {m : Mu} {v v' : Value} (h : VRel m v v') (h1 : ∀ c, v ≠ .agg c) (h2 : ∀ c, v ≠ .tuple c) : (∀ c, v' ≠ .agg c) ∧ (∀ c, v' ≠ .tuple c) := by
  cases h <;> first
    | exact absurd rfl (h1 _)
    | exact absurd rfl (h2 _)
    | exact ⟨‹∀ c, _ ≠ Value.agg c›, ‹∀ c, _ ≠ Value.tuple c›⟩
    | exact ⟨(fun c h => (by cases h)), (fun c h => (by cases h))⟩

theorem run_store_ok (w : World) (a : Addr) (v old : Value) (h1 : ∀ c, v ≠ .agg c) (h2 : ∀ c, v ≠ .tuple c) (hc : w.cell? a = some old) (hf : w.frozen? a = false) :
    (Go.store a v).run P w = .ok () (w.setCell a v) := by
  unfold Go.store
  cases v <;> first
    | exact absurd rfl (h1 _)
    | exact absurd rfl (h2 _)
    | simp [Sem.run, hc, hf]

theorem runA_store {a : Addr} {v : Value} {hp h' : AHeap} {r : Unit} (h : (Go.store a v).runA P hp = some (r, h')) :
    (∀ c, v ≠ .agg c) ∧ (∀ c, v ≠ .tuple c) ∧ hp.setCell a v = some h' := by
  unfold Go.store at h
  cases v <;> simp only [Sem.runA] at h <;> first
    | cases h
    | (refine ⟨fun c h => (by cases h), fun c h => (by cases h), ?_⟩
       split at h
       · rename_i x hx
         simp only [Option.some.injEq, Prod.mk.injEq, true_and] at h
         rw [hx, h]
       · cases h)

theorem Sim.store {m : Mu} {a a' : Addr} {v v' : Value} (h : AdRel m a a') (hv : VRel m v v') : Sim P B m (Go.store a v) (Go.store a' v') (fun _ _ _ => True) := by
  intro hp w hr r h' he
  obtain ⟨q1, q2, he⟩ := runA_store he
  obtain ⟨b, o, l, rfl, hm, rfl⟩ := h
  simp only [AHeap.setCell] at he
  cases hb : hp.get b with
  | cells c t =>
    rw [hb] at he
    simp only at he
    by_cases ho : o < c.len
    · rw [show Nat.blt o c.len = true by simpa using ho] at he
      obtain rfl := Option.some.inj he
      obtain ⟨l', hl', hp', hok⟩ := hr.obj b (by rw [hb]; intro h; cases h)
      obtain rfl : l = l' := by rw [hm] at hl'; exact Option.some.inj hl'
      rw [hb] at hok
      obtain ⟨C, fr, h1, h2, h3, h4, h5⟩ := hok
      obtain ⟨p1, p2⟩ := hv.cell q1 q2
      obtain ⟨old0, hold0⟩ := Row.get?_lt ho
      obtain ⟨old, hold, _⟩ := h4 o old0 hold0
      have hcell : w.cell? ⟨l.blk, l.off + o, Option.none⟩ = some old := by simp [World.cell?, h1, hold]
      have hfr : w.frozen? ⟨l.blk, l.off + o, Option.none⟩ = false := by
        have := h2 (l.off + o) (by omega)
        simp only [World.frozen?, h1]
        simp; omega
      refine ⟨(), w.setCell ⟨l.blk, l.off + o, Option.none⟩ v', m, run_store_ok w _ _ old p1 p2 hcell hfr, Ext.refl _ m, ?_, trivial⟩
      refine hr.update (by rw [hb]; intro h; cases h) hm rfl rfl rfl (fun k hk => heap_setCell _ _ _ _ hk) ?_
      refine ⟨C.setIfInBounds (l.off + o) v', fr, heap_setCell_self w l.blk (l.off + o) v' C t fr h1, ?_, ?_, ?_, ?_⟩
      · simpa using h2
      · simpa [Row.set] using h3
      · intro i x hx
        rw [Row.get?_set] at hx
        by_cases e : o = i
        · subst e
          rw [if_pos rfl, if_pos ho] at hx
          obtain rfl := Option.some.inj hx
          exact ⟨v', by rw [Array.getElem?_setIfInBounds]; simp; omega, hv⟩
        · rw [if_neg e] at hx
          obtain ⟨y, hy, hxy⟩ := h4 i x hx
          exact ⟨y, by rw [Array.getElem?_setIfInBounds, if_neg (by omega)]; exact hy, hxy⟩
      · simpa using h5
    · rw [show Nat.blt o c.len = false by cases hq : Nat.blt o c.len with | false => rfl | true => exact absurd (by simpa using hq) ho] at he; cases he
  | dead => rw [hb] at he; cases he
  | map => rw [hb] at he; cases he
  | iter => rw [hb] at he; cases he
  | miter => rw [hb] at he; cases he
  | ro => rw [hb] at he; cases he

theorem Sim.newCells {m : Mu} {c c' : Array Value} {t : TypeId} (h : ARel m c c') :
    Sim P B m (newObj (.cells c t)) (newObj (.cells c' t)) (fun m' r r' => ∃ l, m' r = some l ∧ l.blk = r' ∧ l.off = 0) := by
  intro hp w hr r h' he
  simp only [newObj, Sem.runA] at he
  split at he
  case h_2 => cases he
  rename_i hlim
  simp only [Nat.blt_eq] at hlim
  simp only [Option.some.injEq, Prod.mk.injEq] at he
  obtain ⟨rfl, rfl⟩ := he
  let cap := min (c.size / ((P.info? t).map (·.size)).getD 1) HALF
  have hle : Mu.le m (m.add hp.next ⟨w.heap.size, 0, cap⟩) := Mu.le_add (hr.fresh _ (Nat.le_refl _) hlim).2
  refine ⟨w.heap.size, { w with heap := w.heap.push (.cells c' t) }, m.add hp.next ⟨w.heap.size, 0, cap⟩, by simp [newObj, Sem.run], Ext.add (hr.fresh _ (Nat.le_refl _) hlim).2 hlim, ?_, ⟨_, Mu.add_self _ _ _, rfl, rfl⟩⟩
  refine hr.alloc hlim cap _ _ ⟨c', (0, 0), heap_push_self w _, ?_, ?_, ?_, ?_⟩
  · intro i _ h; omega
  · simp [Row.ofList_len, h.1]
  · intro i v hv
    rw [Row.ofList_get?] at hv
    have hi : i < c.size := by
      rcases Nat.lt_or_ge i c.size with x | x
      · exact x
      · rw [List.getElem?_eq_none (by simpa using x)] at hv; cases hv
    have hi' : i < c'.size := by rw [← h.1]; exact hi
    refine ⟨c'[i], by simp [hi'], ?_⟩
    have hv2 : v = c[i] := by simpa [hi] using hv.symm
    rw [hv2]
    exact (h.2 i hi hi').mono hle
  · intro s hs
    simp only [Nat.zero_add, Nat.zero_mod]
    refine ⟨?_, trivial, Nat.min_le_right _ _, fun _ q => by simp at q⟩
    show cap * s ≤ c'.size
    have : cap ≤ c.size / s := by simp [cap, hs]; exact Nat.min_le_left _ _
    rw [← h.1]
    exact Nat.le_trans (Nat.mul_le_mul_right _ this) (Nat.div_mul_le_self _ _)

theorem Sim.newMap {m : Mu} {k : Nat} : Sim P B m (newObj (.map #[] k)) (newObj (.map #[] k)) (fun m' r r' => VRel m' (.map (some r)) (.map (some r'))) := by
  intro hp w hr r h' he
  simp only [newObj, Sem.runA] at he
  split at he
  case h_2 => cases he
  rename_i hlim
  simp only [Nat.blt_eq] at hlim
  simp only [Option.some.injEq, Prod.mk.injEq] at he
  obtain ⟨rfl, rfl⟩ := he
  have hle : Mu.le m (m.add hp.next ⟨w.heap.size, 0, 0⟩) := Mu.le_add (hr.fresh _ (Nat.le_refl _) hlim).2
  refine ⟨w.heap.size, { w with heap := w.heap.push (.map #[] k) }, m.add hp.next ⟨w.heap.size, 0, 0⟩, by simp [newObj, Sem.run], Ext.add (hr.fresh _ (Nat.le_refl _) hlim).2 hlim, ?_, .map _ ⟨w.heap.size, 0, 0⟩ (Mu.add_self _ _ _)⟩
  exact hr.alloc hlim 0 _ _ ⟨#[], heap_push_self w _, rfl, rfl, fun i h => by simp at h⟩

theorem Sim.newIter {m : Mu} {s : ByteArray} {p : Nat} : Sim P B m (newObj (.stringIter s p)) (newObj (.stringIter s p)) (fun m' r r' => ∃ l, m' r = some l ∧ l.blk = r' ∧ l.off = 0) := by
  intro hp w hr r h' he
  simp only [newObj, Sem.runA] at he
  split at he
  case h_2 => cases he
  rename_i hlim
  simp only [Nat.blt_eq] at hlim
  simp only [Option.some.injEq, Prod.mk.injEq] at he
  obtain ⟨rfl, rfl⟩ := he
  have hle : Mu.le m (m.add hp.next ⟨w.heap.size, 0, 0⟩) := Mu.le_add (hr.fresh _ (Nat.le_refl _) hlim).2
  refine ⟨w.heap.size, { w with heap := w.heap.push (.stringIter s p) }, m.add hp.next ⟨w.heap.size, 0, 0⟩, by simp [newObj, Sem.run], Ext.add (hr.fresh _ (Nat.le_refl _) hlim).2 hlim, ?_, ⟨_, Mu.add_self _ _ _, rfl, rfl⟩⟩
  exact hr.alloc hlim 0 _ _ ⟨heap_push_self w _, rfl⟩

/-- Objects that are no cells. -/
def ORel (m : Mu) : Obj → Obj → Prop
  | .map es k, o' => ∃ es', o' = .map es' k ∧ es.size = es'.size ∧ ∀ i (h : i < es.size) (h' : i < es'.size), ERel m es[i] es'[i]
  | .stringIter s p, o' => o' = .stringIter s p
  | _, _ => False

theorem Sim.getObj {m : Mu} {b : Nat} {l : Loc} (hm : m b = some l) : Sim P B m (Go.getObj b) (Go.getObj l.blk) (fun m' o o' => ORel m' o o') := by
  intro hp w hr r h' he
  simp only [Go.getObj, Sem.runA] at he
  cases hb : hp.get b with
  | cells c t => rw [hb] at he; cases he
  | dead => rw [hb] at he; cases he
  | miter => rw [hb] at he; cases he
  | ro => rw [hb] at he; cases he
  | map es k =>
    rw [hb] at he
    simp only [Option.some.injEq, Prod.mk.injEq] at he
    obtain ⟨rfl, rfl⟩ := he
    obtain ⟨l', hl', hp', hok⟩ := hr.obj b (by rw [hb]; intro h; cases h)
    obtain rfl : l = l' := by rw [hm] at hl'; exact Option.some.inj hl'
    rw [hb] at hok
    obtain ⟨es', h1, h2, h3, h4⟩ := hok
    exact ⟨.map es' k, w, m, by simp [Go.getObj, Sem.run, h1], Ext.refl _ m, hr, ⟨es', rfl, h3, h4⟩⟩
  | iter s p =>
    rw [hb] at he
    simp only [Option.some.injEq, Prod.mk.injEq] at he
    obtain ⟨rfl, rfl⟩ := he
    obtain ⟨l', hl', hp', hok⟩ := hr.obj b (by rw [hb]; intro h; cases h)
    obtain rfl : l = l' := by rw [hm] at hl'; exact Option.some.inj hl'
    rw [hb] at hok
    exact ⟨.stringIter s p, w, m, by simp [Go.getObj, Sem.run, hok.1], Ext.refl _ m, hr, rfl⟩

theorem heap_set_other (w : World) (r k : Nat) (o : Obj) (h : k ≠ r) : ({ w with heap := w.heap.setIfInBounds r o } : World).heap[k]? = w.heap[k]? := by
  show (w.heap.setIfInBounds r o)[k]? = _
  rw [Array.getElem?_setIfInBounds, if_neg (by omega)]
theorem heap_set_self (w : World) (r : Nat) (o o0 : Obj) (h : w.heap[r]? = some o0) : ({ w with heap := w.heap.setIfInBounds r o } : World).heap[r]? = some o := by
  show (w.heap.setIfInBounds r o)[r]? = _
  have : r < w.heap.size := by
    rcases Nat.lt_or_ge r w.heap.size with x | x
    · exact x
    · rw [Array.getElem?_eq_none x] at h; cases h
  rw [Array.getElem?_setIfInBounds]; simp [this]

theorem Sim.setObj {m : Mu} {b : Nat} {l : Loc} (hm : m b = some l) {o o' : Obj} (ho : ORel m o o') : Sim P B m (Go.setObj b o) (Go.setObj l.blk o') (fun _ _ _ => True) := by
  intro hp w hr r h' he
  cases o with
  | map es k =>
    obtain ⟨es', rfl, h3, h4⟩ := ho
    simp only [Go.setObj, Sem.runA] at he
    cases hb : hp.get b with
    | cells c t => rw [hb] at he; cases he
    | dead => rw [hb] at he; cases he
    | iter s p => rw [hb] at he; cases he
    | miter => rw [hb] at he; cases he
    | ro => rw [hb] at he; cases he
    | map es0 k0 =>
      rw [hb] at he
      simp only [Option.some.injEq, Prod.mk.injEq] at he
      obtain ⟨_, rfl⟩ := he
      obtain ⟨l', hl', hp', hok⟩ := hr.obj b (by rw [hb]; intro h; cases h)
      obtain rfl : l = l' := by rw [hm] at hl'; exact Option.some.inj hl'
      rw [hb] at hok
      obtain ⟨es0', h1, h2, _, _⟩ := hok
      refine ⟨(), { w with heap := w.heap.setIfInBounds l.blk (.map es' k) }, m, by simp [Go.setObj, Sem.run, h1], Ext.refl _ m, ?_, trivial⟩
      refine Rel.update (w := w) (w' := { w with heap := w.heap.setIfInBounds l.blk (.map es' k) }) hr (by rw [hb]; intro h; cases h) hm rfl rfl rfl (fun k hk => heap_set_other w _ _ _ hk) ?_
      exact ⟨es', heap_set_self w _ _ _ h1, h2, h3, h4⟩
  | stringIter s p =>
    obtain rfl := ho
    simp only [Go.setObj, Sem.runA] at he
    cases hb : hp.get b with
    | cells c t => rw [hb] at he; cases he
    | dead => rw [hb] at he; cases he
    | map es0 k0 => rw [hb] at he; cases he
    | miter => rw [hb] at he; cases he
    | ro => rw [hb] at he; cases he
    | iter s0 p0 =>
      rw [hb] at he
      simp only [Option.some.injEq, Prod.mk.injEq] at he
      obtain ⟨_, rfl⟩ := he
      obtain ⟨l', hl', hp', hok⟩ := hr.obj b (by rw [hb]; intro h; cases h)
      obtain rfl : l = l' := by rw [hm] at hl'; exact Option.some.inj hl'
      rw [hb] at hok
      refine ⟨(), { w with heap := w.heap.setIfInBounds l.blk (.stringIter s p) }, m, by simp [Go.setObj, Sem.run, hok.1], Ext.refl _ m, ?_, trivial⟩
      refine Rel.update (w := w) (w' := { w with heap := w.heap.setIfInBounds l.blk (.stringIter s p) }) hr (by rw [hb]; intro h; cases h) hm rfl rfl rfl (fun k hk => heap_set_other w _ _ _ hk) ?_
      exact ⟨heap_set_self w _ _ _ hok.1, hok.2⟩
  | _ => exact ho.elim
end
end Go.Ab
namespace Go.Ab
open Go
section
variable {P : Program} {B : Base}

/-! ## Rows -/
theorem ARel.of_flat {m : Mu} {c : Array Value} {n : Nat} (h : c.toList.all (vflat n) = true) : ARel m c c :=
  ⟨rfl, fun i h1 _ => vflat_rel m n _ (List.all_eq_true.1 h _ (by simp))⟩
theorem ARel.empty {m : Mu} : ARel m #[] #[] := ⟨rfl, fun i h => by simp at h⟩
theorem ARel.single {m : Mu} {v v' : Value} (h : VRel m v v') : ARel m #[v] #[v'] :=
  ⟨rfl, fun i h1 h2 => by
    have : i = 0 := by simp at h1; omega
    subst this
    exact h⟩
theorem ARel.get? {m : Mu} {c c' : Array Value} (h : ARel m c c') {i : Nat} {v : Value} (hv : c[i]? = some v) : ∃ v', c'[i]? = some v' ∧ VRel m v v' := by
  have hi : i < c.size := by
    rcases Nat.lt_or_ge i c.size with x | x
    · exact x
    · rw [Array.getElem?_eq_none x] at hv; cases hv
  have hi' : i < c'.size := by rw [← h.1]; exact hi
  have e : v = c[i] := by rw [Array.getElem?_eq_getElem hi] at hv; exact (Option.some.inj hv).symm
  exact ⟨c'[i], Array.getElem?_eq_getElem hi', by rw [e]; exact h.2 i hi hi'⟩
theorem ARel.of_get? {m : Mu} {c c' : Array Value} (hs : c.size = c'.size) (h : ∀ (i : Nat) (v v' : Value), c[i]? = some v → c'[i]? = some v' → VRel m v v') : ARel m c c' :=
  ⟨hs, fun i h1 h2 => h i _ _ (Array.getElem?_eq_getElem h1) (Array.getElem?_eq_getElem h2)⟩
theorem ARel.push {m : Mu} {c c' : Array Value} {v v' : Value} (h : ARel m c c') (hv : VRel m v v') : ARel m (c.push v) (c'.push v') := by
  refine ARel.of_get? (by simp [h.1]) fun i x x' h1 h2 => ?_
  rw [Array.getElem?_push] at h1 h2
  by_cases e : i = c.size
  · rw [if_pos e] at h1
    rw [if_pos (by rw [← h.1]; exact e)] at h2
    cases h1; cases h2; exact hv
  · rw [if_neg e] at h1
    rw [if_neg (by rw [← h.1]; exact e)] at h2
    obtain ⟨y, hy, hxy⟩ := h.get? h1
    rw [h2] at hy; cases hy; exact hxy
theorem ARel.append {m : Mu} {c c' d d' : Array Value} (h : ARel m c c') (hd : ARel m d d') : ARel m (c ++ d) (c' ++ d') := by
  refine ARel.of_get? (by simp [h.1, hd.1]) fun i x x' h1 h2 => ?_
  rw [Array.getElem?_append] at h1 h2
  by_cases e : i < c.size
  · rw [if_pos e] at h1
    rw [if_pos (by have := h.1; omega)] at h2
    obtain ⟨y, hy, hxy⟩ := h.get? h1
    rw [h2] at hy; cases hy; exact hxy
  · rw [if_neg e] at h1
    rw [if_neg (by have := h.1; omega), ← h.1] at h2
    obtain ⟨y, hy, hxy⟩ := hd.get? h1
    rw [h2] at hy; cases hy; exact hxy
theorem ARel.extract {m : Mu} {c c' : Array Value} (h : ARel m c c') (a b : Nat) : ARel m (c.extract a b) (c'.extract a b) := by
  refine ARel.of_get? (by simp [h.1]) fun i x x' h1 h2 => ?_
  rw [Array.getElem?_extract] at h1 h2
  by_cases e : i < min b c.size - a
  · rw [if_pos e] at h1
    rw [if_pos (by have := h.1; omega)] at h2
    obtain ⟨y, hy, hxy⟩ := h.get? h1
    rw [h2] at hy; cases hy; exact hxy
  · rw [if_neg e] at h1; cases h1
theorem ARel.map {m : Mu} {α : Type} {xs : Array α} {f f' : α → Value} (h : ∀ x ∈ xs.toList, VRel m (f x) (f' x)) : ARel m (xs.map f) (xs.map f') :=
  ⟨by simp, fun i h1 h2 => by
    simp only [Array.getElem_map]
    exact h _ (by simp)⟩
theorem ARel.set {m : Mu} {c c' : Array Value} {v v' : Value} (h : ARel m c c') (i : Nat) (hv : VRel m v v') : ARel m (c.setIfInBounds i v) (c'.setIfInBounds i v') := by
  refine ARel.of_get? (by simp [h.1]) fun j x x' h1 h2 => ?_
  rw [Array.getElem?_setIfInBounds] at h1 h2
  by_cases e : i = j
  · rw [if_pos e] at h1 h2
    by_cases e2 : i < c.size
    · rw [if_pos (by omega)] at h1
      rw [if_pos (by have := h.1; omega)] at h2
      cases h1; cases h2; exact hv
    · rw [if_neg (by omega)] at h1; cases h1
  · rw [if_neg e] at h1 h2
    obtain ⟨y, hy, hxy⟩ := h.get? h1
    rw [h2] at hy; cases hy; exact hxy
theorem VRel.cells {m : Mu} {v v' : Value} (h : VRel m v v') : ARel m v.cells v'.cells := by
  have hh := h
  have cells_of : ∀ v : Value, (∀ c, v ≠ .agg c) → v.cells = #[v] := by
    intro v hv
    cases v <;> first | rfl | exact absurd rfl (hv _)
  cases h <;> first
    | exact ARel.single hh
    | (rename_i h1 h2; exact ⟨h1, h2⟩)
    | (rename_i h1 h2; rw [cells_of _ h1]; exact ARel.single hh)
theorem VRel.agg' {m : Mu} {c c' : Array Value} (h : ARel m c c') : VRel m (.agg c) (.agg c') := .agg _ _ h.1 h.2

/-! ## Reading values -/
theorem Sim.asBool {m : Mu} {v v' : Value} (h : VRel m v v') : Sim P B m (Go.asBool v) (Go.asBool v') (fun _ a b => a = b) := by
  cases h <;> first | exact Sim.pure rfl | exact Sim.halt
theorem Sim.asIntOf {m : Mu} {v v' : Value} (h : VRel m v v') : Sim P B m (Go.asIntOf v) (Go.asIntOf v') (fun _ a b => a = b) := by
  cases h <;> first | exact Sim.pure rfl | exact Sim.halt
theorem Sim.asInt {m : Mu} {v v' : Value} (h : VRel m v v') : Sim P B m (Go.asInt v) (Go.asInt v') (fun _ a b => a = b) := by
  unfold Go.asInt
  exact (Sim.asIntOf h).bind fun m' _ a b e => Sim.pure (by rw [e])
theorem Sim.sureAddr {m : Mu} {v v' : Value} (h : VRel m v v') : Sim P B m (Instr.sureAddr v) (Instr.sureAddr v') AdRel := by
  cases h <;> first | exact Sim.halt | (rename_i b o l hm; exact Sim.pure ⟨b, o, l, rfl, hm, rfl⟩)
theorem Sim.asAgg {m : Mu} {v v' : Value} (h : VRel m v v') : Sim P B m (Go.asAgg v) (Go.asAgg v') ARel := by
  cases h <;> first | exact Sim.halt | (rename_i h1 h2; exact Sim.pure ⟨h1, h2⟩)

/-! ## Cells -/
theorem Sim.loadCellsFrom {m : Mu} {a a' : Addr} (h : AdRel m a a') : ∀ (n i : Nat) (acc acc' : Array Value), ARel m acc acc' →
    Sim P B m (Go.loadCellsFrom a i n acc) (Go.loadCellsFrom a' i n acc') ARel := by
  intro n
  induction n generalizing m with
  | zero => intro i acc acc' ha; exact Sim.pure ha
  | succ n ih =>
    intro i acc acc' ha
    unfold Go.loadCellsFrom
    exact (Sim.load (h.add i)).bind fun m' hm v v' hv => ih (h.mono hm) _ _ _ ((ha.mono hm).push hv)
theorem Sim.loadCells {m : Mu} {a a' : Addr} (h : AdRel m a a') (n : Nat) : Sim P B m (Go.loadCells a n) (Go.loadCells a' n) ARel :=
  Sim.loadCellsFrom h n 0 _ _ ARel.empty

theorem Sim.storeCells {m : Mu} {a a' : Addr} (h : AdRel m a a') : ∀ (vs vs' : List Value) (i : Nat), ARel m vs.toArray vs'.toArray →
    Sim P B m (Go.storeCells a vs i) (Go.storeCells a' vs' i) (fun _ _ _ => True) := by
  intro vs
  induction vs generalizing m with
  | nil =>
    intro vs' i hv
    have : vs' = [] := by
      have := hv.1
      cases vs' with
      | nil => rfl
      | cons x xs => simp at this
    subst this
    exact Sim.pure trivial
  | cons v vs ih =>
    intro vs' i hv
    cases vs' with
    | nil => have := hv.1; simp at this
    | cons v' vs' =>
      have h0 : VRel m v v' := hv.2 0 (by simp) (by simp)
      have h1 : ARel m vs.toArray vs'.toArray := by
        refine ⟨by have := hv.1; simpa using this, fun j a b => ?_⟩
        have := hv.2 (j + 1) (by simpa using a) (by simpa using b)
        simpa using this
      unfold Go.storeCells
      exact (Sim.store (h.add i) h0).bind fun m' hm _ _ _ => ih (h.mono hm) _ _ (h1.mono hm)

theorem Sim.loadVar {m : Mu} {a a' : Addr} (h : AdRel m a a') (t : TypeId) : Sim P B m (Go.loadVar t a) (Go.loadVar t a') (fun m' v v' => VRel m' v v') := by
  unfold Go.loadVar
  refine Sim.free (Free.isAgg t) fun b _ => ?_
  by_cases e : b = true
  · rw [if_pos e, if_pos e]
    refine Sim.free (Free.sizeOf t) fun s _ => ?_
    exact (Sim.loadCells h s).bind fun m' hm c c' hc => Sim.pure (VRel.agg' hc)
  · rw [if_neg e, if_neg e]
    exact Sim.load h

theorem Sim.storeVar {m : Mu} {a a' : Addr} {v v' : Value} (h : AdRel m a a') (hv : VRel m v v') (t : TypeId) :
    Sim P B m (Go.storeVar t a v) (Go.storeVar t a' v') (fun _ _ _ => True) := by
  unfold Go.storeVar
  refine Sim.free (Free.sizeOf t) fun s _ => ?_
  have hc := hv.cells
  by_cases e : v.cells.size ≠ s
  · rw [if_pos e]; exact Sim.bind_stuck fun _ => rfl
  · rw [if_neg e, if_neg (by rw [← hc.1]; exact e)]
    exact Sim.storeCells h _ _ 0 (by simpa using hc)

theorem Sim.part {m : Mu} {c c' : Array Value} (h : ARel m c c') (t : TypeId) (off : Nat) : Sim P B m (Go.part t c off) (Go.part t c' off) (fun m' v v' => VRel m' v v') := by
  unfold Go.part
  refine Sim.free (Free.isAgg t) fun b _ => ?_
  by_cases e : b = true
  · rw [if_pos e, if_pos e]
    exact Sim.free (Free.sizeOf t) fun s _ => Sim.pure (VRel.agg' (h.extract _ _))
  · rw [if_neg e, if_neg e]
    cases hx : c[off]? with
    | none => exact Sim.halt
    | some v =>
      obtain ⟨v', hv', hv⟩ := h.get? hx
      rw [hv']
      exact Sim.pure hv

theorem Sim.newRow {m : Mu} {c c' : Array Value} (h : ARel m c c') (t : TypeId) : Sim P B m (Go.newRow t c) (Go.newRow t c') AdRel := by
  unfold Go.newRow
  refine (Sim.newCells h).bind fun m' hm r r' hr => ?_
  obtain ⟨l, h1, h2, h3⟩ := hr
  exact Sim.pure ⟨r, 0, l, rfl, h1, by simp [h2, h3]⟩
theorem Sim.newVar {m : Mu} {v v' : Value} (h : VRel m v v') (t : TypeId) : Sim P B m (Go.newVar t v) (Go.newVar t v') AdRel := Sim.newRow h.cells t

/-- The program's zero values hold no address. -/
def ZF (P : Program) : Prop := ∀ t i z, P.info? t = some i → i.zero = some z → vflat 8 z = true
theorem Sim.zero {m : Mu} {β γ : Type} {t : TypeId} {f : Value → Sem β} {f' : Value → Sem γ} {RR : Mu → β → γ → Prop} (hz : ZF P)
    (k : ∀ z, vflat 8 z = true → Sim P B m (f z) (f' z) RR) : Sim P B m (Go.zeroValue t >>= f) (Go.zeroValue t >>= f') RR :=
  Sim.free (Free.zeroValue t) fun z ⟨hp, h⟩ => by
    obtain ⟨i, h1, h2⟩ := zero_of_run h
    exact k z (hz t i z h1 h2)

/-! ## Instructions -/
theorem Sim.alloc {m : Mu} (hz : ZF P) (t : TypeId) : Sim P B m (Instr.alloc t true (.tuple #[])) (Instr.alloc t true (.tuple #[])) (fun m' v v' => VRel m' v v') := by
  unfold Instr.alloc
  refine Sim.zero hz fun z hzf => ?_
  exact (Sim.newVar (vflat_rel m 8 z hzf) t).bind fun m' hm a a' ha => Sim.pure ha.ptr
theorem Sim.box {m : Mu} {v v' : Value} (h : VRel m v v') (t : TypeId) : Sim P B m (Instr.box t v) (Instr.box t v') (fun m' v v' => VRel m' v v') := by
  unfold Instr.box
  exact (Sim.newVar h t).bind fun m' hm a a' ha => Sim.pure ha.ptr
theorem Sim.loadAt {m : Mu} {v v' : Value} (h : VRel m v v') (t : TypeId) : Sim P B m (Instr.loadAt t v) (Instr.loadAt t v') (fun m' v v' => VRel m' v v') := by
  unfold Instr.loadAt
  exact (Sim.sureAddr h).bind fun m' hm a a' ha => Sim.loadVar ha t
theorem Sim.storeAt {m : Mu} {v v' x x' : Value} (h : VRel m v v') (hx : VRel m x x') (t : TypeId) : Sim P B m (Instr.storeAt t v x) (Instr.storeAt t v' x') (fun _ _ _ => True) := by
  unfold Instr.storeAt
  exact (Sim.sureAddr h).bind fun m' hm a a' ha => Sim.storeVar ha (hx.mono hm) t
theorem partAt_runA (a : Addr) (c b : Nat) (hp : AHeap) (ha : a.spot = none) : (partAt a c b).runA P hp = none := by
  unfold partAt byteOf
  obtain ⟨blk, off, spot⟩ := a
  obtain rfl : spot = none := ha
  refine runA_bind_none ?_
  simp only [Go.program]
  rfl
theorem Sim.fieldAt {m : Mu} {v v' : Value} (h : VRel m v v') (s : TypeId) (f : Nat) : Sim P B m (Instr.fieldAt s v f) (Instr.fieldAt s v' f) (fun m' v v' => VRel m' v v') := by
  unfold Instr.fieldAt
  refine Sim.free (Free.underlying s) fun d _ => ?_
  cases d <;> try exact Sim.halt
  rename_i fields _
  dsimp only
  cases fields[f]? with
  | none => exact Sim.halt
  | some fl =>
    refine (Sim.sureAddr h).bind fun m' hm a a' ha => ?_
    refine Sim.bind (RR := AdRel) ?_ fun m2 hm2 b b' hb => Sim.pure hb.ptr
    unfold fieldPlace
    refine Sim.free (Free.sizeOf fl.type) fun n _ => ?_
    by_cases e : n = 0
    · rw [if_pos e]
      refine Sim.of_none fun hp => partAt_runA a _ _ hp ?_
      obtain ⟨b, o, l, rfl, _⟩ := ha; rfl
    · rw [if_neg e, if_neg e]
      exact Sim.pure (ha.add _)
theorem Sim.field {m : Mu} {v v' : Value} (h : VRel m v v') (s : TypeId) (f : Nat) : Sim P B m (Instr.field s v f) (Instr.field s v' f) (fun m' v v' => VRel m' v v') := by
  unfold Instr.field
  refine Sim.free (Free.underlying s) fun d _ => ?_
  cases d <;> try exact Sim.halt
  rename_i fields _
  dsimp only
  cases fields[f]? with
  | none => exact Sim.halt
  | some fl => exact (Sim.asAgg h).bind fun m' hm a a' ha => Sim.part ha _ _
theorem Sim.extract {m : Mu} {v v' : Value} (h : VRel m v v') (i : Nat) : Sim P B m (Instr.extract v i) (Instr.extract v' i) (fun m' v v' => VRel m' v v') := by
  unfold Instr.extract
  cases h <;> first
    | exact Sim.halt
    | (rename_i c c' h1 h2
       dsimp only
       cases hx : c[i]? with
       | none => exact Sim.halt
       | some v =>
         obtain ⟨v', hv', hv⟩ := ARel.get? ⟨h1, h2⟩ hx
         rw [hv']
         exact Sim.pure hv)
theorem Sim.makeInterface {m : Mu} {v v' : Value} (h : VRel m v v') (t : TypeId) : Sim P B m (Instr.makeInterface t v) (Instr.makeInterface t v') (fun m' v v' => VRel m' v v') := by
  unfold Instr.makeInterface
  refine Sim.free (Free.underlying t) fun d _ => ?_
  cases d <;> first | exact Sim.halt | exact Sim.pure (.iface _ _ _ h)
theorem Sim.makeFunc {m : Mu} {fn : Fn} {a a' c c' : Array Value} (h : ARel m a a') (h2 : ARel m c c') : Sim P B m (Instr.makeFunc fn a c) (Instr.makeFunc fn a' c') (fun m' v v' => VRel m' v v') :=
  Sim.pure (.func _ _ _ _ _ h.1 h.2 h2.1 h2.2)
theorem Sim.makeMap {m : Mu} (t : TypeId) : Sim P B m (Instr.makeMap t none) (Instr.makeMap t none) (fun m' v v' => VRel m' v v') := by
  unfold Instr.makeMap
  exact Sim.newMap.bind fun m' hm r r' hr => Sim.pure hr

/-! ### Indexes and slices -/
def idxTail (t : TypeId) (k : IntKind) (i : Int) (base : Option Addr) (len : Nat) (elem : TypeId) : Sem Value := do
  let tiny := len ≤ 1 && (match ← underlying t with | .array .. => true | _ => false)
  match base with
  | some a =>
    if 0 ≤ i ∧ i < len then pure (.pointer (some (a.add (i.toNat * (← sizeOf elem)))))
    else if tiny then unsupported (.noEntry "op/indexAddr.an index out of range at an array of length 0 or 1 (ledger 616)")
    else boundsPanic k i len .index
  | none => boundsPanic k i 0 .index
theorem Sim.idxTail {m : Mu} {t : TypeId} {k : IntKind} {i : Int} {base base' : Option Addr} {len : Nat} {elem : TypeId}
    (h1 : match base, base' with | some a, some a' => AdRel m a a' ∨ len = 0 | none, _ => True | _, _ => False) :
    Sim P B m (idxTail t k i base len elem) (idxTail t k i base' len elem) (fun m' v v' => VRel m' v v') := by
  unfold Ab.idxTail
  refine Sim.free (Free.underlying t) fun d2 _ => ?_
  cases base with
  | none => exact Sim.bounds
  | some a =>
    cases base' with
    | none => exact h1.elim
    | some a' =>
      dsimp only at h1 ⊢
      by_cases e : 0 ≤ i ∧ i < len
      · rw [if_pos e, if_pos e]
        rcases h1 with h1 | h1
        · exact Sim.free (Free.sizeOf elem) fun s _ => Sim.pure (h1.add _).ptr
        · omega
      · rw [if_neg e]
        refine Sim.of_none fun hp => ?_
        (repeat' split) <;> first | exact boundsPanic_runA _ _ _ _ hp | rfl
theorem Sim.indexAt {m : Mu} {v v' x x' : Value} (h : VRel m v v') (hx : VRel m x x') (t : TypeId) : Sim P B m (Instr.indexAt t v x) (Instr.indexAt t v' x') (fun m' v v' => VRel m' v v') := by
  unfold Instr.indexAt
  refine (Sim.asIntOf hx).bind fun m1 hm1 ki ki' e => ?_
  subst e
  obtain ⟨k, i⟩ := ki
  refine Sim.free (Free.underlying t) fun d _ => ?_
  have h' := h.mono hm1
  cases d <;> try exact Sim.halt
  · rename_i elem _
    cases h' <;> try exact Sim.halt
    · rename_i n c
      exact Sim.idxTail (base := none) (base' := none) (len := n) (elem := elem) trivial
    · rename_i b o n c l hm hc
      exact Sim.idxTail (base := some _) (base' := some _) (.inl ⟨b, o, l, rfl, hm, rfl⟩)
    · rename_i b o n k l hm _ _ _
      exact Sim.idxTail (base := some _) (base' := some _) (.inl ⟨b, o, l, rfl, hm, rfl⟩)
    · rename_i b o k l a hm _ _
      exact Sim.idxTail (base := some _) (base' := some _) (.inr rfl)
    · rename_i b o a
      exact Sim.idxTail (base := some _) (base' := some _) (len := 0) (.inr rfl)
  · rename_i len elem _
    exact (Sim.sureAddr h').bind fun m2 hm2 a a' ha => Sim.idxTail (base := some _) (base' := some _) (.inl ha)
end
end Go.Ab
namespace Go.Ab
open Go
section
variable {P : Program} {B : Base}

/-! ## A run that touches no memory -/
def _root_.Go.Sem.runP {α : Type} (P : Program) : Sem α → Option α
  | .pure a => some a
  | .program k => (k P).runP P
  | .mark _ k => k.runP P
  | _ => none
theorem runP_run {α : Type} {s : Sem α} : ∀ {a : α}, s.runP P = some a → ∀ w, s.run P w = .ok a w := by
  induction s with
  | pure a => intro b h w; simp only [Sem.runP, Option.some.injEq] at h; subst h; rfl
  | program k ih => intro b h w; exact ih P h w
  | mark md k ih => intro b h w; exact ih h w
  | _ => intro b h w; simp [Sem.runP] at h

/-! ## Free helpers -/
theorem Free.map {α β : Type} {s : Sem α} {f : α → β} (h : Free P s) : Free P (f <$> s) := Free.bind h fun a => Free.pure (f a)
theorem Free.listMapM {α β : Type} {f : α → Sem β} (h : ∀ a, Free P (f a)) : ∀ l : List α, Free P (l.mapM f)
  | [] => Free.pure _
  | a :: l => by
    rw [List.mapM_cons]
    exact Free.bind (h a) fun b => Free.bind (Free.listMapM h l) fun bs => Free.pure _
theorem Free.arrayMapM {α β : Type} {f : α → Sem β} (h : ∀ a, Free P (f a)) (l : Array α) : Free P (l.mapM f) := by
  rw [Array.mapM_eq_mapM_toList]
  exact Free.map (Free.listMapM h _)

/-! ## Aggregates -/
theorem foldl_set_rel {m : Mu} (off : Nat) : ∀ (l l' : List (Value × Nat)) (c c' : Array Value), l.length = l'.length →
    (∀ i (h : i < l.length) (h' : i < l'.length), VRel m l[i].1 l'[i].1 ∧ l[i].2 = l'[i].2) → ARel m c c' →
    ARel m (l.foldl (fun cs (x : Value × Nat) => cs.setIfInBounds (off + x.2) x.1) c) (l'.foldl (fun cs (x : Value × Nat) => cs.setIfInBounds (off + x.2) x.1) c') := by
  intro l
  induction l with
  | nil =>
    intro l' c c' hl _ hc
    cases l' with
    | nil => exact hc
    | cons x xs => simp at hl
  | cons x xs ih =>
    intro l' c c' hl hx hc
    cases l' with
    | nil => simp at hl
    | cons y ys =>
      have h0 := hx 0 (by simp) (by simp)
      simp only [List.getElem_cons_zero] at h0
      simp only [List.foldl_cons]
      refine ih ys _ _ (by simpa using hl) (fun i a b => ?_) ?_
      · have := hx (i + 1) (by simpa using a) (by simpa using b)
        simpa using this
      · rw [h0.2]; exact hc.set _ h0.1

theorem fill_rel {m : Mu} (place : Nat → Option (Nat × Nat)) : ∀ (ps ps' : List (Nat × Value)) (c c' r : Array Value), ps.length = ps'.length →
    (∀ i (h : i < ps.length) (h' : i < ps'.length), ps[i].1 = ps'[i].1 ∧ VRel m ps[i].2 ps'[i].2) → ARel m c c' → Instr.fill place c ps = some r →
    ∃ r', Instr.fill place c' ps' = some r' ∧ ARel m r r' := by
  intro ps
  induction ps with
  | nil =>
    intro ps' c c' r hl _ hc h
    cases ps' with
    | nil => simp only [Instr.fill, Option.some.injEq] at h ⊢; subst h; exact ⟨c', rfl, hc⟩
    | cons x xs => simp at hl
  | cons p ps ih =>
    intro ps' c c' r hl hx hc h
    cases ps' with
    | nil => simp at hl
    | cons q qs =>
      obtain ⟨i, v⟩ := p
      obtain ⟨i', v'⟩ := q
      have h0 := hx 0 (by simp) (by simp)
      simp only [List.getElem_cons_zero] at h0
      obtain ⟨e, hv⟩ := h0
      subst e
      have hcell := hv.cells
      simp only [Instr.fill] at h ⊢
      cases hp : place i with
      | none => rw [hp] at h; cases h
      | some os =>
        obtain ⟨off, size⟩ := os
        rw [hp] at h
        dsimp only at h ⊢
        rw [← hcell.1, ← hc.1]
        split at h
        · cases h
        · rename_i hn
          rw [if_neg hn]
          refine ih qs _ _ r (by simpa using hl) (fun j a b => ?_) ?_ h
          · have := hx (j + 1) (by simpa using a) (by simpa using b)
            simpa using this
          · rw [← Array.foldl_toList, ← Array.foldl_toList]
            refine foldl_set_rel off _ _ _ _ (by simp [hcell.1]) (fun j a b => ?_) hc
            simp only [Array.length_toList, Array.size_zipIdx] at a b
            simp only [Array.getElem_toList, Array.getElem_zipIdx, and_true]
            exact hcell.2 j a b

theorem Sim.build {m : Mu} (hz : ZF P) (t : TypeId) {ps ps' : Array (Nat × Value)} (hl : ps.size = ps'.size)
    (h : ∀ i (h : i < ps.size) (h' : i < ps'.size), ps[i].1 = ps'[i].1 ∧ VRel m ps[i].2 ps'[i].2) : Sim P B m (Instr.build t ps) (Instr.build t ps') (fun m' v v' => VRel m' v v') := by
  unfold Instr.build
  refine Sim.zero hz fun z hzf => ?_
  dsimp only
  refine Sim.free (Free.underlying t) fun d _ => ?_
  have hzc : ARel m z.cells z.cells := (vflat_rel m 8 z hzf).cells
  have fin : ∀ (place : Nat → Option (Nat × Nat)) (s : String), Sim P B m
      (match Instr.fill place z.cells ps.toList with | some cells => (Pure.pure (.agg cells) : Sem Value) | _ => Go.stuck s)
      (match Instr.fill place z.cells ps'.toList with | some cells => (Pure.pure (.agg cells) : Sem Value) | _ => Go.stuck s) (fun m' v v' => VRel m' v v') := by
    intro place s
    cases hf : Instr.fill place z.cells ps.toList with
    | none => exact Sim.halt
    | some r =>
      obtain ⟨r', hr', hrr⟩ := fill_rel place ps.toList ps'.toList z.cells z.cells r (by simpa using hl) (fun i a b => by simpa using h i (by simpa using a) (by simpa using b)) hzc hf
      rw [hr']
      exact Sim.pure (VRel.agg' hrr)
  cases d <;> try exact Sim.halt
  · exact Sim.free (Free.sizeOf _) fun s _ => fin _ _
  · rename_i fields _
    dsimp only
    exact Sim.free (Free.arrayMapM (fun f => Free.bind (Free.sizeOf f.type) fun s => Free.pure _) fields) fun places _ => fin _ _

/-- A cap that may be told. -/
def capOk : Value → Bool
  | .slice _ _ c => c ≤ HALF
  | _ => true
theorem AdRel.slice {m : Mu} {a a' : Addr} (h : AdRel m a a') {n c : Nat} (hc : c ≤ HALF) : VRel m (.slice (some a) n c) (.slice (some a') n c) := by
  obtain ⟨b, o, l, rfl, h2, rfl⟩ := h
  exact .slice b o n c l h2 hc

theorem zrow_rel {m : Mu} {z : Array Value} (hz : ARel m z z) (n : Nat) : ARel m ((Array.range n).map (z[· % z.size]!)) ((Array.range n).map (z[· % z.size]!)) := by
  refine ARel.map fun x _ => ?_
  by_cases h : x % z.size < z.size
  · rw [getElem!_pos z _ h]; exact hz.2 _ h h
  · rw [getElem!_neg z _ h]; exact .bool _

theorem Sim.buildSlice {m : Mu} (hz : ZF P) (t : TypeId) (len : Nat) {ps ps' : Array (Nat × Value)} (hl : ps.size = ps'.size)
    (h : ∀ i (h : i < ps.size) (h' : i < ps'.size), ps[i].1 = ps'[i].1 ∧ VRel m ps[i].2 ps'[i].2) :
    Sim P B m (Instr.buildSlice t len ps) (Instr.buildSlice t len ps') (fun m' v v' => capOk v = true → VRel m' v v') := by
  unfold Instr.buildSlice
  refine Sim.free (Free.underlying t) fun d _ => ?_
  cases d <;> try exact Sim.halt
  rename_i elem _
  dsimp only
  refine Sim.free (Free.sizeOf _) fun size _ => ?_
  by_cases e : len * size > 2 ^ 24
  · rw [if_pos e]; exact Sim.bind_stuck fun _ => rfl
  rw [if_neg e, if_neg e]
  have tail : ∀ (zs : Array Value), ARel m zs zs → Sim P B m
      (match Instr.fill (fun i => some (i * size, size)) zs ps.toList with | some cells => (do let a ← Go.newRow elem cells; Pure.pure (.slice (some a) len len) : Sem Value) | _ => Go.stuck "buildSlice: a part of the wrong size")
      (match Instr.fill (fun i => some (i * size, size)) zs ps'.toList with | some cells => (do let a ← Go.newRow elem cells; Pure.pure (.slice (some a) len len) : Sem Value) | _ => Go.stuck "buildSlice: a part of the wrong size")
      (fun m' v v' => capOk v = true → VRel m' v v') := by
    intro zs hzs
    cases hf : Instr.fill (fun i => some (i * size, size)) zs ps.toList with
    | none => exact Sim.halt
    | some r =>
      obtain ⟨r', hr', hrr⟩ := fill_rel _ ps.toList ps'.toList zs zs r (by simpa using hl) (fun i a b => by simpa using h i (by simpa using a) (by simpa using b)) hzs hf
      rw [hr']
      exact (Sim.newRow hrr _).bind fun m2 hm2 a a' ha => Sim.pure fun hc => ha.slice (by simpa [capOk] using hc)
  by_cases e0 : len * size = 0
  · rw [if_pos e0, if_pos e0]
    simp only [pure_bind]
    exact tail _ (zrow_rel ARel.empty _)
  · rw [if_neg e0, if_neg e0]
    refine Sim.zero hz fun z hzf => ?_
    simp only [pure_bind]
    exact tail _ (zrow_rel (vflat_rel m 8 z hzf).cells _)

theorem Free.askRoom (n : Nat) : Free P (Go.askRoom n) := by
  unfold Go.askRoom
  split
  · intro h a h' he
    simp only [Go.mark, Sem.runA, Option.some.injEq, Prod.mk.injEq, true_and] at he
    obtain rfl := he
    exact ⟨rfl, fun _ => rfl⟩
  · exact Free.pure _

theorem Sim.makeSlice {m : Mu} (hz : ZF P) (t : TypeId) {x x' y y' : Value} (hx : VRel m x x') (hy : VRel m y y') :
    Sim P B m (Instr.makeSlice t x y) (Instr.makeSlice t x' y') (fun m' v v' => capOk v = true → VRel m' v v') := by
  unfold Instr.makeSlice
  refine Sim.free (Free.underlying t) fun d _ => ?_
  cases d <;> try exact Sim.halt
  rename_i elem _
  dsimp only
  refine (Sim.asInt hx).bind fun m1 hm1 n n' e => ?_
  subst e
  refine (Sim.asInt (hy.mono hm1)).bind fun m2 hm2 c c' e => ?_
  subst e
  refine Sim.free (Free.typeInfo elem) fun ti _ => ?_
  generalize IntKind.i64.wrap n = l
  generalize IntKind.i64.wrap c = k
  split
  · refine Sim.of_none fun hp => ?_
    (repeat' split) <;> first
      | exact runA_bind_none (runtimePanic_runA _ hp)
      | exact runA_bind_none (choose_runA _ hp)
      | exact runtimePanic_runA _ hp
  · refine Sim.free (Free.askRoom _) fun _ _ => ?_
    refine Sim.free (Free.sizeOf elem) fun s _ => ?_
    have tail : ∀ (mm : Mu) (zs : Array Value), ARel mm zs zs → Sim P B mm (do let a ← Go.newRow elem zs; Pure.pure (.slice (some a) l.toNat k.toNat) : Sem Value) (do let a ← Go.newRow elem zs; Pure.pure (.slice (some a) l.toNat k.toNat) : Sem Value) (fun m' v v' => capOk v = true → VRel m' v v') := by
      intro mm zs hzs
      exact (Sim.newRow hzs _).bind fun m2 hm2 a a' ha => Sim.pure fun hc => ha.slice (by simpa [capOk] using hc)
    by_cases e0 : k.toNat * s = 0
    · rw [if_pos e0]
      simp only [pure_bind]
      exact tail _ _ (zrow_rel ARel.empty _)
    · rw [if_neg e0]
      refine Sim.zero hz fun z hzf => ?_
      simp only [pure_bind]
      exact tail _ _ (zrow_rel (vflat_rel m2 8 z hzf).cells _)

theorem Sim.index {m : Mu} {v v' x x' : Value} (h : VRel m v v') (hx : VRel m x x') (t : TypeId) : Sim P B m (Instr.index t v x) (Instr.index t v' x') (fun m' v v' => VRel m' v v') := by
  unfold Instr.index
  refine (Sim.asIntOf hx).bind fun m1 hm1 ki ki' e => ?_
  subst e
  obtain ⟨k, i⟩ := ki
  refine Sim.free (Free.underlying t) fun d _ => ?_
  have h' := h.mono hm1
  cases d <;> try exact Sim.halt
  · cases h' <;> try exact Sim.halt
    rename_i s
    dsimp only
    cases (if 0 ≤ i then s[i.toNat]? else none) with
    | none => exact Sim.bounds
    | some b => exact Sim.pure (.int _ _)
  · rename_i len elem _
    cases h' <;> try exact Sim.halt
    rename_i c c' h1 h2
    dsimp only
    split
    · exact Sim.free (Free.sizeOf elem) fun s _ => Sim.part ⟨h1, h2⟩ _ _
    · exact Sim.bounds

theorem Sim.len {m : Mu} {ts : Array TypeId} {t : TypeId} {as as' : Array Value} (h : ARel m as as') : Sim P B m (Builtin.len_ ts t as) (Builtin.len_ ts t as') (fun m' v v' => VRel m' v v') := by
  unfold Builtin.len_
  cases ht : ts[0]? with
  | none => exact Sim.halt
  | some t0 =>
    cases ha : as[0]? with
    | none => exact Sim.halt
    | some v =>
      obtain ⟨v', hv', hv⟩ := h.get? ha
      rw [hv']
      dsimp only
      refine Sim.free (Free.underlying t0) fun d _ => ?_
      cases d <;> try exact Sim.halt
      · cases hv <;> first | exact Sim.halt | exact Sim.pure (.int _ _)
      · rename_i arr _
        have go : ∀ (v v' : Value), Sim P B m (do
            match ← Go.underlying arr with
            | .array n _ => Pure.pure (goInt n)
            | _ => Go.stuck "len: pointer to array expected" : Sem Value) (do
            match ← Go.underlying arr with
            | .array n _ => Pure.pure (goInt n)
            | _ => Go.stuck "len: pointer to array expected" : Sem Value) (fun m' v v' => VRel m' v v') := by
          intro v v'
          refine Sim.free (Free.underlying arr) fun d2 _ => ?_
          cases d2 <;> first | exact Sim.halt | exact Sim.pure (.int _ _)
        exact go v v'
      · cases hv <;> first | exact Sim.halt | exact Sim.pure (.int _ _)
      · exact Sim.pure (.int _ _)
      · cases hv <;> try exact Sim.halt
        · exact Sim.pure (.int _ _)
        · rename_i b l hm
          refine (Sim.getObj hm).bind fun m1 hm1 o o' ho => ?_
          cases o with
          | map es k => obtain ⟨es', rfl, h1, _⟩ := ho; dsimp only; rw [h1]; exact Sim.pure (.int _ _)
          | stringIter s p => exact Sim.halt
          | _ => exact ho.elim
      · cases hv with
        | any r v' h0 h1 h2 =>
          refine Sim.of_none fun hp => ?_
          dsimp only
          cases hg : (Go.getObj r).runA P hp with
          | none => exact runA_bind_none hg
          | some x =>
            obtain ⟨o, h'⟩ := x
            rw [runA_bind_some hg]
            cases o <;> first | rfl | (simp only [Go.getObj, Sem.runA] at hg; split at hg <;> cases hg)
        | nilChan => exact Sim.pure (.int _ _)
        | _ => exact Sim.halt

theorem Sim.lenOf {m : Mu} {v v' : Value} (h : VRel m v v') : Sim P B m (Builtin.lenOf v) (Builtin.lenOf v') (fun _ a b => a = b) := by
  unfold Builtin.lenOf
  cases h <;> first | exact Sim.pure rfl | exact Sim.halt
theorem bytes_rel {m : Mu} (s : ByteArray) (n : Nat) : ARel m ((s.extract 0 n).data.map fun b => Value.int .u8 b.toNat) ((s.extract 0 n).data.map fun b => Value.int .u8 b.toNat) := ARel.map fun _ _ => .int _ _
theorem Sim.firstCells {m : Mu} {v v' : Value} (h : VRel m v v') (size n : Nat) (hn : ∀ b o k, v = .slice (some b) o k → n ≤ o) :
    Sim P B m (Builtin.firstCells size n v) (Builtin.firstCells size n v') (fun m' c c' => ARel m' c c' ∧ (n = 0 → c.size = 0)) := by
  unfold Builtin.firstCells
  have rows : ∀ {a a' : Addr}, AdRel m a a' → Sim P B m (Go.loadCells a (n * size)) (Go.loadCells a' (n * size)) (fun m' c c' => ARel m' c c' ∧ (n = 0 → c.size = 0)) := by
    intro a a' ha
    by_cases e : n = 0
    · subst e
      simp only [Nat.zero_mul]
      exact Sim.pure ⟨ARel.empty, fun _ => rfl⟩
    · exact (Sim.loadCells ha _).mono fun _ _ _ _ hc => ⟨hc, fun h => absurd h e⟩
  cases h <;> try exact Sim.halt
  · exact Sim.pure ⟨bytes_rel _ _, fun e => by subst e; simp⟩
  · exact Sim.pure ⟨ARel.empty, fun _ => rfl⟩
  · rename_i b o n c l hm hc
    exact rows ⟨b, o, l, rfl, hm, rfl⟩
  · rename_i b o n k l hm _ _ _
    exact rows ⟨b, o, l, rfl, hm, rfl⟩
  · rename_i b o k l a hm _ _
    have := hn _ _ _ rfl
    obtain rfl : n = 0 := by omega
    simp only [Nat.zero_mul]
    exact Sim.pure ⟨ARel.empty, fun _ => rfl⟩
  · rename_i b o a
    have := hn _ _ _ rfl
    obtain rfl : n = 0 := by omega
    simp only [Nat.zero_mul]
    exact Sim.pure ⟨ARel.empty, fun _ => rfl⟩

def copyTail (elem : TypeId) (n : Nat) (base : Option Addr) (x : Value) : Sem Value := do
  let cells ← Builtin.firstCells (← Go.sizeOf elem) n x
  if let some a := base then Go.storeCells a cells.toList
  pure (goInt n)
theorem Sim.copyTail {m : Mu} {elem : TypeId} {n : Nat} {base base' : Option Addr} {x x' : Value} (hx : VRel m x x') (hn : ∀ b o k, x = .slice (some b) o k → n ≤ o)
    (hb : match base, base' with | some a, some a' => AdRel m a a' ∨ n = 0 | none, none => True | _, _ => False) :
    Sim P B m (copyTail elem n base x) (copyTail elem n base' x') (fun m' v v' => VRel m' v v') := by
  unfold Ab.copyTail
  refine Sim.free (Free.sizeOf elem) fun s _ => ?_
  refine (Sim.firstCells hx s n hn).bind fun m1 hm1 c c' hc => ?_
  cases base with
  | none =>
    cases base' with
    | none => exact Sim.pure (.int _ _)
    | some a' => exact hb.elim
  | some a =>
    cases base' with
    | none => exact hb.elim
    | some a' =>
      dsimp only at hb ⊢
      rcases hb with hb | hb
      · exact (Sim.storeCells (hb.mono hm1) _ _ 0 (by simpa using hc.1)).bind fun _ _ _ _ _ => Sim.pure (.int _ _)
      · have e : c.toList = [] := by have := hc.2 hb; simpa using this
        have e' : c'.toList = [] := by have := hc.2 hb; have h2 := hc.1.1; rw [this] at h2; simpa using h2.symm
        rw [e, e']
        exact Sim.pure (.int _ _)

theorem lenOf_cases {m : Mu} {v v' : Value} (h : VRel m v v') :
    (∃ n, Builtin.lenOf v = pure n ∧ Builtin.lenOf v' = pure n ∧ ∀ b o k, v = .slice (some b) o k → n = o) ∨ (∀ hp, (Builtin.lenOf v).runA P hp = none) := by
  cases h <;> first
    | exact .inl ⟨_, rfl, rfl, fun b o k e => (by cases e; rfl)⟩
    | exact .inl ⟨_, rfl, rfl, fun b o k e => (by cases e)⟩
    | exact .inr fun _ => rfl
theorem Sim.copy {m : Mu} {ts : Array TypeId} {t : TypeId} {as as' : Array Value} (h : ARel m as as') : Sim P B m (Builtin.copy_ ts t as) (Builtin.copy_ ts t as') (fun m' v v' => VRel m' v v') := by
  unfold Builtin.copy_
  cases ht : ts[0]? with
  | none => exact Sim.halt
  | some t0 =>
    cases ha : as[0]? with
    | none => exact Sim.halt
    | some d =>
      obtain ⟨d', hd', hd⟩ := h.get? ha
      rw [hd']
      cases hb : as[1]? with
      | none => exact Sim.halt
      | some x =>
        obtain ⟨x', hx', hx⟩ := h.get? hb
        rw [hx']
        dsimp only
        refine Sim.free (Free.underlying t0) fun dd _ => ?_
        cases dd <;> try exact Sim.halt
        rename_i elem _
        dsimp only
        have hlen := lenOf_cases (P := P) hx
        cases hd <;> try exact Sim.halt
        all_goals
          rcases hlen with ⟨n, e1, e2, hn⟩ | hlen
          case inr => exact Sim.bind_stuck hlen
          simp only [e1, e2, pure_bind]
        · exact Sim.copyTail (base := none) (base' := none) hx (fun b o k e => by rw [← hn b o k e]; exact Nat.min_le_left _ _) trivial
        · rename_i b o n2 c l hm hc
          exact Sim.copyTail (base := some _) (base' := some _) hx (fun b o k e => by rw [← hn b o k e]; exact Nat.min_le_left _ _) (.inl ⟨b, o, l, rfl, hm, rfl⟩)
        · rename_i b o n2 k l hm _ _ _
          exact Sim.copyTail (base := some _) (base' := some _) hx (fun b o k e => by rw [← hn b o k e]; exact Nat.min_le_left _ _) (.inl ⟨b, o, l, rfl, hm, rfl⟩)
        · exact Sim.copyTail (base := some _) (base' := some _) hx (fun b o k e => by rw [← hn b o k e]; exact Nat.min_le_left _ _) (.inr (Nat.min_zero _))
        · exact Sim.copyTail (base := some _) (base' := some _) hx (fun b o k e => by rw [← hn b o k e]; exact Nat.min_le_left _ _) (.inr (Nat.min_zero _))
end
end Go.Ab
namespace Go.Ab
open Go
section
variable {P : Program} {B : Base}

/-! ## Slicing -/
def natOf : Option Value → Nat → Option Nat
  | none, d => some d
  | some (.int _ (.ofNat n)), _ => some n
  | _, _ => none

theorem natOf_some {o : Option Value} {d n : Nat} (h : natOf o d = some n) : (o = none ∧ n = d) ∨ ∃ k, o = some (.int k (n : Int)) := by
  unfold natOf at h
  split at h
  · left; exact ⟨rfl, (Option.some.inj h).symm⟩
  · right; rename_i k n'; obtain rfl := Option.some.inj h; exact ⟨k, rfl⟩
  · cases h

theorem natOf_rel {m : Mu} {ρ ρ' : Operand → Value} {x : Option Operand} (hx : ∀ y ∈ x, VRel m (ρ y) (ρ' y)) {d n : Nat} (h : natOf (x.map ρ) d = some n) : x.map ρ' = x.map ρ := by
  cases x with
  | none => rfl
  | some y =>
    rcases natOf_some h with ⟨h, _⟩ | ⟨k, h⟩
    · cases h
    · simp only [Option.map_some, Option.some.injEq] at h
      have := hx y rfl
      rw [h] at this
      simp only [Option.map_some, Option.some.injEq]
      rw [h]
      generalize ρ' y = z at this ⊢
      cases this; rfl

theorem run_sliceBound {k : IntKind} {n y : Nat} (h : n ≤ y) (code : BoundsCode) (w : World) : (Instr.sliceBound (.int k (n : Int)) y code).run P w = .ok n w := by
  unfold Instr.sliceBound
  simp only [Go.asIntOf, pure_bind]
  rw [if_pos ⟨by omega, by omega⟩]
  simp

theorem run_sliceBounds {isSlice : Bool} {len cap : Nat} {lo hi mx : Option Value} {l h mm : Nat} (hl : natOf lo 0 = some l) (hh : natOf hi len = some h)
    (hm : natOf mx cap = some mm) (hi' : mx.isSome = true → hi.isSome = true) (h1 : l ≤ h) (h2 : h ≤ mm) (h3 : mm ≤ cap) (w : World) :
    (Instr.sliceBounds isSlice len cap lo hi mx).run P w = .ok (l, h, mm) w := by
  unfold Instr.sliceBounds
  rcases natOf_some hm with ⟨rfl, rfl⟩ | ⟨km, rfl⟩
  · rcases natOf_some hh with ⟨rfl, rfl⟩ | ⟨kh, rfl⟩ <;> rcases natOf_some hl with ⟨rfl, rfl⟩ | ⟨kl, rfl⟩ <;>
      simp [run_sliceBound (P := P) h1, run_sliceBound (P := P) h2, Result.andThen]
  · rcases natOf_some hh with ⟨rfl, rfl⟩ | ⟨kh, rfl⟩
    · simp at hi'
    · rcases natOf_some hl with ⟨rfl, rfl⟩ | ⟨kl, rfl⟩ <;>
        simp [run_sliceBound (P := P) h1, run_sliceBound (P := P) h2, run_sliceBound (P := P) h3, Result.andThen]

def lim (n c : Nat) : Nat := if Nat.ble c HALF then c else n
def sliceA (P : Program) (t : TypeId) (v : Value) (lo hi mx : Option Value) : Option Value :=
  match P.underlying t with
  | some (.slice elem) =>
    match P.info? elem, v, natOf lo 0 with
    | some i, .slice base n c, some l =>
      match natOf hi n with
      | some h =>
        match mx with
        | some _ =>
          match natOf mx 0 with
          | some mm =>
            if hi.isSome && Nat.ble l h && Nat.ble h mm && Nat.ble mm (lim n c) && (Nat.ble c HALF || Nat.blt 0 n) && Nat.ble mm HALF then some (.slice (if mm = l then base else base.map (·.add (l * i.size))) (h - l) (mm - l)) else none
          | none => none
        | none =>
          if Nat.ble c HALF then
            if Nat.ble l h && Nat.ble h c then some (.slice (if c = l then base else base.map (·.add (l * i.size))) (h - l) (c - l)) else none
          else
            match base with
            | some a => if Nat.ble l h && Nat.ble h n && Nat.blt HALF (c - l) then some (.slice (some (a.add (l * i.size))) (h - l) (c - l)) else none
            | none => none
      | none => none
    | _, _, _ => none
  | some (.array n elem) =>
    match P.info? elem, v, natOf lo 0, natOf hi n, natOf mx n with
    | some i, .pointer (some a), some l, some h, some mm =>
      if (mx.isNone || hi.isSome) && Nat.ble l h && Nat.ble h mm && Nat.ble mm n && Nat.ble n HALF then some (.slice (some (if mm = l then a else a.add (l * i.size))) (h - l) (mm - l)) else none
    | _, _, _, _, _ => none
  | _ => none

theorem Addr_add_ad {m : Mu} {b o : Nat} {l : Loc} (hm : m b = some l) (x : Nat) : AdRel m ((⟨b, o, none⟩ : Addr).add x) ((⟨l.blk, l.off + o, none⟩ : Addr).add x) :=
  AdRel.add ⟨b, o, l, rfl, hm, rfl⟩ x

theorem run_sizeOf' {t : TypeId} {i : TypeInfo} (h : P.info? t = some i) (w : World) : (Go.sizeOf t).run P w = .ok i.size w := by
  unfold Go.sizeOf Go.typeInfo
  simp only [Sem.run_bind, Go.program, Sem.run, Result.andThen_ok, h, Sem.run_pure]

theorem sliceA_sound {m : Mu} {t : TypeId} {v v' r : Value} {lo hi mx : Option Value} (hv : VRel m v v') (h : sliceA P t v lo hi mx = some r) (w : World) :
    ∃ r', (Instr.sliceAt t v' lo hi mx).run P w = .ok r' w ∧ VRel m r r' := by
  unfold sliceA at h
  split at h
  · rename_i elem hu
    split at h
    · rename_i i base n c l hi1 hl
      split at h
      · rename_i hh hhi
        have start : ∀ (base' : Option Addr) (n' cap' mm : Nat), n' = n → (natOf mx cap' = some mm) → (mx.isSome = true → hi.isSome = true) → l ≤ hh → hh ≤ mm → mm ≤ cap' →
            (Instr.sliceAt t (.slice base' n' cap') lo hi mx).run P w = .ok (.slice (if mm = l then base' else base'.map (·.add (l * i.size))) (hh - l) (mm - l)) w := by
          intro base' n' cap' mm e hmm hs h1 h2 h3
          subst e
          simp only [Instr.sliceAt, Instr.slice, Sem.run_bind, run_underlying hu, Result.andThen_ok, run_sliceBounds (P := P) hl hhi hmm hs h1 h2 h3, run_sizeOf' hi1]
          rfl
        split at h
        · rename_i xm
          split at h
          · rename_i mm hmm
            split at h
            · rename_i hc
              obtain rfl := Option.some.inj h
              simp only [Bool.and_eq_true, Nat.ble_eq] at hc
              obtain ⟨⟨⟨⟨⟨c1, c2⟩, c3⟩, c4⟩, c6⟩, c5⟩ := hc
              unfold lim at c4
              have hmm' : ∀ cap', natOf (some xm) cap' = some mm := by
                intro cap'
                rcases natOf_some hmm with ⟨h, _⟩ | ⟨k, h⟩
                · cases h
                · rw [h]; rfl
              cases hv with
              | nilSlice =>
                have hle : mm ≤ c := by
                  by_cases e : c ≤ HALF
                  · rw [if_pos (by simpa using e)] at c4; exact c4
                  · omega
                refine ⟨_, start none n c mm rfl (hmm' _) (fun _ => c1) c2 c3 hle, ?_⟩
                have : (if mm = l then none else (none : Option Addr).map (·.add (l * i.size))) = none := by split <;> rfl
                rw [this]; exact .nilSlice _ _
              | slice b o _ _ loc hm hcc =>
                have hle : mm ≤ c := by rw [if_pos (by simpa using hcc)] at c4; exact c4
                refine ⟨_, start _ n c mm rfl (hmm' _) (fun _ => c1) c2 c3 hle, ?_⟩
                by_cases e : mm = l
                · rw [if_pos e, if_pos e]; exact .slice _ _ _ _ _ hm (by omega)
                · rw [if_neg e, if_neg e]; exact (Addr_add_ad hm _).slice (by omega)
              | oslice b o _ k loc hm hk1 hk2 hn =>
                have hle : mm ≤ loc.cap - k := by
                  have : ¬ (OPEN - k ≤ HALF) := by unfold OPEN; unfold HALF at *; omega
                  rw [if_neg (by simpa using this)] at c4
                  omega
                refine ⟨_, start _ n (loc.cap - k) mm rfl (hmm' _) (fun _ => c1) c2 c3 hle, ?_⟩
                by_cases e : mm = l
                · rw [if_pos e, if_pos e]; exact .slice _ _ _ _ _ hm (by omega)
                · rw [if_neg e, if_neg e]; exact (Addr_add_ad hm _).slice (by omega)
              | oslice0 b o k loc a hm hk hk2 =>
                have : ¬ (OPEN - k ≤ HALF) := by unfold OPEN; unfold HALF at *; omega
                simp only [Bool.or_eq_true, Nat.ble_eq, Nat.blt_eq] at c6
                omega
              | slice0 b o a =>
                have hle : mm ≤ 0 := by revert c4; split <;> omega
                obtain rfl : mm = 0 := by omega
                obtain rfl : hh = 0 := by omega
                obtain rfl : l = 0 := by omega
                refine ⟨_, start (some a) 0 0 0 rfl (hmm' _) (fun _ => c1) (Nat.le_refl _) (Nat.le_refl _) (Nat.le_refl _), ?_⟩
                exact .slice0 _ _ _
            · cases h
          · cases h
        · have hm0 : ∀ cap', natOf none cap' = some cap' := fun _ => rfl
          split at h
          · rename_i hc
            simp only [Nat.ble_eq] at hc
            split at h
            · rename_i hc2
              obtain rfl := Option.some.inj h
              simp only [Bool.and_eq_true, Nat.ble_eq] at hc2
              cases hv with
              | nilSlice =>
                refine ⟨_, start none n c c rfl (hm0 _) (fun h => by cases h) hc2.1 hc2.2 (Nat.le_refl _), ?_⟩
                have : (if c = l then none else (none : Option Addr).map (·.add (l * i.size))) = none := by split <;> rfl
                rw [this]; exact .nilSlice _ _
              | slice b o _ _ loc hm hcc =>
                refine ⟨_, start _ n c c rfl (hm0 _) (fun h => by cases h) hc2.1 hc2.2 (Nat.le_refl _), ?_⟩
                by_cases e : c = l
                · rw [if_pos e, if_pos e]; exact .slice _ _ _ _ _ hm (by omega)
                · rw [if_neg e, if_neg e]; exact (Addr_add_ad hm _).slice (by omega)
              | oslice b o _ k loc hm hk1 hk2 hn => unfold OPEN at hc; unfold HALF at *; omega
              | oslice0 b o k loc a hm hk hk2 => unfold OPEN at hc; unfold HALF at *; omega
              | slice0 b o a =>
                obtain rfl : hh = 0 := by omega
                obtain rfl : l = 0 := by omega
                refine ⟨_, start (some a) 0 0 0 rfl (hm0 _) (fun h => by cases h) (Nat.le_refl _) (Nat.le_refl _) (Nat.le_refl _), ?_⟩
                exact .slice0 _ _ _
            · cases h
          · rename_i hc
            simp only [Nat.ble_eq] at hc
            split at h
            · rename_i a
              split at h
              · rename_i hc2
                obtain rfl := Option.some.inj h
                simp only [Bool.and_eq_true, Nat.ble_eq, Nat.blt_eq] at hc2
                obtain ⟨⟨c1, c2⟩, c3⟩ := hc2
                cases hv with
                | slice b o _ _ loc hm hcc => omega
                | oslice b o _ k loc hm hk1 hk2 hn =>
                  have c3' : HALF < OPEN - (k + l) := by omega
                  have hkl : k + l < HALF := by unfold OPEN at c3'; unfold HALF at *; omega
                  refine ⟨_, start _ n (loc.cap - k) (loc.cap - k) rfl (hm0 _) (fun h => by cases h) c1 (by omega) (Nat.le_refl _), ?_⟩
                  have e0 : OPEN - k - l = OPEN - (k + l) := by omega
                  rw [e0]
                  by_cases e : loc.cap - k = l
                  · rw [if_pos e, e]
                    obtain rfl : hh = l := by omega
                    rw [Nat.sub_self]
                    obtain ⟨b2, o2, l2, ea, hl2, _⟩ := Addr_add_ad (o := o) hm (hh * i.size)
                    rw [ea]
                    have hb : b2 = b := by have := congrArg Addr.block ea; simp [Addr.add] at this; split at this <;> simp_all
                    subst hb
                    rw [hm] at hl2; cases hl2
                    exact .oslice0 _ _ _ _ _ hm (by omega) hkl
                  · rw [if_neg e]
                    obtain ⟨b2, o2, l2, ea, hl2, ea'⟩ := Addr_add_ad (o := o) hm (l * i.size)
                    have hb : b2 = b := by have := congrArg Addr.block ea; simp [Addr.add] at this; split at this <;> simp_all
                    subst hb
                    rw [hm] at hl2; cases hl2
                    simp only [Option.map_some]
                    rw [ea, ea', show loc.cap - k - l = loc.cap - (k + l) by omega]
                    exact .oslice _ _ _ _ _ hm (by omega) hkl (by omega)
                | oslice0 b o k loc a' hm hk hk2 =>
                  obtain rfl : hh = 0 := by omega
                  obtain rfl : l = 0 := by omega
                  refine ⟨_, start (some a') 0 0 0 rfl (hm0 _) (fun h => by cases h) (Nat.le_refl _) (Nat.le_refl _) (Nat.le_refl _), ?_⟩
                  simp only [Nat.zero_mul, if_true, Nat.sub_zero, Addr.add]
                  exact .oslice0 _ _ _ _ _ hm hk hk2
                | slice0 b o a => unfold HALF at *; omega
              · cases h
            · cases h
      · cases h
    · cases h
  · rename_i n elem hu
    split at h
    · rename_i i a l hh mm hi1 hl hhi hmm
      split at h
      · rename_i hc
        obtain rfl := Option.some.inj h
        simp only [Bool.and_eq_true, Nat.ble_eq, Bool.or_eq_true] at hc
        obtain ⟨⟨⟨⟨c1, c2⟩, c3⟩, c4⟩, c5⟩ := hc
        cases hv with
        | ptr b o loc hm =>
          refine ⟨.slice (some (if mm = l then ⟨loc.blk, loc.off + o, none⟩ else (⟨loc.blk, loc.off + o, none⟩ : Addr).add (l * i.size))) (hh - l) (mm - l), ?_, ?_⟩
          · simp only [Instr.sliceAt, Sem.run_bind, run_underlying hu, Result.andThen_ok, Instr.sureAddr, Sem.run_pure,
              run_sliceBounds (P := P) hl hhi hmm (by intro h; rcases c1 with c1 | c1; (simp at c1; rw [c1] at h; cases h); exact c1) c2 c3 c4, run_sizeOf' hi1]
          · by_cases e : mm = l
            · rw [if_pos e, if_pos e]; exact .slice _ _ _ _ _ hm (by omega)
            · rw [if_neg e, if_neg e]; exact (Addr_add_ad hm _).slice (by omega)
      · cases h
    · cases h
  · cases h
end
end Go.Ab
namespace Go.Ab
open Go
section
variable {P : Program} {B : Base}

/-! ## Rows out of memory -/
def isCell : Value → Bool
  | .agg _ | .tuple _ => false
  | _ => true
theorem isCell_not {v : Value} (h : isCell v = true) : (∀ c, v ≠ .agg c) ∧ (∀ c, v ≠ .tuple c) :=
  ⟨fun c e => by subst e; simp [isCell] at h, fun c e => by subst e; simp [isCell] at h⟩

def bytesOf (s : ByteArray) : List Value := s.data.toList.map fun b => .int .u8 b.toNat

/-- The first cells of a source: 'n' elements of 'size' cells. -/
def rowOf (h : AHeap) (size n : Nat) : Value → Option (List Value)
  | .slice (some a) _ _ =>
    match a.spot, rowIn (h.get a.block) with
    | none, some c => match Nat.ble (a.off + n * size) c.len with | true => some (c.part a.off (n * size)) | false => none
    | _, _ => none
  | .slice none _ _ => if n = 0 then some [] else none
  | .string s => if s.size = n then some (bytesOf s) else none
  | _ => none

theorem Rel.drew {m : Mu} {h : AHeap} {w : World} (hr : Rel P B m h w) : Rel P B m h { w with drawn := w.drawn + 1 } :=
  ⟨hr.os, hr.tape, hr.output, hr.prot, hr.obj, hr.sep, hr.fresh⟩

theorem load_row {m : Mu} {h : AHeap} {w : World} (hr : Rel P B m h w) {b o N : Nat} {l : Loc} {c : Row} (hm : m b = some l) (hb : rowIn (h.get b) = some c)
    {xs : List Value} (hx : xs = c.part o N) (hl : o + N ≤ c.len) :
    ∃ xs' : Array Value, (Go.loadCells ⟨l.blk, l.off + o, none⟩ N).run P w = .ok xs' w ∧ ARel m xs.toArray xs' := by
  obtain ⟨l', hl', _, hok⟩ := hr.obj b (rowIn_live hb)
  obtain rfl : l = l' := by rw [hm] at hl'; exact Option.some.inj hl'
  obtain ⟨_, C, te, fr, h1, h3, h4⟩ := okRow hok hb
  have hxl : xs.length = N := by rw [hx, Row.part_length]
  have hxs : ∀ j, j < N → ∃ v, c.get? (o + j) = some v ∧ xs[j]? = some v := by
    intro j hj
    obtain ⟨v, hv⟩ := Row.get?_lt (r := c) (i := o + j) (by omega)
    exact ⟨v, hv, by rw [hx, Row.part_get? _ _ _ _ hl hj]; exact hv⟩
  refine ⟨_, run_loadCells w _ N (fun j => C.getD (l.off + o + j) undef) ?_, ?_⟩
  · intro j hj
    obtain ⟨v, hv, _⟩ := hxs j hj
    obtain ⟨v', hv', _⟩ := h4 _ _ hv
    have e : ((⟨l.blk, l.off + o, none⟩ : Addr).add j) = ⟨l.blk, l.off + o + j, none⟩ := by unfold Addr.add; split <;> simp_all
    rw [e]
    have e2 : l.off + o + j = l.off + (o + j) := by omega
    simp only [World.cell?, h1, Option.isSome_none, Bool.false_eq_true, if_false]
    rw [e2, Array.getD_eq_getD_getElem?, hv']; rfl
  · refine ARel.of_get? (by simp [hxl]) fun j v v' hj hj' => ?_
    have hjN : j < N := by
      rcases Nat.lt_or_ge j N with x | x
      · exact x
      · rw [List.getElem?_toArray, List.getElem?_eq_none (by omega)] at hj; cases hj
    obtain ⟨y, hy, hy2⟩ := hxs j hjN
    rw [List.getElem?_toArray, hy2] at hj
    obtain rfl := Option.some.inj hj
    obtain ⟨z, hz, hyz⟩ := h4 _ _ hy
    have e2 : l.off + o + j = l.off + (o + j) := by omega
    simp only [List.getElem?_toArray, List.getElem?_map, List.getElem?_range hjN, Option.map_some] at hj'
    rw [e2, Array.getD_eq_getD_getElem?, hz] at hj'
    obtain rfl := Option.some.inj hj'
    exact hyz

theorem rowOf_sound {m : Mu} {h : AHeap} {w : World} (hr : Rel P B m h w) {size n : Nat} {v v' : Value} {xs : List Value} (hv : VRel m v v') (hx : rowOf h size n v = some xs)
    (hn : ∀ a k, v = .slice (some a) 0 k → n = 0) :
    ∃ xs' : Array Value, (Builtin.firstCells size n v').run P w = .ok xs' w ∧ ARel m xs.toArray xs' := by
  have main : ∀ (b o n2 c2 : Nat) (l : Loc) (n3 c3 : Nat), m b = some l → rowOf h size n (.slice (some ⟨b, o, none⟩) n2 c2) = some xs →
      ∃ xs' : Array Value, (Builtin.firstCells size n (.slice (some ⟨l.blk, l.off + o, none⟩) n3 c3)).run P w = .ok xs' w ∧ ARel m xs.toArray xs' := by
    intro b o n2 c2 l n3 c3 hm hx
    simp only [rowOf] at hx
    cases hb : rowIn (h.get b) with
    | some c =>
      rw [hb] at hx
      dsimp only at hx
      split at hx
      · rename_i e
        exact load_row hr hm hb (Option.some.inj hx).symm (by simpa using e)
      · cases hx
    | none => rw [hb] at hx; cases hx
  cases hv <;> try (simp [rowOf] at hx; done)
  · rename_i s
    simp only [rowOf] at hx
    split at hx
    · rename_i e
      obtain rfl := Option.some.inj hx
      refine ⟨_, rfl, ?_⟩
      have : s.extract 0 n = s := by rw [← e]; simp
      rw [this]
      have e2 : (bytesOf s).toArray = s.data.map fun b => Value.int .u8 b.toNat := by
        apply Array.ext'
        simp [bytesOf]
      rw [e2]
      exact ARel.map fun _ _ => .int _ _
    · cases hx
  · simp only [rowOf] at hx
    split at hx
    · obtain rfl := Option.some.inj hx
      exact ⟨#[], rfl, ARel.empty⟩
    · cases hx
  · rename_i b o n2 c2 l hm _
    exact main b o n2 c2 l n2 c2 hm hx
  · rename_i b o n2 k l hm _ _ _
    exact main b o n2 _ l n2 _ hm hx
  · rename_i b o k l a hm _ _
    obtain rfl := hn _ _ rfl
    refine ⟨#[], by simp [Builtin.firstCells, Go.loadCells, Go.loadCellsFrom], ?_⟩
    simp only [rowOf] at hx
    cases hb : rowIn (h.get b) with
    | some c =>
      rw [hb] at hx
      dsimp only at hx
      split at hx
      · obtain rfl := Option.some.inj hx
        rw [Nat.zero_mul]
        exact ARel.empty
      · cases hx
    | none => rw [hb] at hx; cases hx
  · rename_i b o a
    obtain rfl := hn _ _ rfl
    refine ⟨#[], by simp [Builtin.firstCells, Go.loadCells, Go.loadCellsFrom], ?_⟩
    simp only [rowOf] at hx
    cases hb : rowIn (h.get b) with
    | some c =>
      rw [hb] at hx
      dsimp only at hx
      split at hx
      · obtain rfl := Option.some.inj hx
        rw [Nat.zero_mul]
        exact ARel.empty
      · cases hx
    | none => rw [hb] at hx; cases hx

/-! ## Storing a row -/
theorem run_storeCells {k : Nat} {t : TypeId} {fr : Nat × Nat} : ∀ (vs : List Value) (o i : Nat) (w : World) (C : Array Value), w.heap[k]? = some (.cells C t fr) → (∀ v ∈ vs, isCell v = true) →
    o + i + vs.length ≤ C.size → (∀ j, j < C.size → ¬ (fr.1 ≤ j ∧ j < fr.2)) →
    ∃ w', (Go.storeCells ⟨k, o, none⟩ vs i).run P w = .ok () w' ∧ w'.os = w.os ∧ w'.tape = w.tape ∧ w'.output = w.output ∧ w'.heap.size = w.heap.size ∧ (∀ x, x ≠ k → w'.heap[x]? = w.heap[x]?) ∧
      ∃ C', w'.heap[k]? = some (.cells C' t fr) ∧ C'.size = C.size ∧ ∀ j, C'[j]? = if o + i ≤ j ∧ j < o + i + vs.length then vs[j - (o + i)]? else C[j]? := by
  intro vs
  induction vs with
  | nil =>
    intro o i w C hC _ _ _
    refine ⟨w, rfl, rfl, rfl, rfl, rfl, fun _ _ => rfl, C, hC, rfl, fun j => ?_⟩
    rw [if_neg (by simp)]
  | cons v vs ih =>
    intro o i w C hC hv hl hf
    have ea : ((⟨k, o, none⟩ : Addr).add i) = ⟨k, o + i, none⟩ := by unfold Addr.add; split <;> simp_all
    simp only [List.length_cons] at hl
    obtain ⟨q1, q2⟩ := isCell_not (hv v (by simp))
    have hcell : w.cell? ⟨k, o + i, none⟩ = some C[o + i] := by simp [World.cell?, hC]
    have hfr : w.frozen? ⟨k, o + i, none⟩ = false := by
      have := hf (o + i) (by omega)
      simp only [World.frozen?, hC]
      simp; omega
    have h1 := run_store_ok (P := P) w ⟨k, o + i, none⟩ v _ q1 q2 hcell hfr
    obtain ⟨w', hrun, e1, e2, e3, e4, e5, C', e6, e7, e8⟩ := ih o (i + 1) (w.setCell ⟨k, o + i, none⟩ v) (C.setIfInBounds (o + i) v) (heap_setCell_self w k (o + i) v C t fr hC)
      (fun x hx => hv x (by simp [hx])) (by simp; omega) (by simpa using hf)
    refine ⟨w', ?_, e1, e2, e3, by rw [e4]; simp [World.setCell], fun x hx => by rw [e5 x hx]; exact heap_setCell _ _ _ _ hx, C', e6, by rw [e7]; simp, fun j => ?_⟩
    · unfold Go.storeCells
      rw [Sem.run_bind, ea, h1]
      exact hrun
    · rw [e8 j]
      by_cases c1 : o + (i + 1) ≤ j ∧ j < o + (i + 1) + vs.length
      · rw [if_pos c1, if_pos (by simp; omega)]
        obtain ⟨d, rfl⟩ : ∃ d, j = o + (i + 1) + d := ⟨j - (o + (i + 1)), by omega⟩
        rw [show o + (i + 1) + d - (o + (i + 1)) = d by omega, show o + (i + 1) + d - (o + i) = d + 1 by omega]
        rfl
      · rw [if_neg c1, Array.getElem?_setIfInBounds]
        by_cases c2 : o + i = j
        · subst c2
          rw [if_pos rfl, if_pos (by omega), if_pos (by simp)]
          simp
        · rw [if_neg c2, if_neg (by simp; omega)]
end
end Go.Ab
namespace Go.Ab
open Go
section
variable {P : Program} {B : Base}

/-! ## append -/
theorem nextslicecap_le {need old : Nat} (h : old < need) : Builtin.nextslicecap need old ≤ 8 * need + 8192 := by
  unfold Builtin.nextslicecap
  split
  · omega
  · split
    · omega
    · simp only [Builtin.growBy]
      repeat' split
      all_goals omega

def lenA : Value → Option Nat
  | .slice _ n _ => some n
  | .string s => some s.size
  | _ => none
def notIntT (P : Program) : Option TypeId → Bool
  | none => true
  | some t => match P.underlying t with
    | some (.int _) => false
    | some _ => true
    | none => false

def appendA (P : Program) (ts : Array TypeId) (args : Array Value) (h : AHeap) : Option (Value × AHeap) :=
  match ts[0]?, (args[0]? : Option Value), (args[1]? : Option Value) with
  | some t, some (.slice base n c), some x =>
    match P.underlying t, lenA x with
    | some (.slice elem), some k =>
      match P.info? elem with
      | some i =>
        match rowOf h i.size k x, notIntT P ts[1]?, i.zero with
        | some xs, true, some z =>
          if Nat.beq k 0 && xs.isEmpty then
            if Nat.ble n c then some (.slice base n c, h) else none
          else if !(Nat.blt h.next h.lim && Nat.blt 0 k && xs.all isCell && Nat.beq xs.length (k * i.size) && Nat.beq z.cells.size i.size && Nat.ble (n + k) (2 ^ 30) && Nat.ble i.bytes (2 ^ 14)) then none
          else if Nat.ble c HALF then
            if Nat.ble (n + k) c then
              match base with
              | some ⟨b, o, none⟩ =>
                match h.get b with
                | .cells L t' =>
                  if Nat.ble (o + (n + k) * i.size) L.len then
                    some (.slice base (n + k) c, h.put b (.cells (L.lay (o + n * i.size) xs) t'))
                  else none
                | _ => none
              | _ => none
            else
              match rowOf h i.size n (.slice base n c) with
              | some old => some (.slice (some ⟨h.next, 0, none⟩) (n + k) OPEN, h.push (.cells (Row.ofList (old ++ xs)) elem))
              | none => none
          else
            match base with
            | some ⟨b, o, none⟩ =>
              match h.get b with
              | .cells L t' =>
                if Nat.beq t' elem && Nat.beq o ((OPEN - c) * i.size) && Nat.beq (o + n * i.size) L.len then
                  some (.slice (some ⟨h.next, 0, none⟩) (n + k) OPEN, (h.put b .dead).push (.cells ((L.tail o).more xs) elem))
                else none
              | _ => none
            | _ => none
        | _, _, _ => none
      | none => none
    | _, _ => none
  | _, _, _ => none

/-- The place where append grows. -/
theorem run_append_grow {ts : Array TypeId} {t ty elem : TypeId} {args' : Array Value} {base' : Option Addr} {n cap k : Nat} {x' z : Value} {i : TypeInfo} {w : World} {old' xs' : Array Value}
    (h0 : ts[0]? = some t) (ht : P.underlying t = some (.slice elem)) (ha0 : args'[0]? = some (.slice base' n cap)) (ha1 : args'[1]? = some x') (hi : P.info? elem = some i)
    (hx : notIntT P ts[1]? = true) (hk : Builtin.lenOf x' = pure k) (hz : i.zero = some z) (hlim : n + k ≤ 2 ^ 30) (hb : i.bytes ≤ 2 ^ 14) (hcap : cap < n + k)
    (hold : (Builtin.firstCells i.size n (.slice base' n cap)).run P { w with drawn := w.drawn + 1 } = .ok old' { w with drawn := w.drawn + 1 })
    (hnew : (Builtin.firstCells i.size k x').run P { w with drawn := w.drawn + 1 } = .ok xs' { w with drawn := w.drawn + 1 }) :
    ∃ NC : Nat, n + k ≤ NC ∧ NC < 2 ^ 63 ∧ (Builtin.append_ ts ty args').run P w = .ok (.slice (some ⟨w.heap.size, 0, none⟩) (n + k) NC)
      { ({ w with drawn := w.drawn + 1 } : World) with heap := w.heap.push (.cells (old' ++ xs' ++ Builtin.zeroCells z.cells (NC - (n + k))) elem) } := by
  have hzt : ∀ w, (match ts[1]? with
      | some xType => (do pure ((← Go.underlying xType) matches .int _) : Sem Bool)
      | none => pure false).run P w = .ok false w := by
    intro w
    unfold notIntT at hx
    cases h1 : ts[1]? with
    | none => rfl
    | some t1 =>
      rw [h1] at hx
      dsimp only at hx ⊢
      cases hu : P.underlying t1 with
      | none => rw [hu] at hx; cases hx
      | some d =>
        rw [hu] at hx
        simp only [Sem.run_bind, run_underlying hu, Result.andThen_ok]
        cases d <;> first | rfl | simp at hx
  have hlimit : ¬ Builtin.nextslicecap (n + k) cap * i.bytes > 2 ^ 48 := by
    have h1 := nextslicecap_le hcap
    have h2 : Builtin.nextslicecap (n + k) cap * i.bytes ≤ (8 * 2 ^ 30 + 8192) * 2 ^ 14 := Nat.mul_le_mul (by omega) hb
    omega
  have hc0 : ¬ (n + k ≤ cap) := by omega
  have hzv : ∀ w, (Go.zeroValue elem).run P w = .ok z w := by
    intro w
    simp [Go.zeroValue, Go.typeInfo, hi, hz, Go.program, Sem.run]
  let w1 : World := { w with drawn := w.drawn + 1 }
  let NC := Question.cut (.appendCap (n + k) cap elem) (w.tape w.drawn (.appendCap (n + k) cap elem))
  have hNC : n + k ≤ NC ∧ NC < 2 ^ 63 := by
    show n + k ≤ n + k + _ % (2 ^ 63 - (n + k)) ∧ n + k + _ % (2 ^ 63 - (n + k)) < 2 ^ 63
    have := Nat.mod_lt (w.tape w.drawn (.appendCap (n + k) cap elem)) (show 2 ^ 63 - (n + k) > 0 by omega)
    omega
  refine ⟨NC, hNC.1, hNC.2, ?_⟩
  have hroom : ∀ (nb : Nat) w, (Go.askRoom nb).run P w = .ok () w := by
    intro nb w
    unfold Go.askRoom
    split <;> rfl
  have e1 : (Builtin.firstCells i.size n (.slice base' n cap)).run P w1 = .ok old' w1 := hold
  have e2 : (Builtin.firstCells i.size k x').run P w1 = .ok xs' w1 := hnew
  have hti : ∀ w, (Go.typeInfo elem).run P w = .ok i w := by
    intro w
    simp [Go.typeInfo, hi, Go.program, Sem.run]
  have h63 : ¬ (((n + k : Nat) : Int) > IntKind.i64.max) := by
    have : IntKind.i64.max = 9223372036854775807 := rfl
    rw [this]; omega
  have hb1 : ((TypeDesc.int .i8 matches .int _) : Bool) = true := rfl
  have fin : (do
      let newCap ← choose (.appendCap (n + k) cap elem)
      Go.askRoom (newCap * (← Go.typeInfo elem).bytes)
      let old ← Builtin.firstCells i.size n (.slice base' n cap)
      let new ← Builtin.firstCells i.size k x'
      let rest := Builtin.zeroCells (← Go.zeroValue elem).cells (newCap - (n + k))
      pure (.slice (some (← Go.newRow elem (old ++ new ++ rest))) (n + k) newCap) : Sem Value).run P w = .ok (.slice (some ⟨w.heap.size, 0, none⟩) (n + k) NC)
      { ({ w with drawn := w.drawn + 1 } : World) with heap := w.heap.push (.cells (old' ++ xs' ++ Builtin.zeroCells z.cells (NC - (n + k))) elem) } := by
    have hch : (choose (.appendCap (n + k) cap elem)).run P w = .ok NC w1 := by
      simp [choose, Sem.run, Question.forced, NC, w1]
    simp only [Sem.run_bind, hch, Result.andThen_ok, hti, hroom, e1, e2, hzv, Go.newRow, Sem.run_pure]
    rfl
  cases h1 : ts[1]? with
  | none =>
    simp only [Builtin.append_, h0, ha0, ha1, Sem.run_bind, run_underlying ht, Result.andThen_ok, run_sizeOf' hi, h1, pure_bind, Bool.false_eq_true, if_false, hk, if_neg hc0, hti, h63, false_and, if_neg hlimit, Bool.not_false, if_true]
    simpa only [Sem.run_bind, hti, Result.andThen_ok] using fin
  | some t1 =>
    unfold notIntT at hx
    rw [h1] at hx
    dsimp only at hx
    cases hu : P.underlying t1 with
    | none => rw [hu] at hx; cases hx
    | some d =>
      rw [hu] at hx
      simp only [Builtin.append_, h0, ha0, ha1, Sem.run_bind, run_underlying ht, Result.andThen_ok, run_sizeOf' hi, h1, run_underlying hu]
      cases d <;> first
        | (simp at hx; done)
        | (simp only [pure_bind, Bool.false_eq_true, if_false, hk, if_neg hc0, hti, h63, false_and, if_neg hlimit, Bool.not_false, if_true, Sem.run_bind, Sem.run_pure, Result.andThen_ok]
           simpa only [Sem.run_bind, Sem.run_pure, hti, Result.andThen_ok] using fin)
/-- The place where there is room. -/
theorem run_append_room' {ts : Array TypeId} {t ty elem : TypeId} {args' : Array Value} {base' : Option Addr} {n cap k : Nat} {x' : Value} {i : TypeInfo} {w w2 : World} {xs' : Array Value}
    (h0 : ts[0]? = some t) (ht : P.underlying t = some (.slice elem)) (ha0 : args'[0]? = some (Value.slice base' n cap)) (ha1 : args'[1]? = some x') (hi : P.info? elem = some i)
    (hx : notIntT P ts[1]? = true) (hk : Builtin.lenOf x' = pure k) (hcap : n + k ≤ cap)
    (hnew : (Builtin.firstCells i.size k x').run P w = .ok xs' w)
    (hst : match base' with | some a => (Go.storeCells (a.add (n * i.size)) xs'.toList).run P w = .ok () w2 | none => w2 = w) :
    (Builtin.append_ ts ty args').run P w = .ok (Value.slice base' (n + k) cap) w2 := by
  cases h1 : ts[1]? with
  | none =>
    cases base' with
    | none =>
      simp only at hst; subst hst
      simp only [Builtin.append_, h0, ha0, ha1, Sem.run_bind, run_underlying ht, Result.andThen_ok, run_sizeOf' hi, h1, pure_bind, Bool.false_eq_true, if_false, hk, if_pos hcap, Bool.not_false, if_true, hnew, Sem.run_pure]
    | some a =>
      dsimp only at hst
      simp only [Builtin.append_, h0, ha0, ha1, Sem.run_bind, run_underlying ht, Result.andThen_ok, run_sizeOf' hi, h1, pure_bind, Bool.false_eq_true, if_false, hk, if_pos hcap, Bool.not_false, if_true, hnew, Sem.run_pure, hst]
  | some t1 =>
    unfold notIntT at hx
    rw [h1] at hx
    dsimp only at hx
    cases hu : P.underlying t1 with
    | none => rw [hu] at hx; cases hx
    | some d =>
      rw [hu] at hx
      cases base' with
      | none =>
        simp only at hst; subst hst
        simp only [Builtin.append_, h0, ha0, ha1, Sem.run_bind, run_underlying ht, Result.andThen_ok, run_sizeOf' hi, h1, run_underlying hu]
        cases d <;> first
          | (simp at hx; done)
          | simp only [pure_bind, Bool.false_eq_true, if_false, hk, if_pos hcap, Bool.not_false, if_true, Sem.run_bind, Sem.run_pure, Result.andThen_ok, hnew]
      | some a =>
        dsimp only at hst
        simp only [Builtin.append_, h0, ha0, ha1, Sem.run_bind, run_underlying ht, Result.andThen_ok, run_sizeOf' hi, h1, run_underlying hu]
        cases d <;> first
          | (simp at hx; done)
          | simp only [pure_bind, Bool.false_eq_true, if_false, hk, if_pos hcap, Bool.not_false, if_true, Sem.run_bind, Sem.run_pure, Result.andThen_ok, hnew, hst]

theorem lenA_rel {m : Mu} {v v' : Value} {k : Nat} (h : VRel m v v') (hk : lenA v = some k) : Builtin.lenOf v' = pure k ∧ (∀ a c, v = .slice (some a) 0 c → k = 0) := by
  cases h <;> simp only [lenA] at hk <;> first
    | (cases hk; done)
    | (obtain rfl := Option.some.inj hk
       refine ⟨rfl, fun a c e => ?_⟩
       first | (cases e; rfl) | (cases e))

theorem toArray_append_rel {m : Mu} {a b : List Value} {a' b' : Array Value} (h1 : ARel m a.toArray a') (h2 : ARel m b.toArray b') : ARel m (a ++ b).toArray (a' ++ b') := by
  have : (a ++ b).toArray = a.toArray ++ b.toArray := by simp
  rw [this]; exact h1.append h2

theorem cells_of_rel {m : Mu} {xs : List Value} {xs' rest : Array Value} (h : ARel m xs.toArray xs') (i : Nat) (v : Value) (hv : xs[i]? = some v) : ∃ v', (xs' ++ rest)[0 + i]? = some v' ∧ VRel m v v' := by
  have : xs.toArray[i]? = some v := by simpa using hv
  obtain ⟨v', h1, h2⟩ := h.get? this
  refine ⟨v', ?_, h2⟩
  rw [Nat.zero_add, Array.getElem?_append]
  have hi : i < xs'.size := by
    rcases Nat.lt_or_ge i xs'.size with x | x
    · exact x
    · rw [Array.getElem?_eq_none x] at h1; cases h1
  rw [if_pos hi]; exact h1

theorem isCell_rel {m : Mu} {v v' : Value} (h : VRel m v v') (hc : isCell v = true) : isCell v' = true := by
  cases h <;> first | rfl | (simp [isCell] at hc; done) | (rename_i h1 h2; revert h1 h2; cases v' <;> intro h1 h2 <;> first | rfl | exact absurd rfl (h1 _) | exact absurd rfl (h2 _))
theorem isCells_rel {m : Mu} {xs : List Value} {xs' : Array Value} (h : ARel m xs.toArray xs') (hc : xs.all isCell = true) : ∀ v ∈ xs'.toList, isCell v = true := by
  intro v hv
  obtain ⟨i, hi, rfl⟩ := List.mem_iff_getElem.1 hv
  have hi' : i < xs'.size := by simpa using hi
  have hi2 : i < xs.toArray.size := by rw [h.1]; exact hi'
  have := h.2 i hi2 hi'
  refine isCell_rel (v := xs.toArray[i]) (by simpa using this) ?_
  exact List.all_eq_true.1 hc _ (by simp)

theorem rowOf_len {h : AHeap} {size n c : Nat} {base : Option Addr} {xs : List Value} (hx : rowOf h size n (.slice base n c) = some xs) : xs.length = n * size := by
  cases base with
  | none =>
    simp only [rowOf] at hx
    split at hx
    · rename_i e; obtain rfl := Option.some.inj hx; simp [e]
    · cases hx
  | some a =>
    simp only [rowOf] at hx
    split at hx
    · split at hx
      · obtain rfl := Option.some.inj hx; exact Row.part_length _ _ _
      · cases hx
    · cases hx

theorem zeroCells_size (z : Array Value) (n : Nat) : (Builtin.zeroCells z n).size = n * z.size := by simp [Builtin.zeroCells]

theorem Addr_add_none (k o n : Nat) : ((⟨k, o, none⟩ : Addr).add n) = ⟨k, o + n, none⟩ := by unfold Addr.add; split <;> simp_all

theorem appendA_sound {m : Mu} {ts : Array TypeId} {ty : TypeId} {args args' : Array Value} {h h' : AHeap} {v : Value} {w : World} (ha : ARel m args args') (hr : Rel P B m h w)
    (he : appendA P ts args h = some (v, h')) :
    ∃ v' w' m', (Builtin.append_ ts ty args').run P w = .ok v' w' ∧ Ext h m m' ∧ Rel P B m' h' w' ∧ VRel m' v v' := by
  unfold appendA at he
  split at he <;> try (cases he; done)
  rename_i t base n c x h0 hA0 hA1
  split at he <;> try (cases he; done)
  rename_i elem k ht hk
  split at he <;> try (cases he; done)
  rename_i i hi
  split at he <;> try (cases he; done)
  rename_i xs z hxs hnot hz
  obtain ⟨s', hs0, hs⟩ := ha.get? hA0
  obtain ⟨x', hx0, hx⟩ := ha.get? hA1
  obtain ⟨hlen, hzero⟩ := lenA_rel hx hk
  obtain ⟨xs', hrun, hxr⟩ := rowOf_sound hr hx hxs hzero
  split at he
  · -- nothing is appended
    rename_i hk0
    simp only [Bool.and_eq_true, Nat.beq_eq, List.isEmpty_iff] at hk0
    obtain ⟨rfl, rfl⟩ := hk0
    split at he <;> try (cases he; done)
    rename_i hlim
    simp only [Nat.ble_eq] at hlim
    simp only [Option.some.injEq, Prod.mk.injEq] at he
    obtain ⟨rfl, rfl⟩ := he
    have hxs0 : xs'.toList = [] := by
      have h2 := hxr.1
      simpa using h2.symm
    have go : ∀ base' cap', s' = .slice base' n cap' → n ≤ cap' → (Builtin.append_ ts ty args').run P w = .ok s' w := by
      intro base' cap' e hle
      subst e
      refine run_append_room' h0 ht hs0 hx0 hi hnot hlen (by omega) hrun ?_
      cases base' with
      | none => rfl
      | some a => dsimp only; rw [hxs0]; rfl
    refine ⟨s', w, m, ?_, Ext.refl _ m, hr, hs⟩
    cases hs with
    | nilSlice => exact go _ _ rfl hlim
    | slice b o _ _ l hm hc => exact go _ _ rfl hlim
    | oslice b o _ k l hm h1 h2 h3 => exact go _ _ rfl h3
    | oslice0 b o k l a hm h1 h2 => exact go _ _ rfl (Nat.le_refl _)
    | slice0 b o a => exact go _ _ rfl (Nat.le_refl _)
  · split at he <;> try (cases he; done)
    rename_i hchk
    simp only [Bool.not_eq_true', Bool.and_eq_true, Nat.beq_eq, Nat.ble_eq, Nat.blt_eq, Bool.not_eq_false] at hchk
    obtain ⟨⟨⟨⟨⟨⟨hwin, hk0⟩, hcells⟩, hxl⟩, hzs⟩, hlim⟩, hbytes⟩ := hchk
    -- what growing gives
    have grow : ∀ (hk' : AHeap) (base' : Option Addr) (cap' : Nat) (old : List Value) (R : Row), R.len = (old ++ xs).length → (∀ j : Nat, R.get? j = (old ++ xs)[j]?) → s' = .slice base' n cap' → cap' < n + k → Rel P B m hk' w → hk'.next = h.next → hk'.lim = h.lim → rowOf h i.size n (.slice base n c) = some old →
        ∃ v' w' m', (Builtin.append_ ts ty args').run P w = .ok v' w' ∧ Ext h m m' ∧ Rel P B m' (hk'.push (.cells R elem)) w' ∧ VRel m' (.slice (some ⟨h.next, 0, none⟩) (n + k) OPEN) v' := by
      intro hk' base' cap' old R hRl hRg e hcap hrk hnext hlim2 hold
      subst e
      obtain ⟨old', hro, hor⟩ := rowOf_sound hr.drew hs hold (fun a k e => by cases e; rfl)
      obtain ⟨xs2, hrx, hxr2⟩ := rowOf_sound hr.drew hx hxs hzero
      obtain ⟨NC, hN1, hN2, hrunA⟩ := run_append_grow (ty := ty) h0 ht hs0 hx0 hi hnot hlen hz hlim hbytes hcap hro hrx
      have hrk' := hrk.drew
      have hwin2 : hk'.next < hk'.lim := by rw [hnext, hlim2]; exact hwin
      have hle : Mu.le m (m.add hk'.next ⟨w.heap.size, 0, NC⟩) := Mu.le_add (hrk'.fresh _ (Nat.le_refl _) hwin2).2
      have hext : Ext h m (m.add hk'.next ⟨w.heap.size, 0, NC⟩) := by
        have := Ext.add (l := ⟨w.heap.size, 0, NC⟩) (hrk'.fresh _ (Nat.le_refl _) hwin2).2 hwin2
        exact ⟨this.1, fun b hb => this.2 b (by rw [hnext, hlim2]; exact hb)⟩
      refine ⟨_, _, _, hrunA, hext, hrk'.alloc hwin2 NC (.cells R elem) _ ⟨_, (0, 0), heap_push_self _ _, ?_, ?_, ?_, ?_⟩, ?_⟩
      · intro j _ hj; omega
      · have a1 := hor.1; have a2 := hxr2.1
        rw [hRl]
        simp at a1 a2 ⊢; omega
      · intro j v hv
        rw [hRg] at hv
        obtain ⟨v', hv1, hv2⟩ := cells_of_rel (rest := Builtin.zeroCells z.cells (NC - (n + k))) (toArray_append_rel hor hxr2) j v hv
        exact ⟨v', hv1, hv2.mono hle⟩
      · intro s hs
        rw [hi] at hs
        obtain rfl := Option.some.inj hs
        have a1 := hor.1; have a2 := hxr2.1
        have a3 := rowOf_len hold
        simp only [List.size_toArray] at a1 a2
        simp only [Nat.zero_add, Array.size_append, zeroCells_size, hzs, ← a1, ← a2, a3, hxl]
        rw [← Nat.add_mul, ← Nat.add_mul]
        exact ⟨Nat.mul_le_mul_right _ (by omega), Nat.zero_mod _, by show NC ≤ 2 ^ 63; omega, fun _ q => by simp at q⟩
      · have := VRel.oslice (m := m.add hk'.next ⟨w.heap.size, 0, NC⟩) hk'.next 0 (n + k) 0 ⟨w.heap.size, 0, NC⟩ (Mu.add_self _ _ _) (Nat.zero_le _) (by unfold HALF; omega) (by simpa using hN1)
        rw [hnext] at this
        simpa [hnext] using this
    split at he
    · rename_i hcH
      simp only [Nat.ble_eq] at hcH
      split at he
      · -- in place, within what is known
        rename_i hroom
        simp only [Nat.ble_eq] at hroom
        split at he <;> try (cases he; done)
        rename_i b o
        split at he <;> try (cases he; done)
        rename_i L t' hb
        split at he <;> try (cases he; done)
        rename_i hin
        simp only [Nat.ble_eq] at hin
        have hsum0 : (n + k) * i.size = n * i.size + k * i.size := Nat.add_mul _ _ _
        have hlay := fun j => Row.lay_get? L (o + n * i.size) xs j (by omega)
        simp only [Option.some.injEq, Prod.mk.injEq] at he
        obtain ⟨rfl, rfl⟩ := he
        cases hs with
        | oslice _ _ _ k l hm h1 h2 h3 => unfold OPEN at hcH; unfold HALF at *; omega
        | oslice0 _ _ k l a hm h1 h2 => unfold OPEN at hcH; unfold HALF at *; omega
        | slice0 _ _ a => omega
        | slice _ _ _ _ l hm hc =>
          obtain ⟨l', hl', hp', hok⟩ := hr.obj b (by rw [hb]; intro h; cases h)
          obtain rfl : l = l' := by rw [hm] at hl'; exact Option.some.inj hl'
          rw [hb] at hok
          obtain ⟨C, fr, q1, q2, q3, q4, q5⟩ := hok
          have hxl' : xs'.toList.length = k * i.size := by have := hxr.1; simp at this ⊢; omega
          have hsum : (n + k) * i.size = n * i.size + k * i.size := Nat.add_mul _ _ _
          obtain ⟨w2, r1, r2, r3, r4, _, r5, C', r6, r7, r8⟩ := run_storeCells (P := P) (k := l.blk) (t := t') (fr := fr) xs'.toList (l.off + o + n * i.size) 0 w C q1 (isCells_rel hxr hcells) (by rw [hxl']; omega) q2
          refine ⟨_, w2, m, run_append_room' h0 ht hs0 hx0 hi hnot hlen hroom hrun (by dsimp only; rw [Addr_add_none]; exact r1), Ext.refl _ m, ?_, .slice _ _ _ _ _ hm hc⟩
          refine hr.update (by rw [hb]; intro h; cases h) hm r2 r3 r4 r5 ⟨C', fr, r6, ?_, ?_, ?_, ?_⟩
          · rw [r7]; exact q2
          · rw [r7]; exact q3
          · intro j v hv
            rw [hlay] at hv
            rw [r8]
            by_cases c1 : j < o + n * i.size
            · rw [if_neg (by omega)]
              rw [if_neg (by omega)] at hv
              exact q4 j v hv
            · by_cases c2 : j < o + (n + k) * i.size
              · rw [if_pos (by rw [hxl']; omega)]
                have hv2 : xs[j - (o + n * i.size)]? = some v := by
                  rw [if_pos (by omega)] at hv
                  exact hv
                obtain ⟨v', hv1, hv3⟩ := hxr.get? (i := j - (o + n * i.size)) (v := v) (by simpa using hv2)
                refine ⟨v', ?_, hv3⟩
                rw [show l.off + j - (l.off + o + n * i.size + 0) = j - (o + n * i.size) by omega]
                simpa using hv1
              · rw [if_neg (by rw [hxl']; omega)]
                rw [if_neg (by omega)] at hv
                exact q4 j v hv
          · rw [r7]; exact q5
      · -- it grows
        rename_i hroom
        simp only [Nat.ble_eq, Nat.not_le] at hroom
        split at he <;> try (cases he; done)
        rename_i old hold
        simp only [Option.some.injEq, Prod.mk.injEq] at he
        obtain ⟨rfl, rfl⟩ := he
        cases hs with
        | nilSlice => exact grow h none c old _ (Row.ofList_len _) (Row.ofList_get? _) rfl (by omega) hr rfl rfl hold
        | slice _ _ _ _ l hm hc => exact grow h _ c old _ (Row.ofList_len _) (Row.ofList_get? _) rfl (by omega) hr rfl rfl hold
        | oslice _ _ _ k l hm h1 h2 h3 => unfold OPEN at hcH; unfold HALF at *; omega
        | oslice0 _ _ k l a hm h1 h2 => unfold OPEN at hcH; unfold HALF at *; omega
        | slice0 _ _ a => exact grow h _ 0 old _ (Row.ofList_len _) (Row.ofList_get? _) rfl (by omega) hr rfl rfl hold
    · rename_i hcH
      simp only [Nat.ble_eq, Nat.not_le] at hcH
      split at he <;> try (cases he; done)
      rename_i b o
      split at he <;> try (cases he; done)
      rename_i L t' hb
      split at he <;> try (cases he; done)
      rename_i hin
      simp only [Bool.and_eq_true, Nat.beq_eq] at hin
      obtain ⟨⟨rfl, ho⟩, hend⟩ := hin
      simp only [Option.some.injEq, Prod.mk.injEq] at he
      obtain ⟨rfl, rfl⟩ := he
      have hkill := hr.kill b
      have hold : rowOf h i.size n (.slice (some ⟨b, o, none⟩) n c) = some (L.part o (n * i.size)) := by
        simp only [rowOf, hb, rowIn]
        rw [show Nat.ble (o + n * i.size) L.len = true by simp; omega]
      have hRl : ((L.tail o).more xs).len = (L.part o (n * i.size) ++ xs).length := by
        simp only [Row.more, Row.tail_len, List.length_append, Row.part_length]; omega
      have hRg : ∀ j : Nat, ((L.tail o).more xs).get? j = (L.part o (n * i.size) ++ xs)[j]? := by
        intro j
        rw [Row.more_get?, Row.tail_len]
        by_cases c1 : j < n * i.size
        · rw [if_pos (by omega), List.getElem?_append_left (by rw [Row.part_length]; exact c1), Row.part_get? _ _ _ _ (by omega) c1, Row.tail_get?]
        · rw [if_neg (by omega), List.getElem?_append_right (by rw [Row.part_length]; omega), Row.part_length]
          congr 1; omega
      cases hs with
      | slice _ _ _ _ l hm hc => omega
      | slice0 _ _ a => unfold HALF at *; omega
      | oslice0 _ _ k0 l a hm h1 h2 =>
        exact grow (h.put b .dead) (some a) 0 _ _ hRl hRg rfl (by omega) hkill rfl rfl hold
      | oslice _ _ _ k0 l hm h1 h2 h3 =>
        have ek : OPEN - (OPEN - k0) = k0 := by unfold OPEN; unfold HALF at *; omega
        rw [ek] at ho
        by_cases hroom : n + k ≤ l.cap - k0
        · obtain ⟨l', hl', hp', hok⟩ := hr.obj b (by rw [hb]; intro h; cases h)
          obtain rfl : l = l' := by rw [hm] at hl'; exact Option.some.inj hl'
          rw [hb] at hok
          obtain ⟨C, fr, q1, q2, q3, q4, q5⟩ := hok
          obtain ⟨hcapC, halign, hcapH, hendF⟩ := q5 i.size (by rw [hi]; rfl)
          have hxl' : xs'.toList.length = k * i.size := by have := hxr.1; simp at this ⊢; omega
          have hsum : (k0 + (n + k)) * i.size = k0 * i.size + (n * i.size + k * i.size) := by rw [Nat.add_mul, Nat.add_mul]
          have hle2 : (k0 + (n + k)) * i.size ≤ l.cap * i.size := Nat.mul_le_mul_right _ (by omega)
          obtain ⟨w2, r1, r2, r3, r4, r4s, r5, C', r6, r7, r8⟩ := run_storeCells (P := P) (k := l.blk) (t := t') (fr := fr) xs'.toList (l.off + o + n * i.size) 0 w C q1 (isCells_rel hxr hcells) (by rw [hxl']; omega) q2
          have hext : Ext h m (m.add h.next ⟨l.blk, l.off + o, l.cap - k0⟩) := Ext.add (hr.fresh _ (Nat.le_refl _) hwin).2 hwin
          have hle := hext.1
          refine ⟨_, w2, m.add h.next ⟨l.blk, l.off + o, l.cap - k0⟩, run_append_room' h0 ht hs0 hx0 hi hnot hlen hroom hrun (by dsimp only; rw [Addr_add_none]; exact r1), hext, ?_, ?_⟩
          · refine Rel.push (w := w) (l := ⟨l.blk, l.off + o, l.cap - k0⟩) hkill hwin r2 r3 r4 (fun k _ hk => r5 k hk) (protOf_none hp' (by rw [hb]; rfl)) ?_ ⟨C', fr, r6, ?_, ?_, ?_, ?_⟩
            · intro b2 l2 hb2 hl2 e
              rw [AHeap.get_put] at hb2
              by_cases e2 : b2 = b
              · rw [if_pos e2] at hb2; exact hb2 rfl
              · rw [if_neg e2] at hb2
                exact e2 (hr.sep b2 b l2 l hb2 (by rw [hb]; intro h; cases h) (by rw [hb]; rfl) hl2 hm e)
            · rw [r7]; exact q2
            · rw [r7, hRl]; simp [Row.part_length]; omega
            · intro j v hv
              rw [hRg] at hv
              rw [r8]
              by_cases c1 : j < n * i.size
              · rw [if_neg (by dsimp only; omega)]
                rw [List.getElem?_append_left (by rw [Row.part_length]; omega), Row.part_get? _ _ _ _ (by omega) c1] at hv
                obtain ⟨v', hv1, hv2⟩ := q4 _ v hv
                exact ⟨v', by dsimp only; rw [← hv1]; congr 1; omega, hv2.mono hle⟩
              · have hv2 : xs[j - n * i.size]? = some v := by
                  rw [List.getElem?_append_right (by rw [Row.part_length]; omega), Row.part_length] at hv
                  exact hv
                obtain ⟨v', hv1, hv3⟩ := hxr.get? (i := j - n * i.size) (v := v) (by simpa using hv2)
                have hj : j - n * i.size < k * i.size := by
                  rcases Nat.lt_or_ge (j - n * i.size) xs.length with x | x
                  · omega
                  · rw [List.getElem?_eq_none x] at hv2; cases hv2
                rw [if_pos (by dsimp only; rw [hxl']; omega)]
                refine ⟨v', ?_, hv3.mono hle⟩
                dsimp only
                rw [show l.off + o + j - (l.off + o + n * i.size + 0) = j - n * i.size by omega]
                simpa using hv1
            · intro s hs
              rw [hi] at hs
              obtain rfl := Option.some.inj hs
              rw [r7]
              dsimp only
              have : (l.cap - k0) * i.size + k0 * i.size = l.cap * i.size := by rw [← Nat.add_mul]; congr 1; omega
              refine ⟨by omega, ?_, Nat.le_trans (Nat.sub_le _ _) hcapH, hendF⟩
              rw [ho, Nat.add_mul_mod_self_right]
              exact halign
          · have := VRel.oslice (m := m.add h.next ⟨l.blk, l.off + o, l.cap - k0⟩) h.next 0 (n + k) 0 ⟨l.blk, l.off + o, l.cap - k0⟩ (Mu.add_self _ _ _) (Nat.zero_le _) (by unfold HALF; omega) (by simpa using hroom)
            simpa using this
        · exact grow (h.put b .dead) _ _ _ _ hRl hRg rfl (by omega) hkill rfl rfl hold

/-! ## append of so many zero values: 'append(s, make([]T, k)...)', where there is no room -/
def repL (z : List Value) : Nat → List Value
  | 0 => []
  | k + 1 => z ++ repL z k
def appendZ (P : Program) (ts : Array TypeId) (args : Array Value) (h : AHeap) : Option (Value × AHeap) :=
  match ts[0]?, ts[1]?, (args[0]? : Option Value), (args[1]? : Option Value) with
  | some t, some tn, some (.slice base n c), some (.int _ (.ofNat k)) =>
    match P.underlying t, P.underlying tn with
    | some (.slice elem), some (.int _) =>
      match P.info? elem with
      | some i => match i.zero, rowOf h i.size n (.slice base n c) with
        | some z, some old =>
          if Nat.blt h.next h.lim && Nat.blt 0 k && Nat.blt 0 i.size && z.cells.toList.all (vflat 7) && Nat.beq z.cells.size i.size && Nat.ble (n + k) (2 ^ 30) && Nat.ble i.bytes (2 ^ 14) && Nat.ble c HALF && Nat.blt c (n + k) then
            some (.slice (some ⟨h.next, 0, none⟩) (n + k) OPEN, h.push (.cells (Row.ofList (old ++ repL z.cells.toList k)) elem))
          else none
        | _, _ => none
      | none => none
    | _, _ => none
  | _, _, _, _ => none
theorem repL_get {z : List Value} {s : Nat} (hs : z.length = s) (h0 : 0 < s) : ∀ (k j : Nat), j < k * s → (repL z k)[j]? = z[j % s]? := by
  intro k
  induction k with
  | zero => intro j hj; omega
  | succ k ih =>
    intro j hj
    rw [Nat.succ_mul] at hj
    simp only [repL]
    by_cases c : j < s
    · rw [List.getElem?_append_left (by omega), Nat.mod_eq_of_lt c]
    · rw [List.getElem?_append_right (by omega), hs, ih (j - s) (by omega)]
      congr 1
      exact (Nat.mod_eq_sub_mod (by omega)).symm
theorem repL_len {z : List Value} {s : Nat} (hs : z.length = s) : ∀ k : Nat, (repL z k).length = k * s := by
  intro k
  induction k with
  | zero => simp [repL]
  | succ k ih => simp only [repL, List.length_append, hs, ih, Nat.succ_mul]; omega
theorem repL_rel {m : Mu} {z : Array Value} {s k : Nat} (hs : z.size = s) (h0 : 0 < s) (hf : z.toList.all (vflat 7) = true) : ARel m (repL z.toList k).toArray (Builtin.zeroCells z k) := by
  have hl : z.toList.length = s := by simpa using hs
  refine ⟨by simp [repL_len hl, zeroCells_size, hs], fun i h1 h2 => ?_⟩
  have hi : i < k * s := by simpa [repL_len hl] using h1
  have hm : i % s < z.size := by rw [hs]; exact Nat.mod_lt _ h0
  have e1 : (repL z.toList k).toArray[i] = z[i % s] := by
    have := repL_get hl h0 k i hi
    rw [List.getElem?_eq_getElem (by simpa using h1), List.getElem?_eq_getElem (by simpa using hm)] at this
    simpa using Option.some.inj this
  have e2 : (Builtin.zeroCells z k)[i] = z[i % s] := by
    simp only [Builtin.zeroCells, Array.getElem_map, Array.getElem_range, hs]
    exact getElem!_pos z (i % s) hm
  rw [e1, e2]
  exact vflat_rel m 7 _ (List.all_eq_true.1 hf _ (by simp))
theorem appendZ_sound {m : Mu} {ts : Array TypeId} {ty : TypeId} {args args' : Array Value} {h h' : AHeap} {v : Value} {w : World} (ha : ARel m args args') (hr : Rel P B m h w)
    (he : appendZ P ts args h = some (v, h')) :
    ∃ v' w' m', (Builtin.append_ ts ty args').run P w = .ok v' w' ∧ Ext h m m' ∧ Rel P B m' h' w' ∧ VRel m' v v' := by
  unfold appendZ at he
  split at he <;> try (cases he; done)
  rename_i t tn base n c kq k h0 h1 hA0 hA1
  split at he <;> try (cases he; done)
  rename_i elem kn ht htn
  split at he <;> try (cases he; done)
  rename_i i hi
  split at he <;> try (cases he; done)
  rename_i z old hz hold
  split at he <;> try (cases he; done)
  rename_i hchk
  simp only [Bool.and_eq_true, Nat.beq_eq, Nat.ble_eq, Nat.blt_eq] at hchk
  obtain ⟨⟨⟨⟨⟨⟨⟨⟨hwin, hk0⟩, hs0⟩, hzf⟩, hzs⟩, hlim⟩, hbytes⟩, hcH⟩, hgrow⟩ := hchk
  simp only [Option.some.injEq, Prod.mk.injEq] at he
  obtain ⟨rfl, rfl⟩ := he
  obtain ⟨s', hs0', hs⟩ := ha.get? hA0
  obtain ⟨x', hx0, hx⟩ := ha.get? hA1
  have hx' : x' = .int kq (k : Nat) := by cases hx; rfl
  subst hx'
  obtain ⟨base', rfl⟩ : ∃ base', s' = .slice base' n c := by
    cases hs with
    | nilSlice => exact ⟨_, rfl⟩
    | slice _ _ _ _ l hm hc => exact ⟨_, rfl⟩
    | oslice _ _ _ k l hm h1 h2 h3 => unfold OPEN at hcH; unfold HALF at *; omega
    | oslice0 _ _ k l a hm h1 h2 => unfold OPEN at hcH; unfold HALF at *; omega
    | slice0 _ _ a => exact ⟨_, rfl⟩
  obtain ⟨old', hro, hor⟩ := rowOf_sound hr.drew hs hold (fun a k e => by cases e; rfl)
  have hcap : Builtin.nextslicecap (n + k) c * i.bytes ≤ 281474976710656 := by
    have q1 := nextslicecap_le hgrow
    have q2 : Builtin.nextslicecap (n + k) c * i.bytes ≤ (8 * 2 ^ 30 + 8192) * 2 ^ 14 := Nat.mul_le_mul (by omega) hbytes
    omega
  have hrun0 := Lib.run_append_grow_zeros (P := P) w t tn ty elem i z kq kn ht htn hi hz base' n c old'.toList (by rw [Array.toArray_toList]; exact hro) k hk0 hs0 hgrow (by omega)
    (by have : k * i.bytes ≤ 2 ^ 30 * 2 ^ 14 := Nat.mul_le_mul (by omega) hbytes
        omega) hcap
  have hrun : (Builtin.append_ ts ty args').run P w = (Builtin.append_ #[t, tn] ty #[.slice base' n c, .int kq k]).run P w := by
    have g0 : (#[t, tn] : Array TypeId)[0]? = some t := rfl
    have g1 : (#[t, tn] : Array TypeId)[1]? = some tn := rfl
    have a0 : (#[.slice base' n c, .int kq k] : Array Value)[0]? = some (.slice base' n c) := rfl
    have a1 : (#[.slice base' n c, .int kq k] : Array Value)[1]? = some (.int kq k) := rfl
    unfold Builtin.append_
    rw [h0, h1, hs0', hx0, g0, g1, a0, a1]
  rw [Array.toArray_toList] at hrun0
  have hge := grownCap_ge w (n + k) c elem
  have hle63 : grownCap w (n + k) c elem < 2 ^ 63 := by
    have := grownCap_le_maxLen w (n + k) c elem (by unfold maxLen; omega)
    unfold maxLen at this
    omega
  generalize grownCap w (n + k) c elem = NC at hrun0 hge hle63
  have hrd := hr.drew
  have hle : Mu.le m (m.add h.next ⟨w.heap.size, 0, NC⟩) := Mu.le_add (hrd.fresh _ (Nat.le_refl _) hwin).2
  have hlenz : (repL z.cells.toList k).length = k * i.size := repL_len (by simpa using hzs) k
  refine ⟨_, _, _, hrun.trans hrun0, Ext.add (hrd.fresh _ (Nat.le_refl _) hwin).2 hwin, hrd.alloc hwin NC (.cells (Row.ofList (old ++ repL z.cells.toList k)) elem) _ ⟨_, (0, 0), heap_push_self _ _, ?_, ?_, ?_, ?_⟩, ?_⟩
  · intro j _ hj; omega
  · have a1 := hor.1
    rw [Row.ofList_len]
    simp [hlenz, zeroCells_size, hzs] at a1 ⊢; omega
  · intro j v hv
    rw [Row.ofList_get?] at hv
    obtain ⟨v', hv1, hv2⟩ := cells_of_rel (rest := Builtin.zeroCells z.cells (NC - (n + k))) (toArray_append_rel hor (repL_rel hzs hs0 hzf)) j v hv
    exact ⟨v', hv1, hv2.mono hle⟩
  · intro s hs
    rw [hi] at hs
    obtain rfl := Option.some.inj hs
    have a1 := hor.1
    have a3 := rowOf_len hold
    simp only [List.size_toArray] at a1
    simp only [Nat.zero_add, Array.size_append, zeroCells_size, hzs, ← a1, a3]
    rw [← Nat.add_mul, ← Nat.add_mul]
    exact ⟨Nat.mul_le_mul_right _ (by omega), Nat.zero_mod _, by show NC ≤ 2 ^ 63; omega, fun _ q => by simp at q⟩
  · have := VRel.oslice (m := m.add h.next ⟨w.heap.size, 0, NC⟩) h.next 0 (n + k) 0 ⟨w.heap.size, 0, NC⟩ (Mu.add_self _ _ _) (Nat.zero_le _) (by unfold HALF; omega) (by simpa using hge)
    simpa using this
end
end Go.Ab
namespace Go.Ab
open Go
section
variable {P : Program} {B : Base}

/-! ## Conversions -/
def takeBytes : List Value → ByteArray → Option ByteArray
  | [], acc => some acc
  | .int .u8 n :: rest, acc => takeBytes rest (acc.push (UInt8.ofNat n.toNat))
  | _ :: _, _ => none

theorem run_forIn_take {f : Value → ByteArray → Sem (ForInStep ByteArray)} {w : World}
    (hf : ∀ (n : Int) (r : ByteArray), (f (.int .u8 n) r).run P w = .ok (.yield (r.push (UInt8.ofNat n.toNat))) w) :
    ∀ (l l' : List Value) (acc s : ByteArray) (m : Mu), l.length = l'.length → (∀ i (h : i < l.length) (h' : i < l'.length), VRel m l[i] l'[i]) → takeBytes l acc = some s →
      (forIn l' acc f).run P w = .ok s w := by
  intro l
  induction l with
  | nil =>
    intro l' acc s m hl _ h
    cases l' with
    | nil => simp only [takeBytes, Option.some.injEq] at h; subst h; simp
    | cons x xs => simp at hl
  | cons v l ih =>
    intro l' acc s m hl hr h
    cases l' with
    | nil => simp at hl
    | cons v' l' =>
      have h0 : VRel m v v' := hr 0 (by simp) (by simp)
      cases v with
      | int k n =>
        cases k <;> simp only [takeBytes] at h <;> try (cases h; done)
        cases h0
        simp only [List.forIn_cons, Sem.run_bind, hf, Result.andThen_ok]
        exact ih l' _ s m (by simpa using hl) (fun i a b => by have := hr (i + 1) (by simpa using a) (by simpa using b); simpa using this) h
      | _ => simp [takeBytes] at h

def takeL : List Value → Option (List UInt8)
  | [] => some []
  | .int .u8 n :: rest => match takeL rest with | some l => some (UInt8.ofNat n.toNat :: l) | none => none
  | _ :: _ => none
theorem takeL_take : ∀ (xs : List Value) (l : List UInt8) (acc : ByteArray), takeL xs = some l → takeBytes xs acc = some ⟨acc.data ++ l.toArray⟩ := by
  intro xs
  induction xs with
  | nil => intro l acc h; simp only [takeL, Option.some.injEq] at h; subst h; simp [takeBytes]
  | cons v xs ih =>
    intro l acc h
    unfold takeL at h
    split at h
    · rename_i e; cases e
    · rename_i n rest e
      cases e
      split at h
      · rename_i l0 h0
        obtain rfl := Option.some.inj h
        simp only [takeBytes]
        rw [ih l0 _ h0]
        simp [ByteArray.push]
      · cases h
    · cases h
/-- 'string(bytes)': what is read. -/
def bytesA (h : AHeap) : Value → Option ByteArray
  | .slice none _ _ => some .empty
  | .slice (some a) n c => match rowOf h 1 n (.slice (some a) n c) with
    | some xs => match takeL xs with
      | some l => some ⟨⟨l⟩⟩
      | none => none
    | none => none
  | _ => none

theorem loadCells_zero (a : Addr) (w : World) : (Go.loadCells a 0).run P w = .ok #[] w := rfl

theorem bytesA_sound {m : Mu} {h : AHeap} {w : World} (hr : Rel P B m h w) {v v' : Value} {s : ByteArray} (hv : VRel m v v') (hx : bytesA h v = some s) :
    (Conv.bytesToString v').run P w = .ok (.string s) w := by
  have main : ∀ (a a' : Addr) (n c c' : Nat), VRel m (.slice (some a) n c) (.slice (some a') n c') → bytesA h (.slice (some a) n c) = some s → (Conv.bytesToString (.slice (some a') n c')).run P w = .ok (.string s) w := by
    intro a a' n c c' hv hx
    simp only [bytesA] at hx
    split at hx
    · rename_i xs hxs
      split at hx <;> try (cases hx; done)
      rename_i l hl
      obtain rfl := Option.some.inj hx
      have hx := takeL_take xs l .empty hl
      rw [show (⟨ByteArray.empty.data ++ l.toArray⟩ : ByteArray) = ⟨⟨l⟩⟩ by simp [ByteArray.empty, ByteArray.emptyWithCapacity]; rfl] at hx
      obtain ⟨xs', hrun, hrel⟩ := rowOf_sound hr hv hxs (fun a k e => by cases e; rfl)
      simp only [Builtin.firstCells, Nat.mul_one] at hrun
      unfold Conv.bytesToString
      simp only [Sem.run_bind, hrun, Result.andThen_ok]
      rw [← Array.forIn_toList]
      rw [run_forIn_take (P := P) (by intro n r; simp) xs xs'.toList .empty _ m (by have := hrel.1; simpa using this) (fun i a b => by have := hrel.2 i (by simpa using a) (by simpa using b); simpa using this) hx]
      simp
    · cases hx
  cases hv <;> try (simp [bytesA] at hx; done)
  · simp only [bytesA, Option.some.injEq] at hx
    subst hx; rfl
  · rename_i b o n c l hm hc
    exact main _ _ _ _ _ (.slice b o n c l hm hc) hx
  · rename_i b o n k l hm h1 h2 h3
    exact main _ _ _ _ _ (.oslice b o n k l hm h1 h2 h3) hx
  · rename_i b o k l a hm h1 h2
    exact main _ _ _ _ _ (.oslice0 b o k l a hm h1 h2) hx
  · rename_i b o a
    exact main _ _ _ _ _ (.slice0 b o a) hx

/-- '[]byte(s)'. -/
theorem stringToBytes_sound {m : Mu} {h : AHeap} {w : World} (hr : Rel P B m h w) (hwin : h.next < h.lim) {e : TypeId} {i : TypeInfo} (hu8 : P.underlying e = some (.int .u8)) (hi : P.info? e = some i) (hs1 : i.size = 1) (s : ByteArray) (hlen : s.size < 2 ^ 47) :
    ∃ v' w' m', (Conv.stringToBytes e s).run P w = .ok v' w' ∧ Ext h m m' ∧ Rel P B m' (h.push (.cells (Row.ofList (bytesOf s)) e)) w' ∧ VRel m' (.slice (some ⟨h.next, 0, none⟩) s.size OPEN) v' := by
  let NC := Question.cut (.appendCap s.size 0 e) (w.tape w.drawn (.appendCap s.size 0 e))
  have hNC : s.size ≤ NC ∧ NC < 2 ^ 63 := by
    show s.size ≤ s.size + _ % (2 ^ 63 - s.size) ∧ s.size + _ % (2 ^ 63 - s.size) < 2 ^ 63
    have := Nat.mod_lt (w.tape w.drawn (.appendCap s.size 0 e)) (show 2 ^ 63 - s.size > 0 by omega)
    omega
  let w1 : World := { w with drawn := w.drawn + 1 }
  let elems : Array Value := s.data.map fun b => Value.int .u8 b.toNat
  let C : Array Value := elems ++ Array.replicate (NC - s.size) (.int .u8 0)
  have hsz : s.data.size = s.size := rfl
  have hCs : C.size = NC := by simp [C, elems, hsz]; omega
  have hrun : (Conv.stringToBytes e s).run P w = .ok (.slice (some ⟨w.heap.size, 0, none⟩) s.size NC) (({ w1 with heap := w.heap.push (.cells C e) } : World).freeze ⟨w.heap.size, C.size, none⟩ 1) := by
    have hch : (choose (.appendCap s.size 0 e)).run P w = .ok NC w1 := by
      simp [choose, Sem.run, Question.forced, NC, w1]
    unfold Conv.stringToBytes markStringish
    simp only [Sem.run_bind, hch, Result.andThen_ok, Go.newRow, run_newObj, Sem.run_pure, run_shape]
    have hsh : ({ w1 with heap := w1.heap.push (.cells C e) } : World).shape? w1.heap.size = some (e, C.size) := by
      simp [World.shape?]
    show ((match World.shape? ({ w1 with heap := w1.heap.push (.cells C e) } : World) w1.heap.size with | some (_, n) => Go.freeze ⟨w1.heap.size, n, none⟩ 1 | _ => pure ()).run P _).andThen _ = _
    rw [hsh]
    simp only [run_freeze, Result.andThen_ok]
    rfl
  have hfz : (({ w1 with heap := w.heap.push (.cells C e) } : World).freeze ⟨w.heap.size, C.size, none⟩ 1) = { w1 with heap := w.heap.push (.cells C e (C.size, C.size + 1)) } := by
    unfold World.freeze
    rw [if_neg (by omega)]
    congr 1
    apply Array.ext_getElem?
    intro j
    rw [Array.getElem?_modify, Array.getElem?_push, Array.getElem?_push]
    by_cases e1 : j = w.heap.size
    · subst e1; simp
    · rw [if_neg e1, if_neg e1, if_neg (by simpa using fun h => e1 h.symm)]
  rw [hfz] at hrun
  have hr1 := hr.drew
  refine ⟨_, _, _, hrun, Ext.add (hr1.fresh _ (Nat.le_refl _) hwin).2 hwin, hr1.alloc hwin NC (.cells (Row.ofList (bytesOf s)) e) (.cells C e (C.size, C.size + 1)) ⟨C, _, heap_push_self w1 _, ?_, ?_, ?_, ?_⟩, ?_⟩
  · intro j hj hf; omega
  · simp only [Row.ofList_len, bytesOf, Nat.zero_add, List.length_map, Array.length_toList]; rw [hCs, hsz]; exact hNC.1
  · intro j v hv
    simp only [Row.ofList_get?, bytesOf, List.getElem?_map] at hv
    have hj : j < s.data.size := by
      rcases Nat.lt_or_ge j s.data.size with x | x
      · exact x
      · rw [List.getElem?_eq_none (by simpa using x)] at hv; cases hv
    have e1 : C[0 + j]? = some v := by
      rw [Nat.zero_add, Array.getElem?_append_left (by simpa [elems] using hj)]
      simp only [elems, Array.getElem?_map]
      rw [← hv]
      simp
    refine ⟨v, e1, ?_⟩
    have : ∃ b : UInt8, v = .int .u8 b.toNat := by
      rw [List.getElem?_eq_getElem (by simpa using hj)] at hv
      simp only [Option.map_some, Option.some.injEq] at hv
      exact ⟨_, hv.symm⟩
    obtain ⟨b, rfl⟩ := this
    exact .int _ _
  · intro q hq
    rw [hi] at hq
    obtain rfl := Option.some.inj hq
    refine ⟨?_, Nat.zero_mod _, ?_, fun q => absurd hu8 q⟩
    · show 0 + NC * i.size ≤ C.size
      rw [hs1, hCs]; omega
    · show NC ≤ 2 ^ 63
      omega
  · have := VRel.oslice (m := m.add h.next ⟨w.heap.size, 0, NC⟩) h.next 0 s.size 0 ⟨w.heap.size, 0, NC⟩ (Mu.add_self _ _ _) (Nat.zero_le _) (by unfold HALF; omega) (by simpa using hNC.1)
    simpa using this

/-! ## Comparison with nil -/
def isNilV : Value → Bool
  | .pointer none | .slice none _ _ | .map none | .nilFunc | .nilIface => true
  | _ => false
def refKind (P : Program) (t : TypeId) (x y : Value) : Bool :=
  match P.underlying t, x, y with
  | some (.pointer _), .pointer _, .pointer _ => true
  | some (.slice _), .slice _ _ _, .slice _ _ _ => true
  | some (.map _ _), .map _, .map _ => true
  | some (.func _ _ _), .nilFunc, .nilFunc | some (.func _ _ _), .nilFunc, .func _ _ _ | some (.func _ _ _), .func _ _ _, .nilFunc => true
  | some (.interface _), .nilIface, .iface _ _ | some (.interface _), .iface _ _, .nilIface => true
  | _, _, _ => false
def nilEqA (P : Program) (op : BinOp) (t : TypeId) (x y : Value) : Option Value :=
  if refKind P t x y && (isNilV x || isNilV y) then
    match op with
    | .eql => some (.bool (isNilV x && isNilV y))
    | .neq => some (.bool !(isNilV x && isNilV y))
    | _ => none
  else none
theorem isNilV_rel {m : Mu} {v v' : Value} (h : VRel m v v') (hc : ∀ r, v ≠ .chan r) : isNilV v' = isNilV v := by cases h <;> first | rfl | exact absurd rfl (hc _)
theorem refKind_chan {t : TypeId} {x y : Value} (h : refKind P t x y = true) : (∀ r, x ≠ .chan r) ∧ (∀ r, y ≠ .chan r) := by
  unfold refKind at h
  split at h <;> first
    | (cases h; done)
    | exact ⟨(fun r e => (by cases e)), (fun r e => (by cases e))⟩
theorem refKind_rel {m : Mu} {t : TypeId} {x x' y y' : Value} (hx : VRel m x x') (hy : VRel m y y') (h : refKind P t x y = true) : refKind P t x' y' = true := by
  unfold refKind at h ⊢
  split at h <;> first
    | (cases h; done)
    | (rename_i e; rw [e]; cases hx <;> cases hy <;> rfl)
theorem run_equalIn_nil (d : Nat) {t : TypeId} {x y : Value} (h : refKind P t x y = true) (hn : (isNilV x || isNilV y) = true) (w : World) :
    (Op.equalIn (d + 1) t x y).run P w = .ok (isNilV x && isNilV y) w := by
  unfold refKind at h
  split at h <;> try (cases h; done)
  all_goals
    rename_i e
    simp only [Op.equalIn, Sem.run_bind, run_underlying e, Result.andThen_ok]
  · rename_i elem a b
    cases a <;> cases b <;> simp_all [isNilV]
  · rename_i elem a _ _ b _ _
    cases a <;> cases b <;> simp_all [isNilV]
  · rename_i k elem a b
    cases a <;> cases b <;> simp_all [isNilV]
  all_goals simp [isNilV]
theorem run_equal_nil {t : TypeId} {x y : Value} (h : refKind P t x y = true) (hn : (isNilV x || isNilV y) = true) (w : World) :
    (Op.equal t x y).run P w = .ok (isNilV x && isNilV y) w := run_equalIn_nil 9999 h hn w
end
end Go.Ab
