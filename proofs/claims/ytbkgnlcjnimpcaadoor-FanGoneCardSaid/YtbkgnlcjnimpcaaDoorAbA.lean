import Derived.Orders
import Derived.Tactics
namespace Go.Ab
open Go

/-! ## A radix tree over numbers -/
inductive Tree (α : Type) where
  | leaf
  | node (v : Option α) (l r : Tree α)
  deriving Inhabited

def Tree.get {α : Type} : Tree α → Nat → Option α
  | .leaf, _ => none
  | .node v l r, n =>
    match n with
    | 0 => v
    | m + 1 => match (m + 1) % 2 with
      | 0 => r.get (m / 2)
      | _ + 1 => l.get (m / 2)

def Tree.setF {α : Type} : Nat → Tree α → Nat → α → Tree α
  | 0, t, _, _ => t
  | f + 1, t, n, x =>
    match t with
    | .leaf =>
      match n with
      | 0 => .node (some x) .leaf .leaf
      | m + 1 => match (m + 1) % 2 with
        | 0 => .node none .leaf (Tree.setF f .leaf (m / 2) x)
        | _ + 1 => .node none (Tree.setF f .leaf (m / 2) x) .leaf
    | .node v l r =>
      match n with
      | 0 => .node (some x) l r
      | m + 1 => match (m + 1) % 2 with
        | 0 => .node v l (Tree.setF f r (m / 2) x)
        | _ + 1 => .node v (Tree.setF f l (m / 2) x) r

theorem Tree.get_leaf {α : Type} (n : Nat) : (Tree.leaf : Tree α).get n = none := by simp [Tree.get]

theorem Tree.get_setF {α : Type} (x : α) : ∀ (f : Nat) (t : Tree α) (n k : Nat), n < f → (Tree.setF f t n x).get k = if k = n then some x else t.get k := by
  intro f
  induction f with
  | zero => intro t n k h; omega
  | succ f ih =>
    intro t n k h
    have key : ∀ (v : Option α) (l r : Tree α), (match n with
      | 0 => Tree.node (some x) l r
      | m + 1 => match (m + 1) % 2 with
        | 0 => Tree.node v l (Tree.setF f r (m / 2) x)
        | _ + 1 => Tree.node v (Tree.setF f l (m / 2) x) r).get k = if k = n then some x else (Tree.node v l r).get k := by
      intro v l r
      cases n with
      | zero =>
        cases k with
        | zero => simp [Tree.get]
        | succ k => simp [Tree.get]
      | succ m =>
        rcases Nat.mod_two_eq_zero_or_one (m + 1) with h0 | h1
        · simp only [h0]
          cases k with
          | zero => simp [Tree.get]
          | succ k =>
            rcases Nat.mod_two_eq_zero_or_one (k + 1) with k0 | k1
            · simp only [Tree.get, k0]
              rw [ih _ _ _ (by omega)]
              by_cases e : k = m
              · subst e; simp
              · rw [if_neg (by omega), if_neg (by omega)]
            · simp only [Tree.get, k1]
              rw [if_neg (by omega)]
        · simp only [h1]
          cases k with
          | zero => simp [Tree.get]
          | succ k =>
            rcases Nat.mod_two_eq_zero_or_one (k + 1) with k0 | k1
            · simp only [Tree.get, k0]
              rw [if_neg (by omega)]
            · simp only [Tree.get, k1]
              rw [ih _ _ _ (by omega)]
              by_cases e : k = m
              · subst e; simp
              · rw [if_neg (by omega), if_neg (by omega)]
    cases t with
    | leaf =>
      have := key none .leaf .leaf
      rw [show (Tree.node none Tree.leaf Tree.leaf : Tree α).get k = (Tree.leaf : Tree α).get k by
        cases k with
        | zero => simp [Tree.get]
        | succ k => simp only [Tree.get]; split <;> rfl] at this
      rw [← this]
      cases n <;> rfl
    | node v l r =>
      rw [← key v l r]
      cases n <;> rfl

/-- Keys below 2 ^ 20, no more: a greater one is not set. -/
def Tree.set {α : Type} (t : Tree α) (n : Nat) (x : α) : Tree α := Tree.setF (n + 1) t n x
theorem Tree.get_set {α : Type} (t : Tree α) (n k : Nat) (x : α) : (t.set n x).get k = if k = n then some x else t.get k :=
  Tree.get_setF x (n + 1) t n k (by omega)

end Go.Ab
