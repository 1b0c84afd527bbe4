/- BoundRounds: what 'may' answers, for every config. -/
import Derived.Test.YtpolblnbenncmaaGreatDoorBoundRoundsG
import Derived.Test.YtpolblnbenncmaaGreatDoorBoundRoundsH
namespace Go.Proofs.YtpolblnbenncmaaGreatDoor.boundRounds
open Go Go.Ab
set_option maxRecDepth 100000
theorem mayg (n c d s k : Int) : ∀ j, 1 ≤ j → j ≤ 8 → saidC ((CC0 12).un #[cfg n (.ofNat j) c d s k] (bareOf 7) (goodT j) []) = some (.bool true, revN (goodN n (.ofNat j) c d s k j) [])
  | 0, h, _ => absurd h (by decide)
  | 1, _, _ => mayg1 n c d s k
  | 2, _, _ => mayg2 n c d s k
  | 3, _, _ => mayg3 n c d s k
  | 4, _, _ => mayg4 n c d s k
  | 5, _, _ => mayg5 n c d s k
  | 6, _, _ => mayg6 n c d s k
  | 7, _, _ => mayg7 n c d s k
  | 8, _, _ => mayg8 n c d s k
  | j + 9, _, h => absurd h (by omega)
theorem conds_or : ∀ l : List Bool, l.all id = true ∨ (l.all id = false ∧ ∃ i, i < l.length ∧ NotedOk (badN l i)) := by
  intro l
  induction l with
  | nil => exact .inl rfl
  | cons b l ih =>
    cases b with
    | false => exact .inr ⟨rfl, 0, Nat.succ_pos _, NotedOk.cons rfl NotedOk.nil⟩
    | true =>
      rcases ih with h | ⟨h, i, hi, hn⟩
      · exact .inl (by rw [List.all_cons, h]; rfl)
      · exact .inr ⟨by rw [List.all_cons, h]; rfl, i + 1, Nat.succ_lt_succ hi, NotedOk.cons rfl hn⟩
theorem condN_ok : ∀ {l : List Bool} {t : Noted}, l.all id = true → NotedOk t → NotedOk (condN l t) := by
  intro l
  induction l with
  | nil => intro t _ ht; exact ht
  | cons b l ih =>
    intro t h ht
    rw [List.all_cons, Bool.and_eq_true] at h
    exact NotedOk.cons (congrArg Value.bool h.1) (ih h.2 ht)
theorem not_lt {a b : Int} (h : notB (intLt a b) = true) : b ≤ a := by
  rw [intLt_eq] at h
  cases hd : decide (a < b) with
  | true => rw [hd] at h; cases h
  | false => have := of_decide_eq_false hd; omega
theorem not_of {a b : Int} (h : b ≤ a) : notB (intLt a b) = true := by
  rw [intLt_eq, decide_eq_false (by omega)]; rfl
theorem lt_of {a b : Int} (h : b ≤ a) : intLt a b = false := by
  rw [intLt_eq, decide_eq_false (by omega)]
theorem nat_of {x : Int} {lo hi : Nat} (h1 : notB (intLt x (.ofNat lo)) = true) (h2 : notB (intLt (.ofNat hi) x) = true) : ∃ j : Nat, x = .ofNat j ∧ lo ≤ j ∧ j ≤ hi := by
  have a := not_lt h1
  have b := not_lt h2
  have a' : (lo : Int) ≤ x := a
  have b' : x ≤ (hi : Int) := b
  exact ⟨x.toNat, by show x = (x.toNat : Int); omega, by omega, by omega⟩
theorem pred_eq {m : Nat} (h : 1 ≤ m) (h2 : m ≤ 7) : pred (.ofNat m) = .ofNat (m - 1) := by
  unfold pred
  have : Int.sub (.ofNat m) 1 = .ofNat (m - 1) := by
    show ((m : Int) - 1) = ((m - 1 : Nat) : Int)
    omega
  rw [this, wrapF_eq]
  exact wrap_u (show m - 1 < 9223372036854775808 by omega)
theorem groupN_ok {n : Nat} (h1 : 1 ≤ n) (h7 : n ≤ 7) : ∀ (m j : Nat), j + m ≤ 9 → NotedOk (groupN (.ofNat n) m j) := by
  intro m
  induction m with
  | zero => intro j _; exact NotedOk.nil
  | succ m ih =>
    intro j hj
    refine condN_ok ?_ (ih (j + 1) (by omega))
    have a1 : notB (intLt (.ofNat j) 0) = true := not_of (show (0 : Int) ≤ (j : Int) by omega)
    have a2 : notB (intLt 8 (.ofNat j)) = true := not_of (show (j : Int) ≤ 8 by omega)
    have a3 : notB (intLt (.ofNat n) 1) = true := not_of (show (1 : Int) ≤ (n : Int) by omega)
    have a4 : notB (intLt 7 (.ofNat n)) = true := not_of (show (n : Int) ≤ 7 by omega)
    have a5 : notB (intLt (pred (.ofNat n)) 0) = true := by rw [pred_eq h1 h7]; exact not_of (show (0 : Int) ≤ ((n - 1 : Nat) : Int) by omega)
    have a6 : notB (intLt (pred (.ofNat n)) (-1)) = true := by rw [pred_eq h1 h7]; exact not_of (show (-1 : Int) ≤ ((n - 1 : Nat) : Int) by omega)
    simp only [List.all_cons, List.all_nil, id, a1, a2, a3, a4, a5, a6]
    rfl
noncomputable def mayB (n g c d s k : Int) : Bool := (conds n g c d s k).all id
theorem may_ok (n g c d s k : Int) : MemoOk Tryz.prog ⟨12, [cfg n g c d s k], .bool (mayB n g c d s k)⟩ := by
  unfold mayB
  rcases conds_or (conds n g c d s k) with h | ⟨h, i, hi, hn⟩
  · rw [h]
    have hc := h
    simp only [conds, List.all_cons, List.all_nil, id, Bool.and_eq_true, and_true] at hc
    obtain ⟨c1, c2, c3, c4, c5, c6, c7, c8, c9, c10, c11, c12⟩ := hc
    obtain ⟨j, rfl, j1, j8⟩ := nat_of (lo := 1) (hi := 8) c3 c4
    obtain ⟨m, rfl, m1, m7⟩ := nat_of (lo := 1) (hi := 7) c1 c2
    refine memo_of_said CB0ok CC0ok rfl rfl (tp := goodT j) (mayg (.ofNat m) c d s k j j1 j8) (revN_ok _ _ (condN_ok h ?_) NotedOk.nil)
    refine condN_ok ?_ (NotedOk.cons (congrArg Value.bool (lt_of (by have := not_lt c9; omega))) (NotedOk.cons (congrArg Value.bool (lt_of (not_lt c10))) (groupN_ok m1 m7 (j + 1) 0 (by omega))))
    have a5 : notB (intLt (pred (.ofNat m)) 0) = true := by rw [pred_eq m1 m7]; exact not_of (show (0 : Int) ≤ ((m - 1 : Nat) : Int) by omega)
    simp only [List.all_cons, List.all_nil, id, a5]
    rfl
  · rw [h]
    have hl : (conds n g c d s k).length = 12 := rfl
    exact memo_of_said CB0ok CC0ok rfl rfl (tp := trs i [F]) (upTo_eq _ _ (bad n g c d s k) i (Nat.zero_le _) (by omega)) (revN_ok _ _ hn NotedOk.nil)
/-- 'may', known for every config. -/
noncomputable def mayF : List Value → Option Value
  | [.agg ⟨[.int .i64 n, .int .i64 g, .int .i64 c, .int .i64 d, .int .i64 s, .int .i64 k]⟩] => some (.bool (mayB n g c d s k))
  | _ => none
theorem mayF_ok : ∀ l v, mayF l = some v → MemoOk Tryz.prog ⟨12, l, v⟩ := by
  intro l v h
  unfold mayF at h
  split at h
  · cases h; exact may_ok _ _ _ _ _ _
  · cases h
end Go.Proofs.YtpolblnbenncmaaGreatDoor.boundRounds
