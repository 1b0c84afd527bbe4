/- NodeConfigs: it answers true, for every config and numbers. -/
import Derived.Test.YtdkomnkcemmdoaaGreatDoorNcG
import Derived.Test.YtdkomnkcemmdoaaGreatDoorNcH
namespace Go.Proofs.YtdkomnkcemmdoaaGreatDoor.nodeConfigs
open Go Go.Ab
set_option maxRecDepth 100000
theorem good (n c d s k id dr : Int) : ∀ j, 1 ≤ j → j ≤ 8 → run n (.ofNat j) c d s k id dr (goodT j) = some (.bool true, revN (goodN n (.ofNat j) c d s k id dr j) [])
  | 0, h, _ => absurd h (by decide)
  | 1, _, _ => good1 n c d s k id dr
  | 2, _, _ => good2 n c d s k id dr
  | 3, _, _ => good3 n c d s k id dr
  | 4, _, _ => good4 n c d s k id dr
  | 5, _, _ => good5 n c d s k id dr
  | 6, _, _ => good6 n c d s k id dr
  | 7, _, _ => good7 n c d s k id dr
  | 8, _, _ => good8 n c d s k id dr
  | j + 9, _, h => absurd h (by omega)
theorem conds_or : ∀ l : List Bool, l.all id = true ∨ (∃ i, i < l.length ∧ ∀ t, NotedOk t → NotedOk (badN l i t)) := by
  intro l
  induction l with
  | nil => exact .inl rfl
  | cons b l ih =>
    cases b with
    | false => exact .inr ⟨0, Nat.succ_pos _, fun t ht => NotedOk.cons rfl ht⟩
    | true =>
      rcases ih with h | ⟨i, hi, hn⟩
      · exact .inl (by rw [List.all_cons, h]; rfl)
      · exact .inr ⟨i + 1, Nat.succ_lt_succ hi, fun t ht => NotedOk.cons rfl (hn t ht)⟩
theorem condN_ok : ∀ {l : List Bool} {t : Noted}, l.all id = true → NotedOk t → NotedOk (condN l t) := by
  intro l
  induction l with
  | nil => intro t _ ht; exact ht
  | cons b l ih =>
    intro t h ht
    rw [List.all_cons, Bool.and_eq_true] at h
    exact NotedOk.cons (congrArg Value.bool h.1) (ih h.2 ht)
theorem secN_ok : NotedOk secN := condN_ok rfl (NotedOk.cons rfl NotedOk.nil)
theorem not_lt {a b : Int} (h : notB (intLt a b) = true) : b ≤ a := by
  rw [intLt_eq] at h
  cases hd : decide (a < b) with
  | true => rw [hd] at h; cases h
  | false => have := of_decide_eq_false hd; omega
theorem not_of {a b : Int} (h : b ≤ a) : notB (intLt a b) = true := by
  rw [intLt_eq, decide_eq_false (by omega)]; rfl
theorem not_ofF {a b : Int} (h : a < b) : notB (intLt a b) = false := by
  rw [intLt_eq, decide_eq_true h]; rfl
theorem lt_no {a b : Int} (h : b ≤ a) : intLt a b = false := by
  rw [intLt_eq, decide_eq_false (by omega)]
theorem lt_yes {a b : Int} (h : a < b) : intLt a b = true := by
  rw [intLt_eq, decide_eq_true h]
theorem nat_of {x : Int} {lo hi : Nat} (h1 : notB (intLt x (.ofNat lo)) = true) (h2 : notB (intLt (.ofNat hi) x) = true) : ∃ j : Nat, x = .ofNat j ∧ lo ≤ j ∧ j ≤ hi := by
  have a := not_lt h1
  have b := not_lt h2
  have a' : (lo : Int) ≤ x := a
  have b' : x ≤ (hi : Int) := b
  exact ⟨x.toNat, by show x = (x.toNat : Int); omega, by omega, by omega⟩
theorem pred_eq {m : Nat} (h : 1 ≤ m) (h2 : m ≤ 7) : pred (.ofNat m) = .ofNat (m - 1) := by
  unfold pred
  have : Int.sub (.ofNat m) 1 = .ofNat (m - 1) := by
    show ((m : Int) - 1) = ((m - 1 : Nat) : Int)
    omega
  rw [this, wrapF_eq]
  exact wrap_u (show m - 1 < 9223372036854775808 by omega)
theorem drw_ok (x j : Nat) (hj : j ≤ 8) : (0 : Int) ≤ drw (.ofNat x) j := by
  unfold drw
  have e1 : Int.mul 3 (.ofNat j) = .ofNat (3 * j) := by show (3 * (j : Int)) = ((3 * j : Nat) : Int); omega
  have e2 : wrapF .i64 (.ofNat (3 * j)) = .ofNat (3 * j) := by rw [wrapF_eq]; exact wrap_u (show 3 * j < 9223372036854775808 by omega)
  have hm : x % 10 < 10 := Nat.mod_lt _ (by decide)
  have e3 : Int.add (remF (.ofNat x) 10) (.ofNat (3 * j)) = .ofNat (x % 10 + 3 * j) := rfl
  rw [e1, e2, e3, wrapF_eq]
  have e4 : IntKind.i64.wrap (.ofNat (x % 10 + 3 * j)) = .ofNat (x % 10 + 3 * j) := wrap_u (show x % 10 + 3 * j < 9223372036854775808 by omega)
  rw [e4]
  exact Int.natCast_nonneg _
theorem groupN_ok {n : Nat} {id : Int} {x : Nat} (h1 : 1 ≤ n) (h7 : n ≤ 7) (i1 : (0 : Int) ≤ id) (i2 : id ≤ ((n - 1 : Nat) : Int)) {t : Noted} (ht : NotedOk t) : ∀ (m j : Nat), j + m ≤ 9 → NotedOk (groupN (.ofNat n) id (.ofNat x) m j t) := by
  intro m
  induction m with
  | zero => intro j _; exact ht
  | succ m ih =>
    intro j hj
    have a1 : notB (intLt (.ofNat j) 0) = true := not_of (show (0 : Int) ≤ (j : Int) by omega)
    have a2 : notB (intLt 8 (.ofNat j)) = true := not_of (show (j : Int) ≤ 8 by omega)
    have a3 : notB (intLt (.ofNat n) 1) = true := not_of (show (1 : Int) ≤ (n : Int) by omega)
    have a4 : notB (intLt 7 (.ofNat n)) = true := not_of (show (n : Int) ≤ 7 by omega)
    have a5 : notB (intLt id 0) = true := not_of i1
    have a6 : notB (intLt (pred (.ofNat n)) id) = true := by rw [pred_eq h1 h7]; exact not_of i2
    have a7 : notB (intLt (pred (.ofNat n)) (-1)) = true := by rw [pred_eq h1 h7]; exact not_of (show (-1 : Int) ≤ ((n - 1 : Nat) : Int) by omega)
    refine condN_ok ?_ (NotedOk.cons (congrArg Value.bool (lt_no (drw_ok x j (by omega)))) (condN_ok ?_ (ih (j + 1) (by omega))))
    · simp only [List.all_cons, List.all_nil, a1, a2, a3, a4, a5, a6]
      rfl
    · simp only [List.all_cons, List.all_nil, a7]
      rfl
theorem law_ok (n g c d s k id dr : Int) : MemoOk Tryz.prog ⟨3, [cfg n g c d s k, i64 id, i64 dr], .bool true⟩ := by
  rcases conds_or (conds n g c d s k) with h | ⟨i, hi, hn⟩
  · have hc := h
    simp only [conds, List.all_cons, List.all_nil, _root_.id, Bool.and_eq_true, and_true] at hc
    obtain ⟨c1, c2, c3, c4, c5, c6, c7, c8, c9, c10, c11, c12⟩ := hc
    by_cases i1 : (0 : Int) ≤ id
    · obtain ⟨m, rfl, m1, m7⟩ := nat_of (lo := 1) (hi := 7) c1 c2
      have b1 : notB (intLt id 0) = true := not_of i1
      by_cases i2 : id ≤ ((m - 1 : Nat) : Int)
      · have b2 : notB (intLt (pred (.ofNat m)) id) = true := by rw [pred_eq m1 m7]; exact not_of i2
        have b3 : intLt id (.ofNat m) = true := lt_yes (show id < (m : Int) by omega)
        by_cases i3 : (0 : Int) ≤ dr
        · obtain ⟨x, rfl⟩ : ∃ x : Nat, dr = .ofNat x := ⟨dr.toNat, by show dr = (dr.toNat : Int); omega⟩
          obtain ⟨j, rfl, j1, j8⟩ := nat_of (lo := 1) (hi := 8) c3 c4
          have b4 : notB (intLt (.ofNat x) 0) = true := not_of i3
          have tail : NotedOk (condN (conds (.ofNat m) (.ofNat j) c d s k) (condN [notB (intLt id 0), intLt id (.ofNat m), notB (intLt (.ofNat x) 0)] secN)) :=
            condN_ok h (condN_ok (by simp only [List.all_cons, List.all_nil, b1, b3, b4]; rfl) secN_ok)
          refine memo_of_said CBok CCok rfl rfl (tp := goodT j) (good (.ofNat m) c d s k id (.ofNat x) j j1 j8) (revN_ok _ _ (condN_ok h (condN_ok ?_ ?_)) NotedOk.nil)
          · simp only [List.all_cons, List.all_nil, b1, b2]; rfl
          · exact NotedOk.cons (congrArg Value.bool (lt_no i3)) (NotedOk.cons (congrArg Value.bool (lt_no (by have := not_lt c9; omega))) (NotedOk.cons (congrArg Value.bool (lt_no (not_lt c10))) (groupN_ok m1 m7 i1 i2 tail (j + 1) 0 (by omega))))
        · have i3' : dr < 0 := by omega
          refine memo_of_said CBok CCok rfl rfl (tp := trs 12 (Tr :: Tr :: Tr :: trs 12 (Tr :: Tr :: F :: secT))) (drawLow (.ofNat m) g c d s k id dr) (revN_ok _ _ (condN_ok h ?_) NotedOk.nil)
          exact NotedOk.cons (congrArg Value.bool b1) (NotedOk.cons (congrArg Value.bool b2) (NotedOk.cons (congrArg Value.bool (lt_yes i3')) (condN_ok h (NotedOk.cons (congrArg Value.bool b1) (NotedOk.cons (congrArg Value.bool b3) (NotedOk.cons (congrArg Value.bool (not_ofF i3')) secN_ok))))))
      · have b2 : notB (intLt (pred (.ofNat m)) id) = false := by rw [pred_eq m1 m7]; exact not_ofF (show ((m - 1 : Nat) : Int) < id by omega)
        have b3 : intLt id (.ofNat m) = false := lt_no (show (m : Int) ≤ id by omega)
        refine memo_of_said CBok CCok rfl rfl (tp := trs 12 (Tr :: F :: trs 12 (Tr :: F :: secT))) (idHigh (.ofNat m) g c d s k id dr) (revN_ok _ _ (condN_ok h ?_) NotedOk.nil)
        exact NotedOk.cons (congrArg Value.bool b1) (NotedOk.cons (congrArg Value.bool b2) (condN_ok h (NotedOk.cons (congrArg Value.bool b1) (NotedOk.cons (congrArg Value.bool b3) secN_ok))))
    · have b1 : notB (intLt id 0) = false := not_ofF (by omega)
      refine memo_of_said CBok CCok rfl rfl (tp := trs 12 (F :: trs 12 (F :: secT))) (idLow n g c d s k id dr) (revN_ok _ _ (condN_ok h ?_) NotedOk.nil)
      exact NotedOk.cons (congrArg Value.bool b1) (condN_ok h (NotedOk.cons (congrArg Value.bool b1) secN_ok))
  · have hl : (conds n g c d s k).length = 12 := rfl
    exact memo_of_said CBok CCok rfl rfl (tp := trs i (F :: trs i (F :: secT))) (upTo_eq _ _ (bad n g c d s k id dr) i (Nat.zero_le _) (by omega)) (revN_ok _ _ (hn _ (hn _ secN_ok)) NotedOk.nil)
end Go.Proofs.YtdkomnkcemmdoaaGreatDoor.nodeConfigs
