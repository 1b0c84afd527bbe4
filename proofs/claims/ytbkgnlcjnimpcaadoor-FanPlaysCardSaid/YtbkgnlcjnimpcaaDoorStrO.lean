/- Texts: the digits of a number. -/
import Derived.Test.YtbkgnlcjnimpcaaDoorStrN
namespace Go.Proofs.YtbkgnlcjnimpcaaDoor.strs.ita
open Go Go.Ab Go.RowKit Go.Proofs.YtbkgnlcjnimpcaaDoor.strs
open Go.Proofs.YtbkgnlcjnimpcaaDoor.strs.dig (tblO u64 MT memoT' digits_ok ixu_ok)
open Go.Proofs.YtbkgnlcjnimpcaaDoor.strs.uin (NotedOk.app)
set_option maxRecDepth 100000
theorem w32_ok {n : Nat} (h : n < 4294967296) : w32 n = u32 n := by
  unfold w32 u32
  rw [wrapF_eq, wrap_u (show n < topOf .u32 from h)]
theorem w8_ok {n : Nat} (h : n < 256) : Value.int .u8 (wrapF .u8 (.ofNat n)) = b8 n := by
  rw [wrapF_eq, wrap_u (show n < topOf .u8 from h)]
  rfl
theorem w64_ok {n : Nat} (h : n < 4294967296) : Value.int .u64 (wrapF .u64 (.ofNat n)) = u64 n := by
  rw [wrapF_eq, wrap_u (show n < 18446744073709551616 by omega)]
  rfl
theorem u8n_of {n : Nat} (h : n < 256) : u8n (UInt8.ofNat n) = n := by
  rw [u8n_eq]
  exact UInt8.toNat_ofNat_of_lt' h
theorem tab_all : ∀ j : Fin 100, tab[j.1 * 2 + 1]? = some (UInt8.ofNat (48 + j.1 % 10)) ∧ tab[j.1 * 2]? = some (UInt8.ofNat (48 + j.1 / 10)) := by decide
theorem pN_ok {j : Nat} (h : j < 100) : NotedOk (pN j) := by
  obtain ⟨h1, h2⟩ := tab_all ⟨j, h⟩
  refine NotedOk.cons (w32_ok (by omega)) (NotedOk.cons ?_ (NotedOk.cons ?_ NotedOk.nil))
  · have := ixu_ok (k := .u32) h1
    rw [u8n_of (by omega)] at this
    exact this
  · have := ixu_ok (k := .u32) h2
    rw [u8n_of (by omega)] at this
    exact this
theorem divN_ok {x k : Nat} (h : x / k < 2000000000) : NotedOk (divN x k) := NotedOk.cons (w32_ok (by omega)) (NotedOk.cons (w32_ok (by omega)) NotedOk.nil)
theorem modN_ok {x k : Nat} (h : x % k < 2000000000) : NotedOk (modN x k) := NotedOk.cons rfl (NotedOk.cons (w32_ok (by omega)) NotedOk.nil)
theorem cN_ok {u : Nat} (h : u < 4294967296) : NotedOk (cN u) := NotedOk.cons (w32_ok h) NotedOk.nil
theorem oN_ok {u : Nat} (h : u < 10) : NotedOk (oN u) := NotedOk.cons (w32_ok (by omega)) (NotedOk.cons (w8_ok (by omega)) NotedOk.nil)
theorem tN_ok {u : Nat} (h : u < 4294967296) : NotedOk (tN u) := NotedOk.app (NotedOk.app (modN_ok (by omega)) (NotedOk.cons (w32_ok (by omega)) NotedOk.nil)) (pN_ok (by omega))
theorem fN_ok {u : Nat} (h : u < 4294967296) : NotedOk (fN u) := by
  refine NotedOk.app (NotedOk.app (NotedOk.app (NotedOk.app (NotedOk.cons rfl (NotedOk.cons (w32_ok (by omega)) NotedOk.nil)) (divN_ok ?_)) (modN_ok ?_)) (pN_ok ?_)) (pN_ok ?_)
  all_goals omega
theorem eN_ok {u : Nat} (h : u < 4294967296) : NotedOk (eN u) := by
  unfold eN
  refine NotedOk.app (NotedOk.app (NotedOk.app (NotedOk.app (NotedOk.app (NotedOk.app (NotedOk.app (NotedOk.app (NotedOk.cons rfl (NotedOk.cons (w32_ok ?_) (NotedOk.cons (w64_ok ?_) (NotedOk.cons (w32_ok ?_) (NotedOk.cons rfl NotedOk.nil))))) (divN_ok ?_)) (modN_ok ?_)) (divN_ok ?_)) (modN_ok ?_)) (pN_ok ?_)) (pN_ok ?_)) (pN_ok ?_)) (pN_ok ?_)
  all_goals omega
theorem midN_ok {n k : Nat} (h : n < 4294967296) (hk : 3 ≤ k ∧ k ≤ 10) (h2 : n < 10 ^ k) : NotedOk (midN n k) := by
  obtain rfl | rfl | rfl | rfl | rfl | rfl | rfl | rfl : k = 3 ∨ k = 4 ∨ k = 5 ∨ k = 6 ∨ k = 7 ∨ k = 8 ∨ k = 9 ∨ k = 10 := by omega
  · exact NotedOk.app (NotedOk.app (cN_ok h) (tN_ok h)) (oN_ok (by omega))
  · exact NotedOk.app (cN_ok h) (fN_ok h)
  · exact NotedOk.app (NotedOk.app (cN_ok h) (fN_ok h)) (oN_ok (by omega))
  · exact NotedOk.app (NotedOk.app (cN_ok h) (fN_ok h)) (tN_ok (by omega))
  · exact NotedOk.app (NotedOk.app (NotedOk.app (cN_ok h) (fN_ok h)) (tN_ok (by omega))) (oN_ok (by omega))
  · exact NotedOk.app (eN_ok h) (cN_ok (by omega))
  · exact NotedOk.app (NotedOk.app (eN_ok h) (cN_ok (by omega))) (oN_ok (by omega))
  · exact NotedOk.app (NotedOk.app (eN_ok h) (cN_ok (by omega))) (tN_ok (by omega))
/-! ### What the digits are -/
def valL (l : List UInt8) : Nat := l.foldl (fun a x => a * 10 + (u8n x - 48)) 0
theorem val_acc : ∀ (l : List UInt8) (a : Nat), l.foldl (fun a x => a * 10 + (u8n x - 48)) a = a * 10 ^ l.length + valL l := by
  intro l
  induction l with
  | nil => intro a; simp [valL]
  | cons x l ih =>
    intro a
    unfold valL
    rw [List.foldl_cons, List.foldl_cons, ih, ih (0 * 10 + (u8n x - 48)), List.length_cons, Nat.pow_succ]
    rw [Nat.add_mul, Nat.zero_mul, Nat.zero_add, Nat.add_assoc, Nat.mul_assoc, Nat.mul_comm 10]
theorem val_app (a b : List UInt8) : valL (a ++ b) = valL a * 10 ^ b.length + valL b := by
  show (a ++ b).foldl _ 0 = _
  rw [List.foldl_append, val_acc]
  rfl
def IsDig (l : List UInt8) : Prop := ∀ x ∈ l, 48 ≤ u8n x ∧ u8n x ≤ 57
theorem dig_app {a b : List UInt8} (ha : IsDig a) (hb : IsDig b) : IsDig (a ++ b) := fun x hx => (List.mem_append.1 hx).elim (ha x) (hb x)
theorem one_ok {d : Nat} (h : d < 10) : IsDig (one d) ∧ valL (one d) = d := by
  refine ⟨fun x hx => ?_, ?_⟩
  · rw [List.mem_singleton.1 hx, u8n_of (by omega)]; omega
  · show 0 * 10 + (u8n (UInt8.ofNat (48 + d)) - 48) = d
    rw [u8n_of (by omega)]; omega
theorem two_eq (j : Nat) : two j = one (j / 10) ++ one (j % 10) := rfl
theorem two_ok {j : Nat} (h : j < 100) : IsDig (two j) ∧ valL (two j) = j := by
  obtain ⟨a1, a2⟩ := one_ok (show j / 10 < 10 by omega)
  obtain ⟨b1, b2⟩ := one_ok (show j % 10 < 10 by omega)
  rw [two_eq]
  refine ⟨dig_app a1 b1, ?_⟩
  rw [val_app, a2, b2]
  show j / 10 * 10 ^ 1 + j % 10 = j
  omega
theorem four_ok {x : Nat} (h : x < 10000) : IsDig (four x) ∧ valL (four x) = x := by
  obtain ⟨a1, a2⟩ := two_ok (show x / 100 < 100 by omega)
  obtain ⟨b1, b2⟩ := two_ok (show x % 100 < 100 by omega)
  refine ⟨dig_app a1 b1, ?_⟩
  unfold four
  rw [val_app, a2, b2]
  show x / 100 * 10 ^ 2 + x % 100 = x
  omega
theorem eight_ok {x : Nat} (h : x < 100000000) : IsDig (eight x) ∧ valL (eight x) = x := by
  obtain ⟨a1, a2⟩ := four_ok (show x / 10000 < 10000 by omega)
  obtain ⟨b1, b2⟩ := four_ok (show x % 10000 < 10000 by omega)
  refine ⟨dig_app a1 b1, ?_⟩
  unfold eight
  rw [val_app, a2, b2]
  show x / 10000 * 10 ^ 4 + x % 10000 = x
  omega
structure DecOk (n : Nat) (t : List UInt8) : Prop where
  dig : IsDig t
  pos : 1 ≤ t.length
  len : t.length ≤ 10
  val : valL t = n
theorem digs_ok {n k : Nat} (hk : 3 ≤ k ∧ k ≤ 10) (h2 : n < 10 ^ k) : DecOk n (digs n k) := by
  obtain rfl | rfl | rfl | rfl | rfl | rfl | rfl | rfl : k = 3 ∨ k = 4 ∨ k = 5 ∨ k = 6 ∨ k = 7 ∨ k = 8 ∨ k = 9 ∨ k = 10 := by omega
  · obtain ⟨a1, a2⟩ := one_ok (show n / 100 < 10 by omega)
    obtain ⟨b1, b2⟩ := two_ok (show n % 100 < 100 by omega)
    refine ⟨dig_app a1 b1, (show 1 ≤ 3 from by decide), (show 3 ≤ 10 from by decide), ?_⟩
    show valL (one (n / 100) ++ two (n % 100)) = n
    rw [val_app, a2, b2]
    show n / 100 * 10 ^ 2 + n % 100 = n
    omega
  · obtain ⟨b1, b2⟩ := four_ok (show n % 10000 < 10000 by omega)
    refine ⟨b1, (show 1 ≤ 4 from by decide), (show 4 ≤ 10 from by decide), ?_⟩
    show valL (four (n % 10000)) = n
    rw [b2]
    omega
  · obtain ⟨a1, a2⟩ := one_ok (show n / 10000 < 10 by omega)
    obtain ⟨b1, b2⟩ := four_ok (show n % 10000 < 10000 by omega)
    refine ⟨dig_app a1 b1, (show 1 ≤ 5 from by decide), (show 5 ≤ 10 from by decide), ?_⟩
    show valL (one (n / 10000) ++ four (n % 10000)) = n
    rw [val_app, a2, b2]
    show n / 10000 * 10 ^ 4 + n % 10000 = n
    omega
  · obtain ⟨a1, a2⟩ := two_ok (show n / 10000 % 100 < 100 by omega)
    obtain ⟨b1, b2⟩ := four_ok (show n % 10000 < 10000 by omega)
    refine ⟨dig_app a1 b1, (show 1 ≤ 6 from by decide), (show 6 ≤ 10 from by decide), ?_⟩
    show valL (two (n / 10000 % 100) ++ four (n % 10000)) = n
    rw [val_app, a2, b2]
    show n / 10000 % 100 * 10 ^ 4 + n % 10000 = n
    omega
  · obtain ⟨a1, a2⟩ := one_ok (show n / 10000 / 100 < 10 by omega)
    obtain ⟨c1, c2⟩ := two_ok (show n / 10000 % 100 < 100 by omega)
    obtain ⟨b1, b2⟩ := four_ok (show n % 10000 < 10000 by omega)
    refine ⟨dig_app (dig_app a1 c1) b1, (show 1 ≤ 7 from by decide), (show 7 ≤ 10 from by decide), ?_⟩
    show valL (one (n / 10000 / 100) ++ two (n / 10000 % 100) ++ four (n % 10000)) = n
    rw [val_app, val_app, a2, b2, c2]
    show (n / 10000 / 100 * 10 ^ 2 + n / 10000 % 100) * 10 ^ 4 + n % 10000 = n
    omega
  · obtain ⟨b1, b2⟩ := eight_ok (show n % 100000000 < 100000000 by omega)
    refine ⟨b1, (show 1 ≤ 8 from by decide), (show 8 ≤ 10 from by decide), ?_⟩
    show valL (eight (n % 100000000)) = n
    rw [b2]
    omega
  · obtain ⟨a1, a2⟩ := one_ok (show n / 100000000 < 10 by omega)
    obtain ⟨b1, b2⟩ := eight_ok (show n % 100000000 < 100000000 by omega)
    refine ⟨dig_app a1 b1, (show 1 ≤ 9 from by decide), (show 9 ≤ 10 from by decide), ?_⟩
    show valL (one (n / 100000000) ++ eight (n % 100000000)) = n
    rw [val_app, a2, b2]
    show n / 100000000 * 10 ^ 8 + n % 100000000 = n
    omega
  · obtain ⟨a1, a2⟩ := two_ok (show n / 100000000 % 100 < 100 by omega)
    obtain ⟨b1, b2⟩ := eight_ok (show n % 100000000 < 100000000 by omega)
    refine ⟨dig_app a1 b1, (show 1 ≤ 10 from by decide), (show 10 ≤ 10 from by decide), ?_⟩
    show valL (two (n / 100000000 % 100) ++ eight (n % 100000000)) = n
    rw [val_app, a2, b2]
    show n / 100000000 % 100 * 10 ^ 8 + n % 100000000 = n
    omega
/-! ### Itoa -/
def low (n : Nat) : List UInt8 := match Nat.blt n 10 with | true => one n | false => two n
theorem runs0 : (List.range 100).map (fun n => saidOf ((CCk noneK mk 55).un [e24 n, e24 10].toArray dig.hp [Tr, Tr] [])) = (List.range 100).map (fun n => some (str (low n), revN [pr Tr Tr, pr Tr Tr] [])) := by kernel_rfl
theorem low_ok {n : Nat} (h : n < 100) : DecOk n (low n) := by
  unfold low
  by_cases h2 : n < 10
  · rw [blt_t h2]
    obtain ⟨a1, a2⟩ := one_ok h2
    exact ⟨a1, by show 1 ≤ 1; omega, by show 1 ≤ 10; omega, a2⟩
  · rw [blt_f (by omega)]
    obtain ⟨a1, a2⟩ := two_ok h
    exact ⟨a1, by show 1 ≤ 2; omega, by show 2 ≤ 10; omega, a2⟩
theorem format_ok {n : Nat} (h : n < 4294967296) : ∃ t, DecOk n t ∧ MT ⟨55, [e24 n, e24 10], str t⟩ := by
  by_cases h1 : n < 100
  · exact ⟨low n, low_ok h1, memoT' (kn := noneK) (mk := mk) noneK_sound rfl rfl (map_mem runs0 n (List.mem_range.2 h1)) (revN_ok _ _ (NotedOk.cons rfl (NotedOk.cons rfl NotedOk.nil)) NotedOk.nil)⟩
  · obtain ⟨k, hk, k1, k2, k3, k4, _⟩ := nd_ok (u := n) (by omega) (by omega)
    have hk3 : 3 ≤ k := by
      rcases Nat.lt_or_ge k 3 with q | q
      · have : 10 ^ k ≤ 10 ^ 2 := Nat.pow_le_pow_right (by omega) (by omega)
        omega
      · exact q
    have hm : k ∈ ks := by
      obtain rfl | rfl | rfl | rfl | rfl | rfl | rfl | rfl : k = 3 ∨ k = 4 ∨ k = 5 ∨ k = 6 ∨ k = 7 ∨ k = 8 ∨ k = 9 ∨ k = 10 := by omega
      all_goals simp [ks]
    have hneg : pr (.bool (intLt (.ofNat n) 0)) F := congrArg Value.bool (lt_no (b := 0) (Nat.zero_le _))
    have hhead : NotedOk (headN n k) := by
      refine NotedOk.cons ?_ (NotedOk.cons (congrArg Value.bool (lt_no (b := 100) (by omega))) (NotedOk.cons (w64_ok (by omega)) (NotedOk.cons hneg (NotedOk.cons (is66_ok hk) NotedOk.nil))))
      show Value.bool (notB (intLt (.ofNat n) (.ofNat 0))) = _
      rw [lt_no (Nat.zero_le _)]; rfl
    exact ⟨digs n k, digs_ok ⟨hk3, k2⟩ k4, memoT' (kn := kn66) (mk := mk) kn66ok rfl rfl (map_mem (runs n) k hm) (revN_ok _ _ (NotedOk.app (NotedOk.app hhead (midN_ok (by omega) ⟨hk3, k2⟩ k4)) (NotedOk.cons hneg NotedOk.nil)) NotedOk.nil)⟩
end Go.Proofs.YtbkgnlcjnimpcaaDoor.strs.ita
