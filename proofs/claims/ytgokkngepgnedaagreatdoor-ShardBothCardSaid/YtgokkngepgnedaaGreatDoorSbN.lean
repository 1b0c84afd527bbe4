/- ShardBoth: the lists of what is looked at. -/
import Derived.Test.YtgokkngepgnedaaGreatDoorSbM
import Derived.Test.YtgokkngepgnedaaGreatDoorSbL
namespace Go.Proofs.YtgokkngepgnedaaGreatDoor.shardBoth
open Go Go.Ab Go.RowKit
set_option maxRecDepth 100000
theorem rd_ok {n l j : Nat} {a : Prop} (h : j < n) (h2 : n ≤ 31) (h3 : l < j + 3) (ha : a) : NotedOk (rdN n l j a) :=
  (NotedOk.cons (lt_ok (by show (j : Int) < (n : Int); omega)) (two (congrArg i64 (show wrapF .i64 (Int.add (.ofNat 3) (.ofNat j)) = .ofNat (j + 3) by
    show wrapF .i64 (.ofNat (3 + j)) = _
    rw [wbig (by omega), Nat.add_comm])) (m6_ok in4c (.ofNat (j + 3))))).append (op_ok (ab_ok in4c _) h3 (by omega) (post_ok (by omega) ha)) |>.append (one (inc_ok (by omega)))
theorem begins_ok {po : Int} {n : Nat} (h : bandF po 31 = .ofNat n) : NotedOk [ab (cOp 2 oJoin 6), MemoOk Tryz.prog ⟨6, [i64 2, .agg ⟨oJoin⟩], cOp 2 oJoin 6⟩, ab (cOp 1 oMake 6), MemoOk Tryz.prog ⟨6, [i64 1, .agg ⟨oMake⟩], cOp 1 oMake 6⟩, pr (i64 (bandF po 31)) (e24 n)] :=
  NotedOk.cons (ab_ok in4b 2) (NotedOk.cons (m6_ok in4b 2) (NotedOk.cons (ab_ok in4a 1) (two (m6_ok in4a 1) (congrArg i64 h))))
theorem appN_ok {len n k size : Nat} (h : n + k ≤ 1073741824) (h2 : n * size = len) : appN len n k size := ⟨by rw [Nat.ble_eq]; exact h, by rw [Nat.beq_eq]; exact h2⟩
theorem lock_ok {x m s : Nat} (hx : x < 16) (hm : m + 1 ≤ 31) (hs : Slot x s) : NotedOk (lockN x m s (enc (m + 1))) := by
  have h := mi_lock hx hs
  have hl := enc_len hm
  refine ((NotedOk.cons (ab_lock hx hs) (NotedOk.cons h.1 (two h.2 h.1))).append ?_).append (one rfl)
  unfold is6
  cases Nat.beq s 6 with
  | true => exact two ⟨rfl, rfl, rfl, rfl, by omega, hm⟩ (cat_ok (a := [99]) (by simp only [List.length_cons, List.length_nil]; omega))
  | false => exact NotedOk.nil
theorem cat_l {d : List UInt8} (h : d.length < 1000) : catP [] (99 :: d) (99 :: d) := cat_ok (a := []) (by simp only [List.length_cons, List.length_nil]; omega)
theorem cat_r {d : List UInt8} (h : d.length < 1000) : catP (99 :: d) [] (99 :: d) := by
  have := cat_ok (a := 99 :: d) (b := []) (by simp only [List.length_cons, List.length_nil]; omega)
  rwa [List.append_nil] at this
theorem locks_ok {x m : Nat} (hx : x < 16) (hm : m + 1 ≤ 31) : NotedOk (locksN x m (enc (m + 1))) := by
  have h6 := lock_ok (s := 6) hx hm (.inl rfl)
  have hs := lock_ok (s := slT x) hx hm (.inr rfl)
  have hl := enc_len hm
  unfold locksN
  split
  · exact ((hs.append (one (cat_ok (a := []) (b := []) (by decide)))).append h6).append (one (cat_l hl))
  · exact ((h6.append (one (cat_l hl))).append hs).append (one (cat_r hl))
  · exact h6.append (one (cat_l hl))
theorem fin_ok {x s m : Nat} (hx : x < 16) (hm : m + 1 ≤ 31) (hs : Slot x s) (ok : Bool) : NotedOk (finN x s ok (m + 1) (enc (m + 1))) := by
  unfold finN
  cases ok with
  | false => exact two (ab_fin hx hs _ _) rfl
  | true =>
    have h := mi_fin hx hs true (99 :: enc (m + 1))
    refine ((two (ab_fin hx hs _ _) h.2).append ?_).append (two h.1 rfl)
    split
    · exact two (m44 hm) ⟨rfl, rfl, by omega, hm⟩
    · exact NotedOk.nil
theorem fins_ok {x m : Nat} (hx : x < 16) (hm : m + 1 ≤ 31) (ok : Bool) : NotedOk (finsN x ok (m + 1) (enc (m + 1))) := by
  have h6 := fin_ok (s := 6) hx hm (.inl rfl) ok
  have hs := fin_ok (s := slT x) hx hm (.inr rfl) ok
  unfold finsN
  split
  · exact hs.append h6
  · exact h6.append hs
  · exact h6
theorem read_ok (b : Nat) {n : Nat} (hn : n ≤ 31) : NotedOk (readW b n) := by
  have e : (.ofNat n : Int) = (n : Int) := rfl
  refine NotedOk.cons (min_ok (by omega)) (NotedOk.cons rfl (NotedOk.cons (add_ok (by omega)) (NotedOk.cons (min_ok (by rw [e]; omega)) (NotedOk.cons ⟨rfl, ⟨fun _ h => (by cases h), ?_⟩⟩ (NotedOk.cons rfl (two (add_ok (by omega)) (by rw [Nat.ble_eq]; exact Nat.le_refl _)))))))
  have e2 : sliceA Tryz.prog 26 (.slice (some ⟨b, 0, none⟩) n OPEN) (some (e24 n)) (some (e24 n)) none = if Nat.ble n n && Nat.ble n n && Nat.blt HALF (OPEN - n) then some (.slice (some ((⟨b, 0, none⟩ : Addr).add (n * 2))) (n - n) (OPEN - n)) else none := by kernel_rfl
  have e3 : ∀ k, (⟨b, 0, none⟩ : Addr).add k = ⟨b, k, none⟩ := by
    intro k
    unfold Addr.add
    split
    · rename_i h; rw [h]
    · simp
  rw [e2, show Nat.ble n n = true by rw [Nat.ble_eq]; exact Nat.le_refl _, show Nat.blt HALF (OPEN - n) = true by rw [Nat.blt_eq]; unfold HALF OPEN; omega, Nat.sub_self, e3]
  rfl
theorem lastA_le (x : Nat) : lastA x < 101 := by unfold lastA; split <;> omega
theorem same_ok (n : Nat) : sameP n := congrArg Value.bool (show Nat.beq n n = true from Nat.beq_refl n)
theorem no_ok {x m : Nat} {to : Int} (ht : bandF to 15 = .ofNat x) (hx : x < 16) (hm : m + 1 ≤ 31) : NotedOk (noN x m to (enc (m + 1))) :=
  (((((((one (congrArg i64 ht)).append (locks_ok hx hm)).append (fins_ok hx hm false)).append (one (m6_ok in4d 100))).append (opR_ok (ab_ok in4d 100) (by omega) (by omega) (read_ok 142 hm))).append (one (m6_away hx 101))).append (op_ok (ab_away hx 101) (lastA_le x) (by omega) NotedOk.nil)).append (one (same_ok (m + 1)))
theorem lastA_le2 (x : Nat) : lastA x ≤ 100 := by unfold lastA; split <;> omega
theorem ok_ok (b : Nat) {x m : Nat} {to : Int} (ht : bandF to 15 = .ofNat x) (hx : x < 16) (hm : m + 1 ≤ 31) : NotedOk (okN b x m to (enc (m + 1))) :=
  (((((((((one (congrArg i64 ht)).append (locks_ok hx hm)).append (fins_ok hx hm true)).append (one (m6_ok in4d 100))).append (op_ok (ab_ok in4d 100) (by omega) (by omega) NotedOk.nil)).append (one (m6_away hx 101))).append (opR_ok (ab_away hx 101) (lastA_le x) (by omega) (read_ok b hm))).append (one (m6_new hx 102))).append (op_ok (ab_new hx 102) (by omega) (by omega) (post_ok (by omega) (appN_ok (by omega) rfl)))).append (two (same_ok (m + 1)) (same_ok (m + 1)))
/-! ### Where nothing was posted -/
theorem zlock_ok {x s : Nat} (hx : x < 16) (hs : Slot x s) : NotedOk (zlockN x s) := by
  have h := mi_lock hx hs
  exact NotedOk.cons (ab_lock hx hs) (NotedOk.cons h.1 (two h.2 h.1))
theorem zfin_ok {x s : Nat} (hx : x < 16) (hs : Slot x s) (ok : Bool) : NotedOk (zfinN x s ok) := by
  unfold zfinN
  cases ok with
  | false => exact one (ab_fin hx hs _ _)
  | true =>
    have h := mi_fin hx hs true (99 :: enc 0)
    refine ((two (ab_fin hx hs _ _) h.2).append ?_).append (one h.1)
    split
    · exact one (m44 (by omega))
    · exact NotedOk.nil
theorem zboth_ok {x : Nat} {f : Nat → Noted} (h : ∀ s, Slot x s → NotedOk (f s)) : NotedOk (zboth x f) := by
  have h6 := h 6 (.inl rfl)
  have hs := h (slT x) (.inr rfl)
  unfold zboth
  split
  · exact hs.append h6
  · exact h6.append hs
  · exact h6
theorem z_ok {x : Nat} {to : Int} (ht : bandF to 15 = .ofNat x) (hx : x < 16) (ok : Bool) : NotedOk (zN x ok to) := by
  refine ((((one (congrArg i64 ht)).append (zboth_ok fun s hs => zlock_ok hx hs)).append (zboth_ok fun s hs => zfin_ok hx hs ok)).append (NotedOk.cons (m6_ok in4d 100) (NotedOk.cons (ab_ok in4d 100) (two (m6_away hx 101) (ab_away hx 101))))).append ?_
  cases ok with
  | true => exact two (m6_new hx 102) (ab_new hx 102)
  | false => exact NotedOk.nil
end Go.Proofs.YtgokkngepgnedaaGreatDoor.shardBoth
