/- FanPages: what its rounds note is so. -/
import Derived.Test.YtbkgnlcjnimpcaaDoorAbV
import Derived.Test.YtbkgnlcjnimpcaaDoorFanPagesC
import Derived.WalkKit
namespace Go.Proofs.YtbkgnlcjnimpcaaDoor.fanPages
open Go Go.Ab Go.RowKit
set_option maxRecDepth 100000

/-! ### The second loop where nothing was posted -/
theorem sz0_nil (i : Nat) (j0 jt : Nat → Value) (jh : Nat → Nat → Value) : (fun y => (isN (hd (sizesV .nil) (roO .nil) 0 0 i j0), y.ok, y.lg, canonS (shOf true keepM y.s) 8 y.s jt jh)) (sz .nil 0 0 i [] j0) = (some (hdN i), true, [], some (SM (sizesV .nil) (roO .nil) 0 0 i 0 jt)) := by kernel_rfl
theorem sz0_empty (c i : Nat) (j0 jt : Nat → Value) (jh : Nat → Nat → Value) : (fun y => (isN (hd (sizesV (.empty c)) (roO (.empty c)) 0 0 i j0), y.ok, y.lg, canonS (shOf true keepM y.s) 8 y.s jt jh)) (sz (.empty c) 0 0 i [] j0) = (some (hdN i), true, [], some (SM (sizesV (.empty c)) (roO (.empty c)) 0 0 i 0 jt)) := by kernel_rfl
theorem sz0_some (s c : Nat) (f : Nat → Value) (i r k : Nat) (z : Int) (j0 jt : Nat → Value) (jh : Nat → Nat → Value) : (fun y => (isN (hd (sizesV (.some s c f)) (roO (.some s c f)) 0 0 i j0), y.ok, y.lg, canonS (shOf true keepM y.s) 8 y.s jt jh)) (sz (.some s c f) 0 0 i (sizeT r k z) j0) =
  (some (hdN i), true, revN (sizeN s c f i r k z) [], some (SM (sizesV (.some s c f)) (roO (.some s c f)) 0 0 i k jt)) := by kernel_rfl
noncomputable def rndN0 (k : Nat) : Noted :=
  [minK k, pr (.bool (intLt 64 (.ofNat (k + 1)))) F, pr Tr Tr, pr (.bool (notB (intLt 64 (.ofNat (k + 1))))) Tr, pr (e24 0) (e24 0), pr Tr Tr, pr F F, (((veq 8 (replyV 0 0) (replyV 0 0) && true) && true) = true),
  pr (.bool (notB (andB (intEq (.ofNat (k + 1)) (.ofNat (k + 1))) true))) F, pr F F, pr (.bool (intLt 64 (.ofNat (k + 1)))) F, pr Tr Tr, pr Tr Tr, pr F F, pr (e24 0) (e24 0), pr (e24 0) (e24 0), minK k,
  pr (e24 0) (e24 0), pr (e24 0) (e24 0)]
theorem rnd0 (VV : Value) (OO : AObj) (i k : Nat) (j0 jt : Nat → Value) (jh : Nat → Nat → Value) : (fun r => (isN (rnd VV OO 0 0 i k 0 false j0), isN r, canonS (shOf true keepB (stOf r)) 8 (stOf r) jt jh)) (inc2 VV OO 0 0 i k 0 false j0) =
  (some (revN (rndN0 k) []), some (incN i), some (SB VV OO 0 0 (i + 1) jt)) := by kernel_rfl
/-! ### Numbers -/
theorem wsmall {n : Nat} (h : n < 1000) : wrapF .i64 (.ofNat n) = .ofNat n := by
  rw [wrapF_eq]
  exact wrap_u (show n < 9223372036854775808 by omega)
theorem wadd (a b : Nat) (h : a + b < 1000) : wrapF .i64 (Int.add (.ofNat a) (.ofNat b)) = .ofNat (a + b) := wsmall h
theorem wsub (a b : Nat) (h : b ≤ a) (h2 : a < 1000) : wrapF .i64 (Int.sub (.ofNat a) (.ofNat b)) = .ofNat (a - b) := by
  have : Int.sub (.ofNat a) (.ofNat b) = .ofNat (a - b) := by
    show ((a : Int) - (b : Int)) = ((a - b : Nat) : Int)
    omega
  rw [this]
  exact wsmall (by omega)
theorem lt_yes {a b : Nat} (h : a < b) : intLt (.ofNat a) (.ofNat b) = true := by
  show Nat.blt a b = true
  rw [Nat.blt_eq]; exact h
theorem lt_no {a b : Nat} (h : b ≤ a) : intLt (.ofNat a) (.ofNat b) = false := by
  show Nat.blt a b = false
  rw [Bool.eq_false_iff]
  intro q
  rw [Nat.blt_eq] at q
  omega
theorem not_lt {a b : Nat} (h : b ≤ a) : notB (intLt (.ofNat a) (.ofNat b)) = true := by rw [lt_no h]; rfl
theorem eq_yes (a : Nat) : intEq (.ofNat a) (.ofNat a) = true := Nat.beq_refl a
theorem ite_min {x y m : Nat} (h : m = min y x) : (if (.ofNat y : Int) < .ofNat x then (.ofNat y : Int) else .ofNat x) = .ofNat m := by
  split
  · rename_i q
    have : (y : Int) < (x : Int) := q
    show (y : Int) = (m : Int)
    omega
  · rename_i q
    have : ¬ (y : Int) < (x : Int) := q
    show (x : Int) = (m : Int)
    omega
theorem minK_ok {k : Nat} (h : k ≤ 63) : minK k := congrArg i64 (ite_min (y := 64) (x := k + 1) (by omega))

/-! ### Facts of rows -/
theorem und22 : Tryd.prog.underlying 22 = some (.slice 3) := by kernel_rfl
theorem und28 : Tryd.prog.underlying 28 = some (.slice 48) := by kernel_rfl
theorem und3 : Tryd.prog.underlying 3 = some (.int .i64) := by kernel_rfl
theorem agg48 : (Tryd.prog.underlying 48).map isAggD = some true := by kernel_rfl
theorem size48 : (Tryd.prog.info? 48).map (·.size) = some 2 := by kernel_rfl
theorem size3 : (Tryd.prog.info? 3).map (·.size) = some 1 := by kernel_rfl
theorem cells3 : Tryd.prog.cellsOf 3 = 1 := by kernel_rfl
theorem leaves3 : leavesK Tryd.prog 30 3 = some [.i .i64] := by kernel_rfl
theorem size_of {t : TypeId} {n : Nat} (h : (Tryd.prog.info? t).map (·.size) = some n) : ∃ i, Tryd.prog.info? t = some i ∧ i.size = n := by
  cases hi : Tryd.prog.info? t with
  | none => rw [hi] at h; cases h
  | some i => rw [hi] at h; exact ⟨i, rfl, Option.some.inj h⟩
theorem at_posts {n i : Nat} (h : i < n + 1) : (iaB Tryd.prog 28).un (postsV (n + 1)) (e24 i) = some (ptrP i) := by
  obtain ⟨ei, hi, hs⟩ := size_of size48
  have := ix_slice (P := Tryd.prog) (b := 11) (o := 0) (n := n + 1) (c := openN) (k := .i64) und28 hi h
  rw [hs] at this
  exact this
theorem at_sizes {s c i : Nat} {f : Nat → Value} (h : i < s + 1) : (iaB Tryd.prog 22).un (sizesV (.some s c f)) (e24 i) = some (ptr16 i) := by
  obtain ⟨ei, hi, hs⟩ := size_of size3
  have := ix_slice (P := Tryd.prog) (b := 16) (o := 0) (n := s + 1) (c := c) (k := .i64) und22 hi h
  rw [hs] at this
  exact this
theorem ldO_agg {P : Program} {t : TypeId} {d : TypeDesc} {i : TypeInfo} {o N : Nat} {f : Nat → Value} {e : TypeId} (hd : P.underlying t = some d) (hi : P.info? t = some i) (hag : isAggD d = true) (hle : o + i.size ≤ N) :
    (ldO P t).un (.cells (rowFn f N) e) o = some (.agg ⟨(List.range i.size).map fun j => f (o + j)⟩) := by
  unfold ldO
  rw [hd, hi]
  dsimp only
  rw [hag]
  show (match Nat.ble (Nat.add o i.size) N with | true => some (Value.agg ⟨partB i.size (treeF f N 0 .leaf) o⟩) | false => none) = _
  rw [show Nat.ble (Nat.add o i.size) N = true by rw [Nat.ble_eq]; exact hle]
  dsimp only
  rw [show partB i.size (treeF f N 0 .leaf) o = Row.part (rowFn f N) o i.size from partB_eq (rowFn f N) i.size o, part_treeF f N _ _ hle]
theorem ldO_one {P : Program} {t : TypeId} {d : TypeDesc} {i : TypeInfo} {o N : Nat} {f : Nat → Value} {e : TypeId} (hd : P.underlying t = some d) (hi : P.info? t = some i) (hag : isAggD d = false) (hle : o < N) :
    (ldO P t).un (.ro (rowFn f N) e) o = some (f o) := by
  unfold ldO
  rw [hd, hi]
  dsimp only
  rw [hag]
  show rowGet (rowFn f N) o = _
  rw [rowGet_eq, rowFn_get? f N o hle]
theorem fP_even (i : Nat) : fP (i * 2) = ann := by
  unfold fP
  rw [show i * 2 % 2 = 0 by omega]
theorem fP_odd (i : Nat) : fP (i * 2 + 1) = str [txt i] := by
  unfold fP
  rw [show (i * 2 + 1) % 2 = 1 by omega, show (i * 2 + 1) / 2 = i by omega]
theorem fP_flat (j : Nat) : vflat 8 (fP j) = true := by
  unfold fP
  split <;> rfl
theorem post_at {n i : Nat} (h : i < n + 1) : (ldO Tryd.prog 48).un (postsO (n + 1)) (Nat.add 0 (Nat.mul i 2)) = some (postV i) := by
  obtain ⟨ei, hi, hs⟩ := size_of size48
  cases hd : Tryd.prog.underlying 48 with
  | none => have := agg48; rw [hd] at this; cases this
  | some d =>
    have hag : isAggD d = true := by
      have := agg48
      rw [hd] at this
      exact Option.some.inj this
    have e0 : Nat.add 0 (Nat.mul i 2) = i * 2 := Nat.zero_add _
    have := ldO_agg (P := Tryd.prog) (o := i * 2) (N := (n + 1) * 2) (f := fP) (e := 48) hd hi hag (by rw [hs]; omega)
    rw [hs] at this
    rw [e0]
    refine this.trans ?_
    show some (Value.agg ⟨[fP (i * 2), fP (i * 2 + 1)]⟩) = _
    rw [fP_even, fP_odd]
    rfl

/-! ### What is noted is so -/
theorem hdN_ok {i : Nat} (h : i < 70) : NotedOk (hdN i) := NotedOk.cons (congrArg Value.bool (lt_yes (b := 70) h)) NotedOk.nil
theorem incN_ok {i : Nat} (h : i < 70) : NotedOk (incN i) := NotedOk.cons (congrArg i64 (wadd i 1 (by omega))) NotedOk.nil
theorem sizeN_ok {s c i k : Nat} {f : Nat → Value} {z : Int} (hz : f (i % (s + 1)) = i64 z) (hk : bandF z 63 = .ofNat k) (h : k ≤ 63) : NotedOk (sizeN s c f i (i % (s + 1)) k z) := by
  have hr : i % (s + 1) < s + 1 := Nat.mod_lt _ (Nat.succ_pos _)
  refine NotedOk.cons rfl (NotedOk.cons (at_sizes hr) (NotedOk.cons ?_ (NotedOk.cons ?_ NotedOk.nil)))
  · obtain ⟨ei, hi, _⟩ := size_of size3
    have e0 : Nat.add 0 (Nat.mul (i % (s + 1)) 1) = i % (s + 1) := by
      show 0 + i % (s + 1) * 1 = _
      omega
    rw [e0, ← hz]
    exact ldO_one und3 hi rfl (by omega)
  · show i64 (wrapF .i64 (Int.add 1 (bandF z 63))) = _
    rw [hk]
    refine congrArg i64 ((wadd 1 k (by omega)).trans ?_)
    rw [Nat.add_comm]
theorem within_ok {n k a c : Nat} (hn : a + c ≤ n + 1) (hk : c ≤ k + 1) (h63 : n + 1 ≤ 63) : ∀ (m j : Nat) (t : Noted), j + m = c → NotedOk t → NotedOk (withinN n k a m j t) := by
  intro m
  induction m with
  | zero => intro j t _ ht; exact ht
  | succ m ih =>
    intro j t hj ht
    exact NotedOk.cons (congrArg Value.bool (lt_yes (by omega))) (NotedOk.cons (congrArg Value.bool (lt_yes (by omega))) (NotedOk.cons (at_posts (by omega)) (NotedOk.cons (post_at (by omega)) (NotedOk.cons (congrArg i64 (wadd (a + j) 1 (by omega))) (ih (j + 1) t (by omega) ht)))))
theorem take_ok {a c : Nat} (h : a + c ≤ 63) : ∀ (m j : Nat) (t : Noted), j + m = c → NotedOk t → NotedOk (takeN a m j t) := by
  intro m
  induction m with
  | zero => intro j t _ ht; exact ht
  | succ m ih =>
    intro j t hj ht
    exact NotedOk.cons (congrArg i64 (wadd (a + j) 1 (by omega))) (ih (j + 1) t (by omega) ht)
theorem eqL_refl (l : List UInt8) : eqL l l = true := by
  rw [eqL_eq]; simp
theorem look_ok {a c : Nat} (h : a + c ≤ 63) : ∀ (m j : Nat) (t : Noted), j + m = c → NotedOk t → NotedOk (lookN a m j t) := by
  intro m
  induction m with
  | zero => intro j t _ ht; exact ht
  | succ m ih =>
    intro j t hj ht
    refine NotedOk.cons (congrArg i64 (wadd a j (by omega))) (NotedOk.cons ?_ (NotedOk.cons ?_ (NotedOk.cons ?_ (ih (j + 1) t (by omega) ht))))
    · show Value.bool (notB (intEq (.ofNat (a + j)) (.ofNat (a + j)))) = F
      rw [eq_yes]; rfl
    · refine congrArg i64 ?_
      rw [show wrapF .i64 (Int.add 33 (.ofNat a)) = .ofNat (33 + a) from wadd 33 a (by omega), wadd (33 + a) j (by omega), Nat.add_assoc]
    · show Value.bool (notB (eqL [txt (a + j)] [txt (a + j)])) = F
      rw [eqL_refl]; rfl
theorem veq_int (n : Nat) : veq 7 (e24 n) (e24 n) = true := by simp [veq, e24]
theorem reply_ok (a c : Nat) : ((veq 8 (replyV a c) (replyV a c) && true) && true) = true := by
  have h : veq 8 (replyV a c) (replyV a c) = true := by
    cases c <;> simp [replyV, veq, veq.veqs, gotV, i64, e24]
  rw [h]; rfl
theorem fit_ok {a c : Nat} (h : a + c ≤ 63) : fitN a c := by
  cases c with
  | zero => exact congrArg Value.bool (not_lt (Nat.le_refl a))
  | succ c =>
    show Value.bool (intEq (.ofNat (a + (c + 1))) (wrapF .i64 (Int.add (.ofNat a) (.ofNat (c + 1))))) = Tr
    rw [wadd a (c + 1) (by omega), eq_yes]
    rfl
theorem same_ok (a k : Nat) : pr (.bool (notB (andB (intEq (.ofNat a) (.ofNat a)) (andB (intEq (.ofNat (k + 1)) (.ofNat (k + 1))) true)))) F := by
  show Value.bool _ = F
  rw [eq_yes, eq_yes]; rfl
theorem rndN_ok {n a k c : Nat} {e : Bool} (h63 : n + 1 ≤ 63) (hk : k ≤ 63) (ha : a ≤ n + 1) (hc : c = min (k + 1) (n + 1 - a)) (he : match e with | true => c = k + 1 | false => c < k + 1 ∧ a + c = n + 1) : NotedOk (rndN n a k c e) := by
  have hs : a + c ≤ 63 := by omega
  have s1 : pr (.bool (intLt 64 (.ofNat (k + 1)))) F := congrArg Value.bool (lt_no (a := 64) (by omega))
  have s2 : pr (i64 (wrapF .i64 (Int.add (.ofNat a) (.ofNat c)))) (e24 (a + c)) := congrArg i64 (wadd a c (by omega))
  have tail : NotedOk (takeN a c 0 (pr (i64 (wrapF .i64 (Int.add (.ofNat a) (.ofNat c)))) (e24 (a + c)) :: minK k :: pr (i64 (if (.ofNat (k + 1) : Int) < left (n + 1) a then .ofNat (k + 1) else left (n + 1) a)) (e24 c) :: lookN a c 0 [pr (i64 (wrapF .i64 (Int.add (.ofNat a) (.ofNat c)))) (e24 (a + c))])) := by
    refine take_ok hs c 0 _ (Nat.zero_add _) (NotedOk.cons s2 (NotedOk.cons (minK_ok hk) (NotedOk.cons ?_ (look_ok hs c 0 _ (Nat.zero_add _) (NotedOk.cons s2 NotedOk.nil)))))
    unfold left
    rw [wsub (n + 1) a ha (by omega)]
    exact congrArg i64 (ite_min hc)
  have mid : ∀ t : Noted, NotedOk t → NotedOk (((((veq 8 (replyV a c) (replyV a c) && true) && true) = true) ::
      pr (.bool (notB (andB (intEq (.ofNat a) (.ofNat a)) (andB (intEq (.ofNat (k + 1)) (.ofNat (k + 1))) true)))) F :: pr (.bool (intLt 1073741824 (.ofNat a))) F :: pr (.bool (intLt 64 (.ofNat (k + 1)))) F :: pr (.bool (notB (intLt (.ofNat (k + 1)) (.ofNat c)))) Tr :: fitN a c ::
      pr (.bool (intLt (.ofNat a) (.ofNat a))) F :: pr (i64 (if (.ofNat c : Int) < wrapF .i64 (Int.sub (.ofNat a) (.ofNat a)) then .ofNat c else wrapF .i64 (Int.sub (.ofNat a) (.ofNat a)))) (e24 0) :: t)) := by
    intro t ht
    refine NotedOk.cons (reply_ok a c) (NotedOk.cons (same_ok a k) (NotedOk.cons (congrArg Value.bool (lt_no (a := 1073741824) (by omega))) (NotedOk.cons s1 (NotedOk.cons (congrArg Value.bool (not_lt (by omega))) (NotedOk.cons (fit_ok hs) (NotedOk.cons (congrArg Value.bool (lt_no (Nat.le_refl a))) (NotedOk.cons ?_ ht)))))))
    rw [wsub a a (Nat.le_refl _) (by omega), Nat.sub_self]
    exact congrArg i64 (ite_min (y := c) (x := 0) (by omega))
  have ends : ∀ t : Noted, NotedOk t → NotedOk (endN n k a c e t) := by
    intro t ht
    cases e with
    | true => exact NotedOk.cons (congrArg Value.bool (lt_no (by have : c = k + 1 := he; omega))) ht
    | false =>
      have h2 : c < k + 1 ∧ a + c = n + 1 := he
      exact NotedOk.cons (congrArg Value.bool (lt_yes h2.1)) (NotedOk.cons (congrArg Value.bool (lt_no (by omega))) ht)
  exact NotedOk.cons (minK_ok hk) (NotedOk.cons s1 (NotedOk.cons (congrArg Value.bool (not_lt (a := 2147483647) (by omega))) (NotedOk.cons (congrArg Value.bool (not_lt (a := 64) (by omega))) (NotedOk.cons (congrArg i64 (ite_min (by omega))) (within_ok (by omega) (by omega) h63 c 0 _ (Nat.zero_add _) (ends _ (mid _ tail)))))))
theorem rndN0_ok {k : Nat} (hk : k ≤ 63) : NotedOk (rndN0 k) := by
  have s1 : pr (.bool (intLt 64 (.ofNat (k + 1)))) F := congrArg Value.bool (lt_no (a := 64) (by omega))
  refine NotedOk.cons (minK_ok hk) (NotedOk.cons s1 (NotedOk.cons rfl (NotedOk.cons (congrArg Value.bool (not_lt (a := 64) (by omega))) (NotedOk.cons rfl (NotedOk.cons rfl (NotedOk.cons rfl (NotedOk.cons (reply_ok 0 0) (NotedOk.cons ?_ (NotedOk.cons rfl (NotedOk.cons s1 (NotedOk.cons rfl (NotedOk.cons rfl (NotedOk.cons rfl (NotedOk.cons rfl (NotedOk.cons rfl (NotedOk.cons (minK_ok hk) (NotedOk.cons rfl (NotedOk.cons rfl NotedOk.nil))))))))))))))))))
  show Value.bool _ = F
  rw [eq_yes]; rfl
end Go.Proofs.YtbkgnlcjnimpcaaDoor.fanPages
