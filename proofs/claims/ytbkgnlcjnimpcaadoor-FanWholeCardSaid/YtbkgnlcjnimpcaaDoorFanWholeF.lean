/- FanWhole: what its rounds note is so. -/
import Derived.Test.YtbkgnlcjnimpcaaDoorFanWholeG
import Derived.WalkKit
namespace Go.Proofs.YtbkgnlcjnimpcaaDoor.fanWhole
open Go Go.Ab Go.RowKit
set_option maxRecDepth 100000
/-! ### Numbers -/
theorem wsmall {n : Nat} (h : n < 2000) : wrapF .i64 (.ofNat n) = .ofNat n := by
  rw [wrapF_eq]
  exact wrap_u (show n < 9223372036854775808 by omega)
theorem wadd (a b : Nat) (h : a + b < 2000) : wrapF .i64 (Int.add (.ofNat a) (.ofNat b)) = .ofNat (a + b) := wsmall h
theorem wsub (a b : Nat) (h : b ≤ a) (h2 : a < 2000) : wrapF .i64 (Int.sub (.ofNat a) (.ofNat b)) = .ofNat (a - b) := by
  have : Int.sub (.ofNat a) (.ofNat b) = .ofNat (a - b) := by
    show ((a : Int) - (b : Int)) = ((a - b : Nat) : Int)
    omega
  rw [this]
  exact wsmall (by omega)
theorem lt_yes {a b : Nat} (h : a < b) : intLt (.ofNat a) (.ofNat b) = true := by
  show Nat.blt a b = true
  rw [Nat.blt_eq]; exact h
theorem lt_no {a b : Nat} (h : b ≤ a) : intLt (.ofNat a) (.ofNat b) = false := by
  show Nat.blt a b = false
  rw [Bool.eq_false_iff]
  intro q
  rw [Nat.blt_eq] at q
  omega
theorem not_lt {a b : Nat} (h : b ≤ a) : notB (intLt (.ofNat a) (.ofNat b)) = true := by rw [lt_no h]; rfl
theorem eq_yes (a : Nat) : intEq (.ofNat a) (.ofNat a) = true := Nat.beq_refl a
theorem eq_no {a b : Nat} (h : a ≠ b) : intEq (.ofNat a) (.ofNat b) = false := by
  show Nat.beq a b = false
  rw [Bool.eq_false_iff]
  intro q
  exact h (Nat.eq_of_beq_eq_true q)
theorem ite_min {x y m : Nat} (h : m = min y x) : (if (.ofNat y : Int) < .ofNat x then (.ofNat y : Int) else .ofNat x) = .ofNat m := by
  split
  · rename_i q
    have : (y : Int) < (x : Int) := q
    show (y : Int) = (m : Int)
    omega
  · rename_i q
    have : ¬ (y : Int) < (x : Int) := q
    show (x : Int) = (m : Int)
    omega
theorem txt_num {k : Nat} (h : k < 90) : u8n (txt k) = 33 + k := by
  have e : wrapF .u8 (.ofNat (33 + k)) = .ofNat (33 + k) := by
    rw [wrapF_eq]
    exact wrap_u (show 33 + k < 256 by omega)
  rw [u8n_eq]
  unfold txt
  rw [e]
  show (Nat.toUInt8 (33 + k)).toNat = 33 + k
  simp [Nat.toUInt8]
  omega

/-! ### Facts of rows -/
theorem und22 : Tryd.prog.underlying 22 = some (.slice 3) := by kernel_rfl
theorem und28 : Tryd.prog.underlying 28 = some (.slice 48) := by kernel_rfl
theorem und38 : Tryd.prog.underlying 38 = some (.slice 34) := by kernel_rfl
theorem und39 : Tryd.prog.underlying 39 = some (.slice 30) := by kernel_rfl
theorem und3 : Tryd.prog.underlying 3 = some (.int .i64) := by kernel_rfl
theorem agg48 : (Tryd.prog.underlying 48).map isAggD = some true := by kernel_rfl
theorem agg34 : (Tryd.prog.underlying 34).map isAggD = some true := by kernel_rfl
theorem agg30 : (Tryd.prog.underlying 30).map isAggD = some true := by kernel_rfl
theorem size48 : (Tryd.prog.info? 48).map (·.size) = some 2 := by kernel_rfl
theorem size34 : (Tryd.prog.info? 34).map (·.size) = some 9 := by kernel_rfl
theorem size30 : (Tryd.prog.info? 30).map (·.size) = some 3 := by kernel_rfl
theorem size3 : (Tryd.prog.info? 3).map (·.size) = some 1 := by kernel_rfl
theorem cells3 : Tryd.prog.cellsOf 3 = 1 := by kernel_rfl
theorem leaves3 : leavesK Tryd.prog 30 3 = some [.i .i64] := by kernel_rfl
theorem size_of {t : TypeId} {n : Nat} (h : (Tryd.prog.info? t).map (·.size) = some n) : ∃ i, Tryd.prog.info? t = some i ∧ i.size = n := by
  cases hi : Tryd.prog.info? t with
  | none => rw [hi] at h; cases h
  | some i => rw [hi] at h; exact ⟨i, rfl, Option.some.inj h⟩
theorem at_of {t e s b n c i : Nat} (hu : Tryd.prog.underlying t = some (.slice e)) (hs : (Tryd.prog.info? e).map (·.size) = some s) (h : i < n) :
    (iaB Tryd.prog t).un (.slice (some ⟨b, 0, none⟩) n c) (e24 i) = some (.pointer (some ⟨b, Nat.add 0 (Nat.mul i s), none⟩)) := by
  obtain ⟨ei, hi, he⟩ := size_of hs
  have := ix_slice (P := Tryd.prog) (b := b) (o := 0) (n := n) (c := c) (k := .i64) hu hi h
  rw [he] at this
  exact this
theorem ld_of {t s o N : Nat} {f : Nat → Value} {ob : AObj} (ha : (Tryd.prog.underlying t).map isAggD = some true) (hs : (Tryd.prog.info? t).map (·.size) = some s) (hob : rowIn ob = some (rowFn f N)) (hle : o + s ≤ N) :
    (ldO Tryd.prog t).un ob o = some (.agg ⟨(List.range s).map fun j => f (o + j)⟩) := by
  obtain ⟨i, hi, rfl⟩ := size_of hs
  cases hd : Tryd.prog.underlying t with
  | none => rw [hd] at ha; cases ha
  | some d =>
    have hag : isAggD d = true := by
      rw [hd] at ha
      exact Option.some.inj ha
    unfold ldO
    rw [hd, hi]
    dsimp only
    rw [hag]
    dsimp only
    rw [hob]
    show (match Nat.ble (Nat.add o i.size) N with | true => some (Value.agg ⟨partB i.size (treeF f N 0 .leaf) o⟩) | false => none) = _
    rw [show Nat.ble (Nat.add o i.size) N = true by rw [Nat.ble_eq]; exact hle]
    dsimp only
    rw [show partB i.size (treeF f N 0 .leaf) o = Row.part (rowFn f N) o i.size from partB_eq (rowFn f N) i.size o, part_treeF f N _ _ hle]
theorem ldO_one {P : Program} {t : TypeId} {d : TypeDesc} {i : TypeInfo} {o N : Nat} {f : Nat → Value} {e : TypeId} (hd : P.underlying t = some d) (hi : P.info? t = some i) (hag : isAggD d = false) (hle : o < N) :
    (ldO P t).un (.ro (rowFn f N) e) o = some (f o) := by
  unfold ldO
  rw [hd, hi]
  dsimp only
  rw [hag]
  show rowGet (rowFn f N) o = _
  rw [rowGet_eq, rowFn_get? f N o hle]
theorem fP_even (a i : Nat) : fP a (i * 2) = ann := by
  unfold fP
  rw [show i * 2 % 2 = 0 by omega]
theorem fP_odd (a i : Nat) : fP a (i * 2 + 1) = txtV (a + i) := by
  unfold fP
  rw [show (i * 2 + 1) % 2 = 1 by omega, show (i * 2 + 1) / 2 = i by omega]
theorem fP_flat (a j : Nat) : vflat 8 (fP a j) = true := by
  unfold fP
  split <;> rfl
theorem fP_cell (a j : Nat) : isCell (fP a j) = true := by
  unfold fP
  split <;> rfl
theorem post_of {a N i o : Nat} {ob : AObj} (hob : rowIn ob = some (rowFn (fP a) (N * 2))) (h : i < N) (ho : o = i * 2) : (ldO Tryd.prog 48).un ob o = some (postV (a + i)) := by
  subst ho
  refine (ld_of agg48 size48 hob (by omega)).trans ?_
  show some (Value.agg ⟨[fP a (i * 2), fP a (i * 2 + 1)]⟩) = _
  rw [fP_even, fP_odd]
  rfl
/-! ### Equal values -/
theorem veq_post (b n : Nat) : vq2 (.slice (some ⟨b, 0, none⟩) (n + 1) openN) = true := by simp [vq2, veq, openN]
theorem veq_re (n : Nat) : vq2 (.agg ⟨[i64 0, e24 n, .slice none 0 0]⟩) = true := by simp [vq2, veq, veq.veqs, i64, e24]
theorem askQ_ok (q b c : Nat) : askQ q b c := by
  have h : veq 8 (.agg ⟨repL q b c⟩) (.agg ⟨repL q b c⟩) = true := by
    cases c <;> simp [repL, veq, veq.veqs, gotV, i64, e24]
  unfold askQ
  rw [h]; rfl
/-! ### What is noted is so -/
theorem hdN_ok {N c i k q : Nat} {f : Nat → Value} {z : Int} {t : Noted} (hi : i < N) (h200 : i < 200) (hz : f i = i64 z) (hk : bandF (shrF z 2) 65535 = .ofNat k) (hq : bandF z 3 = .ofNat q) (ht : NotedOk t) : NotedOk (hdN N c (.ro (rowFn f (N * 1)) 3) i k q z t) := by
  have h1 : (iaB Tryd.prog 22).un (scr N c) (e24 i) = some (ptr16 i) := at_of und22 size3 hi
  have h2 : (ldO Tryd.prog 3).un (.ro (rowFn f (N * 1)) 3) (Nat.add 0 (Nat.mul i 1)) = some (i64 z) := by
    obtain ⟨ei, hi', _⟩ := size_of size3
    have e0 : Nat.add 0 (Nat.mul i 1) = i := by
      show 0 + i * 1 = i
      omega
    rw [e0, ← hz]
    exact ldO_one und3 hi' rfl (by omega)
  exact NotedOk.cons (congrArg Value.bool (lt_yes hi)) (NotedOk.cons (congrArg Value.bool (lt_yes (b := 200) h200)) (NotedOk.cons h1 (NotedOk.cons h2 (NotedOk.cons (congrArg i64 hk) (NotedOk.cons h1 (NotedOk.cons h2 (NotedOk.cons (congrArg i64 hq) ht)))))))
theorem rem90 (n : Nat) : pr (i64 (wrapF .i64 (Int.add 33 (remF (.ofNat n) 90)))) (e24 (33 + n % 90)) := congrArg i64 (wadd 33 (n % 90) (by omega))
theorem inc_ok {i : Nat} (h : i < 1000) : pr (i64 (wrapF .i64 (Int.add (.ofNat i) 1))) (e24 (i + 1)) := congrArg i64 (wadd i 1 (by omega))
theorem part_cells {f : Nat → Value} {N : Nat} (h : ∀ i, isCell (f i) = true) : ((rowFn f N).part 0 N).all isCell = true := by
  rw [part_treeF f N N 0 (by omega), List.all_eq_true]
  intro v hv
  obtain ⟨j, _, rfl⟩ := List.mem_map.1 hv
  exact h _
theorem ble_of {a b : Nat} (h : a ≤ b) : Nat.ble a b = true := by rw [Nat.ble_eq]; exact h
theorem postA_ok {n : Nat} (h : n ≤ 1000) : NotedOk (postA (fP 0) n) := by
  cases n with
  | zero => exact NotedOk.cons ⟨rfl, rfl, rfl⟩ NotedOk.nil
  | succ n =>
    refine NotedOk.cons ⟨ble_of (by omega), ble_of (by show 0 + (n + 1) * 2 ≤ (n + 1) * 2; omega), part_cells (fP_cell 0)⟩ (NotedOk.cons ⟨ble_of (by omega), ?_⟩ NotedOk.nil)
    rw [Row.ofList_len, Row.part_length]
    exact Nat.beq_refl _
theorem postN_ok {i n : Nat} (hi : i < 200) (hn : n ≤ 200) : NotedOk (postN (fP 0) i n) := by
  refine NotedOk.cons rfl (NotedOk.cons (rem90 n) (NotedOk.cons ?_ (NotedOk.cons ?_ (NotedOk.append (postA_ok (by omega)) (NotedOk.cons ?_ (NotedOk.cons ?_ (NotedOk.cons (inc_ok (by omega)) (NotedOk.cons (inc_ok (by omega)) NotedOk.nil))))))))
  · refine congrArg Value.bool ?_
    rw [txt_num (Nat.mod_lt _ (by decide)), wsmall (by omega)]
    exact lt_yes (b := 128) (by omega)
  · refine congrArg Value.bool ?_
    rw [show intLt (.ofNat n) 1024 = true from lt_yes (b := 1024) (by omega)]
    rfl
  · exact congrArg i64 (wsub (n + 1) 1 (by omega) (by omega))
  · unfold postQ
    rw [veq_post, veq_re]
    rfl
theorem within_ok {n y b c : Nat} {Vp : Value} {O11 : AObj} (hV : 0 < c → Vp = .slice (some ⟨11, 0, none⟩) n openN ∧ rowIn O11 = some (rowFn (fP 0) (n * 2))) (hn : b + c ≤ n) (hk : c ≤ y + 1) (h63 : n ≤ 200) : ∀ (m j : Nat) (t : Noted), j + m = c → NotedOk t → NotedOk (withinN Vp O11 n y b m j t) := by
  intro m
  induction m with
  | zero => intro j t _ ht; exact ht
  | succ m ih =>
    intro j t hj ht
    obtain ⟨rfl, hO⟩ := hV (by omega)
    refine NotedOk.cons (congrArg Value.bool (lt_yes (by omega))) (NotedOk.cons (congrArg Value.bool (lt_yes (by omega))) (NotedOk.cons (at_of und28 size48 (by omega)) (NotedOk.cons ?_ (NotedOk.cons (inc_ok (by omega)) (ih (j + 1) t (by omega) ht)))))
    have := post_of (a := 0) (i := b + j) (o := Nat.add 0 (Nat.mul (b + j) 2)) hO (by omega) (Nat.zero_add _)
    rw [Nat.zero_add] at this
    exact this
theorem moreN_ok {f : Nat → Value} {size : Nat} {xs : List Value} {L : Nat} (hl : xs.length = size) (hc : xs.all isCell = true) (hL : L ≤ 1000) : moreN f size xs L := by
  cases L with
  | zero =>
    refine ⟨rfl, ble_of (by rw [Row.ofList_len, hl]; omega), ?_⟩
    have e : (Row.ofList xs).part 0 (1 * size) = xs := by
      rw [Nat.one_mul]
      refine List.ext_getElem? fun j => ?_
      by_cases hj : j < size
      · rw [Row.part_get? _ _ _ _ (by rw [Row.ofList_len]; omega) hj, Row.ofList_get?, Nat.zero_add]
      · rw [List.getElem?_eq_none (by rw [Row.part_length]; omega), List.getElem?_eq_none (by omega)]
    rw [e]
    exact hc
  | succ L => exact ⟨ble_of (by omega), Nat.beq_refl _⟩
theorem repL_cells (q b c : Nat) : (repL q b c).all isCell = true := by cases c <;> rfl
theorem askN_ok {Vp : Value} {O11 : AObj} {fO fR : Nat → Value} {L n a y i k b c q : Nat} {e : Bool} (hV : 0 < c → Vp = .slice (some ⟨11, 0, none⟩) n openN ∧ rowIn O11 = some (rowFn (fP 0) (n * 2))) (hy : bandF (.ofNat k) 15 = .ofNat y) (hy15 : y ≤ 15) (ha : a ≤ 400) (hn : n ≤ 200) (hL : L ≤ 200) (hi : i < 200)
    (hb : b = min n a) (hc : c ≤ y + 1) (hbc : b + c ≤ n) (he : match e with | true => c = y + 1 | false => c < y + 1 ∧ b + c = n) : NotedOk (askN Vp O11 fO fR L n a y i k b c q e) := by
  refine NotedOk.cons rfl (NotedOk.cons rfl (NotedOk.cons ?_ (NotedOk.cons (congrArg Value.bool (lt_no (a := 64) (by omega))) (NotedOk.cons (congrArg Value.bool (not_lt (a := 2147483647) (by omega))) (NotedOk.cons (congrArg Value.bool (not_lt (a := 64) (by omega))) (NotedOk.cons (congrArg i64 (ite_min hb)) (within_ok hV hbc hc hn c 0 _ (Nat.zero_add _) ?_)))))))
  · show i64 (wrapF .i64 (Int.add 1 (bandF (.ofNat k) 15))) = _
    rw [hy]
    refine congrArg i64 ((wadd 1 y (by omega)).trans ?_)
    rw [Nat.add_comm]
  · have tail : NotedOk [askQ q b c, moreN fO 9 (opL a y) L, moreN fR 3 (repL q b c) L, pr (i64 (wrapF .i64 (Int.add (.ofNat i) 1))) (e24 (i + 1))] :=
      NotedOk.cons (askQ_ok q b c) (NotedOk.cons (moreN_ok rfl rfl (by omega)) (NotedOk.cons (moreN_ok rfl (repL_cells q b c) (by omega)) (NotedOk.cons (inc_ok (by omega)) NotedOk.nil)))
    cases e with
    | true => exact NotedOk.cons (congrArg Value.bool (lt_no (by have : c = y + 1 := he; omega))) tail
    | false =>
      have h2 : c < y + 1 ∧ b + c = n := he
      exact NotedOk.cons (congrArg Value.bool (lt_yes h2.1)) (NotedOk.cons (congrArg Value.bool (lt_no (by omega))) tail)
theorem eqL_refl (l : List UInt8) : eqL l l = true := by
  rw [eqL_eq]; simp
theorem take_ok {O17 : AObj} {fr a kn c d : Nat} (hO : 0 < d → rowIn O17 = some (rowFn (fP fr) (c * 2))) (hkn : 0 < d → fr + kn = a ∧ kn + d = c) (h : a + d ≤ 600) : ∀ (m j : Nat) (t : Noted), j + m = d → NotedOk t → NotedOk (takeN O17 a kn m j t) := by
  intro m
  induction m with
  | zero => intro j t _ ht; exact ht
  | succ m ih =>
    intro j t hj ht
    obtain ⟨h1, h2⟩ := hkn (by omega)
    refine NotedOk.cons ?_ (NotedOk.cons (inc_ok (by omega)) (ih (j + 1) t (by omega) ht))
    have := post_of (a := fr) (i := kn + j) (o := Nat.add (kn * 2) (Nat.mul j 2)) (hO (by omega)) (by omega) (by show kn * 2 + j * 2 = _; omega)
    rw [show fr + (kn + j) = a + j by omega] at this
    exact this
theorem toldN_ok {T a j : Nat} (hT : T + j ≤ 1000) : toldN T a j := by
  cases T with
  | zero => cases j with
    | zero => exact ⟨rfl, rfl, rfl⟩
    | succ j => exact ⟨ble_of (by omega), by rw [Nat.mul_one]; exact Nat.beq_refl _⟩
  | succ T =>
    refine ⟨ble_of (by omega), ?_⟩
    rw [show (T + 1 + j) * 1 = (T + 1) * 1 + j by omega]
    exact Nat.beq_refl _
theorem look_ok {st a T d : Nat} (ha : a = st + T) (h : a + d ≤ 600) : ∀ (m j : Nat) (t : Noted), j + m = d → NotedOk t → NotedOk (lookN st a T m j t) := by
  intro m
  induction m with
  | zero => intro j t _ ht; exact ht
  | succ m ih =>
    intro j t hj ht
    refine NotedOk.cons ?_ (NotedOk.cons ?_ (NotedOk.cons (rem90 (a + j)) (NotedOk.cons ?_ (NotedOk.cons (toldN_ok (by omega)) (ih (j + 1) t (by omega) ht)))))
    · refine congrArg i64 ((wadd st (T + j) (by omega)).trans ?_)
      rw [show st + (T + j) = a + j by omega]
    · show Value.bool (notB (intEq (.ofNat (a + j)) (.ofNat (a + j)))) = F
      rw [eq_yes]; rfl
    · show Value.bool (notB (eqL [txt ((a + j) % 90)] [txt ((a + j) % 90)])) = F
      rw [eqL_refl]; rfl
theorem fit_ok {fr at_ c : Nat} {t : Noted} (hat : 0 < c → at_ = fr + c) (hat0 : c = 0 → at_ ≤ fr) (h : fr + c ≤ 600) (ht : NotedOk t) : NotedOk (fitN fr at_ c t) := by
  cases c with
  | zero => exact NotedOk.cons rfl (NotedOk.cons (congrArg Value.bool (not_lt (hat0 rfl))) ht)
  | succ c =>
    refine NotedOk.cons rfl (NotedOk.cons ?_ ht)
    show Value.bool (intEq (.ofNat at_) (wrapF .i64 (Int.add (.ofNat fr) (.ofNat (c + 1))))) = Tr
    rw [wadd fr (c + 1) (by omega), hat (by omega), eq_yes]
    rfl
theorem part_ok {kn c d : Nat} (h : kn + d = c) (hc : c ≤ 1000) : sliceFact Tryd.prog 28 (gotV 17 c) (some (e24 kn)) (some (e24 c)) (some (e24 c)) (partV kn c d) := by
  refine ⟨rfl, fun b => by cases c <;> (intro q; cases q), ?_⟩
  obtain ⟨ei, hi, hs⟩ := size_of size48
  unfold sliceA
  rw [und28]
  dsimp only
  rw [hi]
  cases c with
  | zero =>
    obtain rfl : kn = 0 := by omega
    obtain rfl : d = 0 := by omega
    rfl
  | succ c =>
    have h1 : Nat.ble kn (c + 1) = true := ble_of (by omega)
    have h2 : Nat.ble (c + 1) (c + 1) = true := ble_of (Nat.le_refl _)
    have h3 : Nat.ble (c + 1) HALF = true := ble_of (by unfold HALF; omega)
    have h4 : lim (c + 1) openN = c + 1 := rfl
    have h5 : Nat.blt 0 (c + 1) = true := by rw [Nat.blt_eq]; omega
    simp only [gotV, e24, natOf, h4, h1, h2, h3, h5, Option.isSome_some, Bool.and_self, Bool.or_true, if_true]
    cases d with
    | zero =>
      obtain rfl : kn = c + 1 := by omega
      simp only [if_true, Nat.sub_self, partV]
    | succ d =>
      rw [if_neg (by omega), hs]
      show some (Value.slice (some (Addr.add ⟨17, 0, none⟩ (kn * 2))) (c + 1 - kn) (c + 1 - kn)) = _
      rw [Addr_add_none, Nat.zero_add, show c + 1 - kn = d + 1 by omega]
      rfl
theorem takN_ok {V10 : Value} {O13 O14 O17 : AObj} {st i a T k q L fr m at_ c kn d : Nat} (hq0 : q ≠ 0) (hq1 : q ≠ 1) (h10 : V10 = sliceV 14 (L + 1))
    (h13 : (ldO Tryd.prog 34).un O13 (Nat.add 0 (Nat.mul (k % (L + 1)) 9)) = some (opV fr m)) (h14 : (ldO Tryd.prog 30).un O14 (Nat.add 0 (Nat.mul (k % (L + 1)) 3)) = some (reV at_ c)) (h17 : 0 < d → rowIn O17 = some (rowFn (fP fr) (c * 2)))
    (hm : m ≤ 15) (hc : c ≤ m + 1) (hat : 0 < c → at_ = fr + c) (hat0 : c = 0 → at_ ≤ fr) (hfr : fr ≤ a) (ha : a = st + T) (ha4 : a ≤ 400) (hkn : kn = min c (a - fr)) (hd : kn + d = c) (hi : i < 200) (hL : L ≤ 1000) :
    NotedOk (takN V10 O13 O14 O17 st i a T k q L (k % (L + 1)) fr m at_ c kn d) := by
  have hx : k % (L + 1) < L + 1 := Nat.mod_lt _ (Nat.succ_pos _)
  subst h10
  have n1 : pr (i64 (remF (.ofNat k) (L + 1))) (e24 (k % (L + 1))) := rfl
  refine NotedOk.cons (congrArg Value.bool (eq_no (b := 0) hq0)) (NotedOk.cons (congrArg Value.bool (eq_no (b := 1) hq1)) (NotedOk.cons n1 (NotedOk.cons (at_of und38 size34 hx) (NotedOk.cons h13 (NotedOk.cons n1 (NotedOk.cons (at_of und39 size30 hx) (NotedOk.cons h14
    (NotedOk.cons ?_ (NotedOk.cons (congrArg Value.bool (lt_no (a := 1073741824) (by omega))) (NotedOk.cons (congrArg Value.bool (lt_no (a := 64) (by omega))) (NotedOk.cons (congrArg Value.bool (not_lt (by omega))) (fit_ok hat hat0 (by omega)
    (NotedOk.cons (congrArg Value.bool (lt_no hfr)) (NotedOk.cons ?_ (NotedOk.cons (part_ok hd (by omega)) (take_ok h17 (fun h => ⟨by omega, hd⟩) (by omega) d 0 _ (Nat.zero_add _) (NotedOk.cons (congrArg i64 (wadd T d (by omega))) (look_ok ha (by omega) d 0 _ (Nat.zero_add _) (NotedOk.cons (inc_ok (by omega)) NotedOk.nil)))))))))))))))))))
  · show Value.bool _ = F
    rw [eq_yes, eq_yes]; rfl
  · rw [wsub a fr hfr (by omega)]
    exact congrArg i64 (ite_min hkn)
theorem noneN_ok {i q : Nat} (hi : i < 200) (hq0 : q ≠ 0) (hq1 : q ≠ 1) : NotedOk (noneN i q) :=
  NotedOk.cons (congrArg Value.bool (eq_no (b := 0) hq0)) (NotedOk.cons (congrArg Value.bool (eq_no (b := 1) hq1)) (NotedOk.cons (inc_ok (by omega)) NotedOk.nil))
end Go.Proofs.YtbkgnlcjnimpcaaDoor.fanWhole
