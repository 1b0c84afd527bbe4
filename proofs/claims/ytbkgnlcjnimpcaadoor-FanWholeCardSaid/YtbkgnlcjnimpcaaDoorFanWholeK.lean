/- FanWhole: a round that takes. -/
import Derived.Test.YtbkgnlcjnimpcaaDoorFanWholeJ
import Derived.Test.YtbkgnlcjnimpcaaDoorFanWholeH
namespace Go.Proofs.YtbkgnlcjnimpcaaDoor.fanWhole
open Go Go.Ab Go.RowKit
set_option maxRecDepth 100000
/-! ### Nothing was asked -/
theorem shE_at : ∀ y, y < 18 → atOf shE.σ y = some y := by
  intro y hy
  have : (List.range 18).all (fun y => match atOf shE.σ y with | some x => Nat.beq x y | none => false) = true := by kernel_rfl
  have h2 := List.all_eq_true.1 this y (by simpa using hy)
  split at h2
  · rename_i x hx; rw [hx, Nat.eq_of_beq_eq_true h2]
  · cases h2
theorem shE_tok {i : Nat} (h : i < 200) : atOf shE.σ (18 + i) = some (18 + i) := atOf_tok (l := [0, 1, 2, 3, 4, 5, 6, 7, 8, 9, 10, 11, 12, 13, 14, 15, 16, 17]) rfl h
theorem one_posts (n : Nat) : OneForm (rowV (fP 0) 2 48 n) := one_rowV fun j _ => fP_flat 0 j
theorem one_ops (r : Nat → Rc) (L : Nat) : OneForm (rowV (fO r) 9 34 L) := one_rowV fun j _ => fO_flat r j
theorem one_told (st T : Nat) : OneForm (rowV (fT st) 1 9 T) := one_rowV fun j _ => fT_flat st j
theorem step_none {W : World} {N c st n T i q : Nat} {f : Nat → Value} {r : Nat → Rc} {z : Int} {a : Act} {w : World} {Q : Exit → Act → World → Prop} (hi : i < N) (h200 : i < 200) (hz : f i = i64 z) (hq : bandF z 3 = .ofNat q) (hq0 : q ≠ 0) (hq1 : q ≠ 1) (h16 : OneForm (.ro (rowFn f (N * 1)) 3))
    (h : Inv W (scr N c) (.ro (rowFn f (N * 1)) 3) st n 0 T i r a w) (hQ : ∀ a' w', a'.defers = a.defers → Inv W (scr N c) (.ro (rowFn f (N * 1)) 3) st n 0 T (i + 1) r a' w' → Q .normal a' w') : lp.wp Tryd.prog Q a w := by
  obtain ⟨hb, B, m, jt, hkp, hG, hT, hr⟩ := h
  obtain ⟨k, _, hk⟩ := bandF_lt (shrF z 2) (c := 65535) (by decide)
  have hs := none1 N c (sliceV 14 0) (sliceV 15 T) (sliceV 11 n) (rowV (fP 0) 2 48 n) (rowV (fO r) 9 34 0) .dead (rowV (fT st) 1 9 T) (.ro (rowFn f (N * 1)) 3) .dead st (st + T) T n i k q z jt
  obtain ⟨R, hR⟩ : ∃ R, rndE N c (sliceV 14 0) (sliceV 15 T) (sliceV 11 n) (rowV (fP 0) 2 48 n) (rowV (fO r) 9 34 0) .dead (rowV (fT st) 1 9 T) (.ro (rowFn f (N * 1)) 3) .dead st (st + T) T n i k q z jt = R := ⟨_, rfl⟩
  rw [hR] at hs
  obtain ⟨tp, hx⟩ := norm_of (r := R) (Prod.mk.inj (hs jt (fun _ _ => undef))).1
  unfold SS sl ob at hT hr
  refine oneE_wp (n := 187) (mk := mkR 3) (K := 1000) (e := .normal) (s := SL ⟨scr N c, sliceV 13 0, sliceV 14 0, sliceV 15 T⟩ ⟨sliceV 11 n, rowV (fP 0) 2 48 n, rowV (fO r) 9 34 0, .dead, rowV (fT st) 1 9 T, .ro (rowFn f (N * 1)) 3, .dead⟩ st (st + T) T n i jt) (s' := stOf R) entersOk zerosOk CBok CCok DCok DBok plL okL (hR.trans hx) (revN_ok _ _ (hdN_ok hi h200 hz hk hq (noneN_ok h200 hq0 hq1)) NotedOk.nil) hT hr hG ?_
  intro m1 a1 w1 x1 g1 t1 d1 q1
  obtain ⟨m2, j2, _, g2, t2, q2, hat⟩ := canonW (S := shE) (S2 := fun jt _ => SL ⟨scr N c, sliceV 13 0, sliceV 14 0, sliceV 15 T⟩ ⟨sliceV 11 n, rowV (fP 0) 2 48 n, rowV (fO r) 9 34 0, .dead, rowV (fT st) 1 9 T, .ro (rowFn f (N * 1)) 3, .dead⟩ st (st + T) T n (i + 1) jt)
    (fun _ => rfl) (fun jt _ y h => zOkS9 (shE_at 10 (by decide)) (fix_sliceV (shE_at 11 (by decide)) n) (FixO.of_one (one_posts n)) (FixO.of_one (one_ops r 0)) FixO.dead (FixO.of_one (one_told st T)) (FixO.of_one h16) FixO.dead y h)
    (fun jt _ y h => ztOk (zt := [1, 10, 11]) rfl (fix_scr (shE_at 16 (by decide)) N c) (fix_sliceV (shE_at 13 (by decide)) 0) (fix_sliceV (shE_at 14 (by decide)) 0) (fix_sliceV (shE_at 15 (by decide)) T) y h) (fun jt jh => (Prod.mk.inj (hs jt jh)).2) t1 q1 g1
  have ag : ∀ y, y < 218 → atOf shE.σ y = some y → m2 y = m y := fun y hy he => (hat y y he).trans (x1.2 y (.inl (by rw [SL_next]; exact hy)))
  exact hQ a1 w1 d1 ⟨⟨hb.st15, by have := hb.ni; omega, by omega, by omega, hb.tn, fun j hj => hb.ok j hj⟩, B, m2, j2, hkp.agree (by omega) (ag 14 (by decide) (shE_at 14 (by decide))) (ag 16 (by decide) (shE_at 16 (by decide))) (fun j hj => ag (18 + j) (by omega) (shE_tok hj)), g2, t2, q2⟩

/-! ### Something is taken -/
def shC : Shape := ⟨[0, 1, 2, 3, 4, 5, 6, 7, 8, 9, 10, 11, 12, 13, 14, 15, 16, 1017] ++ toks, 187, inL keep, fun _ _ => true, fun _ => false, inL [9, 11, 13, 14, 15, 16, 17], inL [1, 9, 10, 11]⟩
theorem shC_at : ∀ y, y < 17 → atOf shC.σ y = some y := by
  intro y hy
  have : (List.range 17).all (fun y => match atOf shC.σ y with | some x => Nat.beq x y | none => false) = true := by kernel_rfl
  have h2 := List.all_eq_true.1 this y (by simpa using hy)
  split at h2
  · rename_i x hx; rw [hx, Nat.eq_of_beq_eq_true h2]
  · cases h2
theorem shC_tok {i : Nat} (h : i < 200) : atOf shC.σ (18 + i) = some (18 + i) := atOf_tok (l := [0, 1, 2, 3, 4, 5, 6, 7, 8, 9, 10, 11, 12, 13, 14, 15, 16, 1017]) rfl h
theorem clr (v : Sl) (Vp : Value) (O11 O13 O14 O15 O16 : AObj) (st a t n i : Nat) (j0 jt : Nat → Value) (jh : Nat → Nat → Value) : canonS shC 8 (SL v ⟨Vp, O11, O13, O14, O15, O16, .dead⟩ st a t n i j0) jt jh = some (SL v ⟨Vp, O11, O13, O14, O15, O16, .dead⟩ st a t n i jt) := by kernel_rfl
/-- The replies' row, as it is read: one of them alone. -/
def gR (r : Nat → Rc) (x j : Nat) : Value := match Nat.beq (j / 3) x with
  | true => (repC 17 (r x).at_ (r x).c).getD (j % 3) undef
  | false => un
theorem gR_at (r : Nat → Rc) (x j : Nat) (hj : j < 3) : gR r x (x * 3 + j) = (repC 17 (r x).at_ (r x).c).getD j undef := by
  unfold gR
  rw [show (x * 3 + j) / 3 = x by omega, show (x * 3 + j) % 3 = j by omega, Nat.beq_refl]
theorem fO_at (r : Nat → Rc) (x j : Nat) (hj : j < 9) : fO r (x * 9 + j) = (opL (r x).fr (r x).m).getD j undef := by
  unfold fO
  rw [show (x * 9 + j) / 9 = x by omega, show (x * 9 + j) % 9 = j by omega]
theorem ld_op {r : Nat → Rc} {x L : Nat} (h : x < L) : (ldO Tryd.prog 34).un (rowV (fO r) 9 34 L) (Nat.add 0 (Nat.mul x 9)) = some (opV (r x).fr (r x).m) := by
  have := ld_of (o := Nat.add 0 (Nat.mul x 9)) agg34 size34 (rowIn_rowV (f := fO r) (size := 9) (t := 34) (L := L) (by omega)) (by show 0 + x * 9 + 9 ≤ L * 9; omega)
  rw [this]
  have e : ((List.range 9).map fun j => fO r (Nat.add 0 (Nat.mul x 9) + j)) = (List.range 9).map fun j => (opL (r x).fr (r x).m).getD j undef := by
    refine List.map_congr_left fun j hj => ?_
    rw [← fO_at r x j (by simpa using hj)]
    congr 2
    exact Nat.zero_add _
  rw [e]
  rfl
theorem ld_re {r : Nat → Rc} {x L : Nat} (h : x < L) : (ldO Tryd.prog 30).un (.ro (rowFn (gR r x) (L * 3)) 30) (Nat.add 0 (Nat.mul x 3)) = some (reV (r x).at_ (r x).c) := by
  have := ld_of (o := Nat.add 0 (Nat.mul x 3)) (ob := .ro (rowFn (gR r x) (L * 3)) 30) agg30 size30 rfl (by show 0 + x * 3 + 3 ≤ L * 3; omega)
  rw [this]
  have e : ((List.range 3).map fun j => gR r x (Nat.add 0 (Nat.mul x 3) + j)) = (List.range 3).map fun j => (repC 17 (r x).at_ (r x).c).getD j undef := by
    refine List.map_congr_left fun j hj => ?_
    rw [← gR_at r x j (by simpa using hj)]
    congr 1
    show 0 + x * 3 + j = _
    omega
  rw [e]
  rfl
theorem tak_run (N c1 : Nat) (V10 Vp : Value) (fT : Nat → Value) (O11 O13 O14 O16 O17 : AObj) (st a T n i k q L x fr m at_ c kn : Nat) (z : Int) (j0 jt : Nat → Value) (jh : Nat → Nat → Value) (d : Nat) (h0 : c = 0 → d = 0) (hd : d < 17) :
    tak1 N c1 V10 Vp fT O11 O13 O14 O16 O17 st a T n i k q L x fr m at_ c kn z j0 jt jh d = tak2 N c1 V10 Vp fT O11 O13 O14 O16 O17 st a T n i k q L x fr m at_ c kn z jt d := by
  cases c with
  | zero =>
    obtain rfl := h0 rfl
    cases T with
    | zero => exact upTo_eq _ _ (tak_00 N c1 V10 Vp fT O11 O13 O14 O16 O17 st a 0 n i k q L x fr m at_ 0 kn z j0 jt jh) 0 (Nat.zero_le _) (by decide)
    | succ T => exact upTo_eq _ _ (tak_10 N c1 V10 Vp fT O11 O13 O14 O16 O17 st a T n i k q L x fr m at_ 0 kn z j0 jt jh) 0 (Nat.zero_le _) (by decide)
  | succ c =>
    cases T with
    | zero => exact upTo_eq _ _ (tak_01 N c1 V10 Vp fT O11 O13 O14 O16 O17 st a 0 n i k q L x fr m at_ c kn z j0 jt jh) d (Nat.zero_le _) (by omega)
    | succ T => exact upTo_eq _ _ (tak_11 N c1 V10 Vp fT O11 O13 O14 O16 O17 st a T n i k q L x fr m at_ c kn z j0 jt jh) d (Nat.zero_le _) (by omega)
theorem toldO_one (st T d : Nat) : OneForm (toldO (fT st) T (st + T) d) := by
  by_cases h : 0 < T + d
  · rw [toldO_cells h]
    obtain ⟨h1, h2⟩ := toldR_row st T (st + T) rfl d h
    refine .inr ⟨_, _, .inr rfl, fun i v hv => ?_⟩
    have hi := Row.lt_of_get? hv
    rw [h2 i (by omega)] at hv
    obtain rfl := Option.some.inj hv
    exact fT_flat st i
  · obtain rfl : T = 0 := by omega
    obtain rfl : d = 0 := by omega
    exact .inl rfl
theorem shK_at (s : St) : ∀ y, y < 15 → atOf (shK s).σ y = some y := by
  intro y hy
  have e : ∀ s, (List.range 15).all (fun y => match atOf (shK s).σ y with | some x => Nat.beq x y | none => false) = true := by intro s; kernel_rfl
  have h2 := List.all_eq_true.1 (e s) y (by simpa using hy)
  split at h2
  · rename_i x hx; rw [hx, Nat.eq_of_beq_eq_true h2]
  · cases h2
theorem shK_16 (s : St) : atOf (shK s).σ 16 = some 16 := rfl
theorem shK_tok (s : St) {i : Nat} (h : i < 200) : atOf (shK s).σ (18 + i) = some (18 + i) := atOf_tok (l := [0, 1, 2, 3, 4, 5, 6, 7, 8, 9, 10, 11, 12, 13, 14, blkElse (Tget s.1 11) 15, 16, 17]) rfl h
theorem step_take {W : World} {N c st n L T i q : Nat} {f : Nat → Value} {r : Nat → Rc} {z : Int} {a : Act} {w : World} {Q : Exit → Act → World → Prop} (hi : i < N) (h200 : i < 200) (hz : f i = i64 z) (hq : bandF z 3 = .ofNat q) (hq0 : q ≠ 0) (hq1 : q ≠ 1) (h16 : OneForm (.ro (rowFn f (N * 1)) 3))
    (h : Inv W (scr N c) (.ro (rowFn f (N * 1)) 3) st n (L + 1) T i r a w) (hQ : ∀ T' a' w', a'.defers = a.defers → Inv W (scr N c) (.ro (rowFn f (N * 1)) 3) st n (L + 1) T' (i + 1) r a' w' → Q .normal a' w') : lp.wp Tryd.prog Q a w := by
  obtain ⟨hb, B, m0, j0, hkp0, hG0, hT0, hr0⟩ := h
  obtain ⟨k, _, hk⟩ := bandF_lt (shrF z 2) (c := 65535) (by decide)
  have hL := hb.li
  unfold SS sl ob at hT0 hr0
  -- number 17 names nothing
  obtain ⟨m, jt, _, hG, hT, hr, hat0⟩ := canonW (S := shC) (S2 := fun jt _ => SL ⟨scr N c, sliceV 13 (L + 1), sliceV 14 (L + 1), sliceV 15 T⟩ ⟨sliceV 11 n, rowV (fP 0) 2 48 n, rowV (fO r) 9 34 (L + 1), .dead, rowV (fT st) 1 9 T, .ro (rowFn f (N * 1)) 3, .dead⟩ st (st + T) T n i jt)
    (fun _ => rfl) (fun jt _ y h => zOkS9 (shC_at 10 (by decide)) (fix_sliceV (shC_at 11 (by decide)) n) (FixO.of_one (one_posts n)) (FixO.of_one (one_ops r (L + 1))) FixO.dead (FixO.of_one (one_told st T)) (FixO.of_one h16) FixO.dead y h)
    (fun jt _ y h => ztOk (zt := [1, 9, 10, 11]) rfl (fix_scr (shC_at 16 (by decide)) N c) (fix_sliceV (shC_at 13 (by decide)) (L + 1)) (fix_sliceV (shC_at 14 (by decide)) (L + 1)) (fix_sliceV (shC_at 15 (by decide)) T) y h) (fun jt jh => clr _ _ _ _ _ _ _ _ _ _ _ _ _ jt jh) hT0 hr0 hG0
  have hkp : Kept W B m (L + 1) r (.ro (rowFn f (N * 1)) 3) := hkp0.agree (by omega) (hat0 14 14 (shC_at 14 (by decide))) (hat0 16 16 (shC_at 16 (by decide))) (fun j hj => hat0 _ _ (shC_tok hj))
  have h17n : m 17 = none := (hat0 17 1017 rfl).trans (hr0.fresh 1017 (by rw [SL_next]; decide) (show 1017 < 1099511627776 by decide)).2
  have hx : k % (L + 1) < L + 1 := Nat.mod_lt _ (Nat.succ_pos _)
  obtain ⟨x, ex⟩ : ∃ x, x = k % (L + 1) := ⟨_, rfl⟩
  rw [← ex] at hx
  obtain ⟨b1, b2, b3, b4, b5⟩ := hb.ok x hx
  obtain ⟨l14, o14, p1, p2, p3, p4⟩ := hkp.rep (Nat.succ_pos L)
  -- what is read is laid
  have hlay : ∃ m1 O17, Mu.le m m1 ∧ (0 < (r x).c → rowIn O17 = some (rowFn (fP (r x).fr) ((r x).c * 2))) ∧ (∀ y, y ≠ 17 → m1 y = m y) ∧
      Rel Tryd.prog B m1 (SL ⟨scr N c, sliceV 13 (L + 1), sliceV 14 (L + 1), sliceV 15 T⟩ ⟨sliceV 11 n, rowV (fP 0) 2 48 n, rowV (fO r) 9 34 (L + 1), .ro (rowFn (gR r x) ((L + 1) * 3)) 30, rowV (fT st) 1 9 T, .ro (rowFn f (N * 1)) 3, O17⟩ st (st + T) T n i jt).2 w := by
    have lay14 : ∀ m1 : Mu, (0 < (r x).c → ∀ l, m (18 + x) = some l → m1 17 = some l) → (∀ y, y ≠ 17 → m1 y = m y) → ∀ {v : Sl} {Vp : Value} {O11 O13 O15 O16 O17 : AObj} {st a t n i : Nat} {jt : Nat → Value}, Rel Tryd.prog B m1 (SL v ⟨Vp, O11, O13, .dead, O15, O16, O17⟩ st a t n i jt).2 w →
        Rel Tryd.prog B m1 (SL v ⟨Vp, O11, O13, .ro (rowFn (gR r x) ((L + 1) * 3)) 30, O15, O16, O17⟩ st a t n i jt).2 w := by
      intro m1 h1 h2 v Vp O11 O13 O15 O16 O17 st a t n i jt hr1
      rw [← put14S v Vp O11 O13 O15 O16 O17]
      refine hr1.putRo (l := l14) (get14 ..) (by rw [SL_next]; decide) (by rw [h2 14 (by decide)]; exact p1) (by rw [p3]; intro q; cases q) ?_
      refine okRow_ro (m := m) (c := rowFn (fR r) ((L + 1) * 3)) (t := 30) rfl (fun j v hv => ?_) (p4 w (hr1.prot _ _ p3))
      obtain ⟨hj, rfl⟩ := rowFn_lt hv
      obtain ⟨s1, s2⟩ := fR_lt hj
      refine ⟨_, rowFn_get? _ _ _ hj, fun v' hv' => ?_⟩
      unfold gR
      split
      · rename_i hjx
        have hjx := Nat.eq_of_beq_eq_true hjx
        unfold fR at hv'
        rw [hjx] at hv'
        exact repC_agree h1 _ s2 hv'
      · exact repC_any _ s2 hv'
    by_cases hc : 0 < (r x).c
    · obtain ⟨l, o, s1, s2, s3⟩ := hkp.k0.posts x hx hc
      have hle : Mu.le m (m.add 17 l) := Mu.le_add h17n
      have hne : ∀ y, y ≠ 17 → (m.add 17 l) y = m y := fun y hy => by unfold Mu.add; rw [if_neg hy]
      refine ⟨m.add 17 l, .ro (rowFn (fP (r x).fr) ((r x).c * 2)) 48, hle, fun _ => rfl, hne, ?_⟩
      have q1 := lay14 (m.add 17 l) (fun _ l' hl' => by rw [Mu.add_self]; rw [s1] at hl'; exact hl') hne (hr.nameAt h17n (by rw [SL_next]; decide) l)
      rw [← put17S]
      refine q1.putRo (l := l) (get17 ..) (by rw [SL_next]; decide) (Mu.add_self _ _ _) (by rw [s2]; intro q; cases q) ?_
      exact okRow_ro rfl (fun j v hv => ⟨v, hv, fun v' hv' => by
        obtain ⟨_, rfl⟩ := rowFn_lt hv
        exact FixV.flat (σ := []) (fP_flat _ _) m _ v' (fun y hy => by cases hy) hv'⟩) (s3 w (q1.prot _ _ s2))
    · exact ⟨m, .dead, Mu.le_refl m, fun h => absurd h hc, fun _ _ => rfl, lay14 m (fun h => absurd h hc) (fun _ _ => rfl) hr⟩
  obtain ⟨m1, O17, hle1, hO17, hne1, hr1⟩ := hlay
  have hT1 := hT.mono hle1
  have hG1 := hG.mono hle1
  have hkp1 : Kept W B m1 (L + 1) r (.ro (rowFn f (N * 1)) 3) := hkp.agree (by omega) (hne1 14 (by decide)) (hne1 16 (by decide)) (fun j _ => hne1 _ (by omega))
  obtain ⟨kn, ekn⟩ : ∃ kn, kn = min (r x).c (st + T - (r x).fr) := ⟨_, rfl⟩
  obtain ⟨d, hd⟩ : ∃ d, kn + d = (r x).c := ⟨(r x).c - kn, by omega⟩
  have hTn := hb.tn
  have hni := hb.ni
  have hst := hb.st15
  have hs := fun jt' jh => tak_run N c (sliceV 14 (L + 1)) (sliceV 11 n) (fT st) (rowV (fP 0) 2 48 n) (rowV (fO r) 9 34 (L + 1)) (.ro (rowFn (gR r x) ((L + 1) * 3)) 30) (.ro (rowFn f (N * 1)) 3) O17 st (st + T) T n i k q L x (r x).fr (r x).m (r x).at_ (r x).c kn z jt jt' jh d (by omega) (by omega)
  unfold tak1 tak2 at hs
  obtain ⟨R, hR⟩ : ∃ R, rndK N c (sliceV 14 (L + 1)) (sliceV 11 n) (fT st) (rowV (fP 0) 2 48 n) (rowV (fO r) 9 34 (L + 1)) (.ro (rowFn (gR r x) ((L + 1) * 3)) 30) (.ro (rowFn f (N * 1)) 3) O17 st (st + T) T n i k q L x (r x).fr (r x).m (r x).at_ (r x).c kn z jt d = R := ⟨_, rfl⟩
  rw [hR] at hs
  obtain ⟨tp, hx2⟩ := norm_of (r := R) (Prod.mk.inj (hs jt (fun _ _ => undef))).1
  have hno : NotedOk (takN (sliceV 14 (L + 1)) (rowV (fO r) 9 34 (L + 1)) (.ro (rowFn (gR r x) ((L + 1) * 3)) 30) O17 st i (st + T) T k q L x (r x).fr (r x).m (r x).at_ (r x).c kn d) := by
    have g13 := ld_op (r := r) hx
    have g14 := ld_re (r := r) hx
    have := takN_ok (V10 := sliceV 14 (L + 1)) (O13 := rowV (fO r) 9 34 (L + 1)) (O14 := .ro (rowFn (gR r x) ((L + 1) * 3)) 30) (O17 := O17) (st := st) (i := i) (a := st + T) (T := T) (k := k) (q := q) (L := L) (fr := (r x).fr) (m := (r x).m) (at_ := (r x).at_) (c := (r x).c) (kn := kn) (d := d) hq0 hq1 rfl (by rw [← ex]; exact g13) (by rw [← ex]; exact g14) (fun h => hO17 (by omega)) b2 b3 (fun h => (b4 h).1) b5 b1 rfl (by omega) ekn hd h200 (by omega)
    rw [← ex] at this
    exact this
  refine oneE_wp (n := 187) (mk := mkR 3) (K := 1000) (e := .normal) (s := SL ⟨scr N c, sliceV 13 (L + 1), sliceV 14 (L + 1), sliceV 15 T⟩ ⟨sliceV 11 n, rowV (fP 0) 2 48 n, rowV (fO r) 9 34 (L + 1), .ro (rowFn (gR r x) ((L + 1) * 3)) 30, rowV (fT st) 1 9 T, .ro (rowFn f (N * 1)) 3, O17⟩ st (st + T) T n i jt) (s' := stOf R) entersOk zerosOk CBok CCok DCok DBok plL okL (hR.trans hx2) (revN_ok _ _ (hdN_ok hi h200 hz hk hq hno) NotedOk.nil) hT1 hr1 hG1 ?_
  intro m2 a2 w2 x2 g2 t2 d2 q2
  have q3 : Rel Tryd.prog B m2 (deadK (stOf R)).2 w2 := by
    show Rel Tryd.prog B m2 (heapPut (heapPut (stOf R).2 14 .dead) 17 .dead) w2
    rw [heapPut_eq, heapPut_eq]
    exact (q2.kill 14).kill 17
  obtain ⟨m3, j3, _, g3, t3, q4, hat⟩ := canonW (S := shK (stOf R)) (S2 := fun jt _ => SL ⟨scr N c, sliceV 13 (L + 1), sliceV 14 (L + 1), sliceV 15 (T + d)⟩ ⟨sliceV 11 n, rowV (fP 0) 2 48 n, rowV (fO r) 9 34 (L + 1), .dead, toldO (fT st) T (st + T) d, .ro (rowFn f (N * 1)) 3, .dead⟩ st (st + T + d) (T + d) n (i + 1) jt)
    (fun _ => rfl) (fun jt _ y h => zOkS9 (shK_at _ 10 (by decide)) (fix_sliceV (shK_at _ 11 (by decide)) n) (FixO.of_one (one_posts n)) (FixO.of_one (one_ops r (L + 1))) FixO.dead (FixO.of_one (toldO_one st T d)) (FixO.of_one h16) FixO.dead y h)
    (fun jt _ y h => by
      have hy : y = 1 ∨ y = 10 := by
        simp only [shK, inL, List.any_cons, List.any_nil, Bool.or_false, Bool.or_eq_true, Nat.beq_eq] at h
        exact h
      rcases hy with rfl | rfl
      · exact fix_scr (shK_16 _) N c
      · exact fix_sliceV (shK_at _ 14 (by decide)) (L + 1)) (fun jt jh => (Prod.mk.inj (hs jt jh)).2) (s := deadK (stOf R)) t2 q3 g2
  have ag : ∀ y, y < 218 → atOf (shK (stOf R)).σ y = some y → m3 y = m1 y := fun y hy he => (hat y y he).trans (x2.2 y (.inl (by rw [SL_next]; exact hy)))
  have hbd : Bd st n (L + 1) (T + d) (i + 1) r := by
    refine ⟨hst, by omega, by omega, by omega, ?_, fun j hj => (hb.ok j hj).mono (Nat.le_refl _) (by omega)⟩
    rcases Nat.eq_zero_or_pos (r x).c with h0 | h0
    · omega
    · have := (b4 h0).2
      omega
  have hkp3 : Kept W B m3 (L + 1) r (.ro (rowFn f (N * 1)) 3) := hkp1.agree (by omega) (ag 14 (by decide) (shK_at _ 14 (by decide))) (ag 16 (by decide) (shK_16 _)) (fun j hj => ag (18 + j) (by omega) (shK_tok _ hj))
  rw [Nat.add_assoc st T d] at t3 q4
  refine hQ (T + d) a2 w2 d2 ⟨hbd, B, m3, j3, hkp3, g3, t3, ?_⟩
  by_cases h0 : 0 < T + d
  · obtain ⟨h1, h2⟩ := toldR_row st T (st + T) rfl d h0
    rw [toldO_cells h0] at q4
    refine re15 (o := rowV (fT st) 1 9 (T + d)) q4 (by intro q; cases q) ?_ (fun l h => ?_)
    · obtain ⟨u, hu⟩ : ∃ u, T + d = u + 1 := ⟨T + d - 1, by omega⟩
      rw [hu]; rfl
    · obtain ⟨u, hu⟩ : ∃ u, T + d = u + 1 := ⟨T + d - 1, by omega⟩
      rw [hu, rowV_succ, ← hu]
      exact okRow_map (by rw [h1]; exact Nat.mul_one _) (fun j v hv => by
        obtain ⟨hj, rfl⟩ := rowFn_lt hv
        exact ⟨_, h2 j (by omega), fun v' hv' => hv'⟩) h
  · obtain rfl : T = 0 := by omega
    obtain rfl : d = 0 := by omega
    exact q4
end Go.Proofs.YtbkgnlcjnimpcaaDoor.fanWhole
