/- FanWhole: a round that asks. -/
import Derived.Test.YtbkgnlcjnimpcaaDoorFanWholeK
import Derived.Test.YtbkgnlcjnimpcaaDoorFanWholeD
import Derived.Test.YtbkgnlcjnimpcaaDoorFanWholeE
namespace Go.Proofs.YtbkgnlcjnimpcaaDoor.fanWhole
open Go Go.Ab Go.RowKit
set_option maxRecDepth 100000
theorem ask_run (N c1 : Nat) (V11 : Value) (fO fR : Nat → Value) (O11 O15 O16 : AObj) (st a t n i k y b L : Nat) (z : Int) (e : Bool) (j0 jt : Nat → Value) (jh : Nat → Nat → Value) (c : Nat) (h0 : n = 0 → c = 0 ∧ e = false) (hc : c < 17) (he : e = false → c < 16) :
    ask1 N c1 V11 (sliceV 11 n) fO fR O11 O15 O16 st a t n i k y b L z e j0 jt jh c = ask2 N c1 V11 (sliceV 11 n) fO fR O11 O15 O16 st a t n i k y b L z e j0 jt c := by
  cases n with
  | zero =>
    obtain ⟨rfl, rfl⟩ := h0 rfl
    cases L with
    | zero => exact upTo_eq _ _ (ask_n0 N c1 V11 fO fR O11 O15 O16 st a t 0 i k y b 0 z j0 jt jh) 0 (Nat.zero_le _) (by decide)
    | succ L => exact upTo_eq _ _ (ask_n1 N c1 V11 fO fR O11 O15 O16 st a t 0 i k y b L z j0 jt jh) 0 (Nat.zero_le _) (by decide)
  | succ n =>
    cases e with
    | false =>
      cases L with
      | zero => exact upTo_eq _ _ (ask_f0 N c1 V11 fO fR O11 O15 O16 st a t (n + 1) i k y b 0 z j0 jt jh) c (Nat.zero_le _) (by have := he rfl; omega)
      | succ L => exact upTo_eq _ _ (ask_f1 N c1 V11 fO fR O11 O15 O16 st a t (n + 1) i k y b L z j0 jt jh) c (Nat.zero_le _) (by have := he rfl; omega)
    | true =>
      cases L with
      | zero => exact upTo_eq _ _ (ask_t0 N c1 V11 fO fR O11 O15 O16 st a t (n + 1) i k y b 0 z j0 jt jh) c (Nat.zero_le _) (by omega)
      | succ L => exact upTo_eq _ _ (ask_t1 N c1 V11 fO fR O11 O15 O16 st a t (n + 1) i k y b L z j0 jt jh) c (Nat.zero_le _) (by omega)
/-- The replies' row is taken up. -/
theorem live_ro {x : Ob} {a t c : Nat} (h11 : isRo x.O11 = false) (h13 : isRo x.O13 = false) (h14 : isRo x.O14 = false) (h15 : isRo x.O15 = false) (h17 : isRo x.O17 = false) (h : isRo ((heapOf x (feedO a t)).get c) = true) : c = 16 := by
  rw [heapOf_get] at h
  rcases Nat.lt_or_ge c 18 with hc | hc
  · match c, hc with
    | 0, _ => cases h
    | 1, _ => cases h
    | 2, _ => cases h
    | 3, _ => cases h
    | 4, _ => cases h
    | 5, _ => cases h
    | 6, _ => cases h
    | 7, _ => cases h
    | 8, _ => cases h
    | 9, _ => cases h
    | 10, _ => cases h
    | 11, _ => exact absurd ((show isRo x.O11 = true from h).symm.trans h11) (by decide)
    | 12, _ => cases h
    | 13, _ => exact absurd ((show isRo x.O13 = true from h).symm.trans h13) (by decide)
    | 14, _ => exact absurd ((show isRo x.O14 = true from h).symm.trans h14) (by decide)
    | 15, _ => exact absurd ((show isRo x.O15 = true from h).symm.trans h15) (by decide)
    | 16, _ => rfl
    | 17, _ => exact absurd ((show isRo x.O17 = true from h).symm.trans h17) (by decide)
  · rw [List.getD_eq_getElem?_getD, List.getElem?_eq_none (by show 18 ≤ c; exact hc)] at h
    cases h
theorem ro_rowV (f : Nat → Value) (s t n : Nat) : isRo (rowV f s t n) = false := by cases n <;> rfl
theorem elem_ne {P : Program} {m m' : Mu} {l l' : Ab.Loc} {w : World} {c c' : Row} {t t' : TypeId} (h : OKObj P m l w (.cells c t)) (h' : OKObj P m' l' w (.cells c' t')) (ht : t ≠ t') : l.blk ≠ l'.blk := by
  intro e
  obtain ⟨C, fr, h1, _⟩ := h
  obtain ⟨C', fr', h2, _⟩ := h'
  rw [e, h2] at h1
  cases h1
  exact ht rfl
theorem rep_up {W : World} {B : Base} {m : Mu} {L n T : Nat} {r : Nat → Rc} {st a t n' i : Nat} {v : Sl} {jt : Nat → Value} {w : World} {O16 : AObj} (hk : Kept W B m L r O16) (hr : Rel Tryd.prog B m (SL v ⟨sliceV 11 n, rowV (fP 0) 2 48 n, rowV (fO r) 9 34 L, .dead, rowV (fT st) 1 9 T, O16, .dead⟩ st a t n' i jt).2 w) :
    ∃ B0, Kept0 W B0 m L r O16 ∧ Rel Tryd.prog B0 m (SL v ⟨sliceV 11 n, rowV (fP 0) 2 48 n, rowV (fO r) 9 34 L, rowV (fR r) 3 30 L, rowV (fT st) 1 9 T, O16, .dead⟩ st a t n' i jt).2 w := by
  cases L with
  | zero => exact ⟨B, hk.k0, hr⟩
  | succ L =>
    obtain ⟨l, o, p1, p2, p3, p4⟩ := hk.rep (Nat.succ_pos L)
    have hw := hr.prot _ _ p3
    have hok := p4 w hw
    refine ⟨B.without l.blk, ⟨fun k hk2 => ?_, hk.k0.os, hk.k0.tape, hk.k0.output, fun j hj hc => ?_, hk.k0.free, hk.k0.scr⟩, ?_⟩
    · show (if k = l.blk then none else B.prot k) = _
      rw [if_neg (by omega)]
      exact hk.k0.base k hk2
    · obtain ⟨l2, o2, s1, s2, s3⟩ := hk.k0.posts j hj hc
      refine ⟨l2, o2, s1, ?_, s3⟩
      show (if l2.blk = l.blk then none else B.prot l2.blk) = _
      rw [if_neg (elem_ne (s3 w (hr.prot _ _ s2)) hok (by decide))]
      exact s2
    · rw [rowV_succ (fR r), ← put14S]
      refine hr.takeUp (l := l) (get14 ..) (by rw [SL_next]; decide) p1 (fun c hc l' hl' => ?_) rfl hok
      obtain ⟨l2, s1, s2, _⟩ := hr.obj c hc
      rw [hl'] at s1
      obtain rfl := Option.some.inj s1
      cases hro : isRo ((SL v ⟨sliceV 11 n, rowV (fP 0) 2 48 n, rowV (fO r) 9 34 (L + 1), .dead, rowV (fT st) 1 9 T, O16, .dead⟩ st a t n' i jt).2.get c) with
      | false =>
        have := protOf_none s2 hro
        intro e
        rw [e, p3] at this
        cases this
      | true =>
        rw [SL_heap] at hro hc
        have e16 := live_ro (ro_rowV (fP 0) 2 48 n) (ro_rowV (fO r) 9 34 (L + 1)) rfl (ro_rowV (fT st) 1 9 T) rfl hro
        subst e16
        have hO : O16 ≠ .dead := by
          intro e
          apply hc
          rw [heapOf_get]
          exact e
        obtain ⟨l3, u1, u2⟩ := hk.k0.scr hO
        rw [hl'] at u1
        obtain rfl := Option.some.inj u1
        omega
theorem with_of {B : Base} {k k2 : Nat} {o o2 : Obj} (h : B.prot k = some o) (h2 : B.prot k2 = none) : (B.with k2 o2).prot k = some o := by
  show (if k = k2 then some o2 else B.prot k) = some o
  rw [if_neg (by rintro rfl; rw [h] at h2; cases h2)]
  exact h
theorem Kept0.with {W : World} {B : Base} {m : Mu} {L : Nat} {r : Nat → Rc} {O16 : AObj} (hk : Kept0 W B m L r O16) {b : Nat} {o : Obj} (hb : B.prot b = none) : W.heap.size ≤ b ∧ Kept0 W (B.with b o) m L r O16 := by
  have hs : W.heap.size ≤ b := by
    rcases Nat.lt_or_ge b W.heap.size with h | h
    · have := hk.base b h
      rw [hb, Array.getElem?_eq_getElem h] at this
      cases this
    · exact h
  refine ⟨hs, ⟨fun k hk2 => ?_, hk.os, hk.tape, hk.output, fun j hj hc => ?_, hk.free, hk.scr⟩⟩
  · show (if k = b then some o else B.prot k) = _
    rw [if_neg (by omega)]
    exact hk.base k hk2
  · obtain ⟨l2, o2, s1, s2, s3⟩ := hk.posts j hj hc
    exact ⟨l2, o2, s1, with_of s2 hb, s3⟩
def rNew (r : Nat → Rc) (L : Nat) (x : Rc) (j : Nat) : Rc := match Nat.beq j L with
  | true => x
  | false => r j
theorem rNew_old {r : Nat → Rc} {L : Nat} {x : Rc} {j : Nat} (h : j < L) : rNew r L x j = r j := by
  unfold rNew
  rw [show Nat.beq j L = false by rw [Bool.eq_false_iff]; intro q; have := Nat.eq_of_beq_eq_true q; omega]
theorem rNew_new (r : Nat → Rc) (L : Nat) (x : Rc) : rNew r L x L = x := by
  unfold rNew
  rw [Nat.beq_refl]
theorem ops_more (r : Nat → Rc) (L : Nat) (x : Rc) (j : Nat) (hj : j < (L + 1) * 9) : (if j < L * 9 then some (fO r j) else (opL x.fr x.m)[j - L * 9]?) = some (fO (rNew r L x) j) := by
  unfold fO
  by_cases h : j < L * 9
  · rw [if_pos h, rNew_old (by omega)]
  · rw [if_neg h, show j / 9 = L by omega, rNew_new, show j - L * 9 = j % 9 by omega]
    have h9 : j % 9 < (opL x.fr x.m).length := Nat.mod_lt _ (by decide)
    rw [List.getD_eq_getElem?_getD, List.getElem?_eq_getElem h9]
    rfl
theorem rep_el (q b c j : Nat) (h : j < 3) : (repL q b c)[j]? = some ((repC q (b + c) c).getD j undef) := by
  rcases (show j = 0 ∨ j = 1 ∨ j = 2 by omega) with rfl | rfl | rfl <;> rfl
theorem step_ask {W : World} {N c1 st n L T i : Nat} {f : Nat → Value} {r : Nat → Rc} {z : Int} {a : Act} {w : World} {Q : Exit → Act → World → Prop} (hi : i < N) (h200 : i < 200) (hz : f i = i64 z) (hq : bandF z 3 = .ofNat 1) (h16 : OneForm (.ro (rowFn f (N * 1)) 3))
    (h : Inv W (scr N c1) (.ro (rowFn f (N * 1)) 3) st n L T i r a w) (hQ : ∀ r' a' w', a'.defers = a.defers → Inv W (scr N c1) (.ro (rowFn f (N * 1)) 3) st n (L + 1) T (i + 1) r' a' w' → Q .normal a' w') : lp.wp Tryd.prog Q a w := by
  obtain ⟨hb, B, m, jt, hkp, hG, hT, hr⟩ := h
  obtain ⟨k, _, hk⟩ := bandF_lt (shrF z 2) (c := 65535) (by decide)
  obtain ⟨y, hy15, hy⟩ := bandF_lt (.ofNat k) (c := 15) (by decide)
  have hL := hb.li
  have hTn := hb.tn
  have hni := hb.ni
  have hst := hb.st15
  unfold SS sl ob at hT hr
  obtain ⟨B0, hk0, hr0⟩ := rep_up hkp hr
  obtain ⟨b, eb⟩ : ∃ b, b = min n (st + T) := ⟨_, rfl⟩
  obtain ⟨c, ec⟩ : ∃ c, c = min (y + 1) (n - b) := ⟨_, rfl⟩
  obtain ⟨e, he⟩ : ∃ e : Bool, match e with | true => c = y + 1 | false => c < y + 1 ∧ b + c = n := by
    by_cases h : c = y + 1
    · exact ⟨true, h⟩
    · exact ⟨false, by show c < y + 1 ∧ b + c = n; omega⟩
  have he0 : e = false → c < y + 1 := fun q => by subst q; exact he.1
  have hs := fun jt' jh => ask_run N c1 (sliceV 15 T) (fO r) (fR r) (rowV (fP 0) 2 48 n) (rowV (fT st) 1 9 T) (.ro (rowFn f (N * 1)) 3) st (st + T) T n i k y b L z e jt jt' jh c (fun h0 => ⟨by omega, by cases e with
    | true => have : c = y + 1 := he; omega
    | false => rfl⟩) (by omega) (fun q => by have := he0 q; omega)
  unfold ask1 ask2 askL askR at hs
  obtain ⟨R, hR⟩ : ∃ R, rndA N c1 (sliceV 15 T) (sliceV 11 n) (fO r) (fR r) (rowV (fP 0) 2 48 n) (rowV (fT st) 1 9 T) (.ro (rowFn f (N * 1)) 3) st (st + T) T n i k y b L z e jt c = R := ⟨_, rfl⟩
  rw [hR] at hs
  obtain ⟨tp, hx⟩ := norm_of (r := R) (Prod.mk.inj (hs jt (fun _ _ => undef))).1
  have hRo : (stOf R).2.get (bR (stOf R)) = moreO (fR r) 3 30 (repL (bQ (stOf R)) b c) L := (heapGet_eq _ _).symm.trans (Prod.mk.inj (Prod.mk.inj (hs jt (fun _ _ => undef))).2).1
  have hQo : (stOf R).2.get (bQ (stOf R)) = rowV (fP b) 2 48 c := (heapGet_eq _ _).symm.trans (Prod.mk.inj (Prod.mk.inj (Prod.mk.inj (hs jt (fun _ _ => undef))).2).2).1
  refine oneE_wp (n := 187) (mk := mkR 3) (K := 1000) (e := .normal) (s := SL ⟨scr N c1, sliceV 13 L, sliceV 14 L, sliceV 15 T⟩ ⟨sliceV 11 n, rowV (fP 0) 2 48 n, rowV (fO r) 9 34 L, rowV (fR r) 3 30 L, rowV (fT st) 1 9 T, .ro (rowFn f (N * 1)) 3, .dead⟩ st (st + T) T n i jt) (s' := stOf R) entersOk zerosOk CBok CCok DCok DBok plL okL (hR.trans hx) (revN_ok _ _ (hdN_ok hi h200 hz hk hq (askN_ok (fun h0 => ⟨by
      obtain ⟨u, hu⟩ : ∃ u, n = u + 1 := ⟨n - 1, by omega⟩
      rw [hu]; rfl, rowIn_rowV (by omega)⟩) hy hy15 (by omega) (by omega) (by omega) h200 eb (by omega) (by omega) he)) NotedOk.nil) hT hr0 hG ?_
  intro m1 a1 w1 x1 g1 t1 d1 q1
  -- the replies' row is put by
  obtain ⟨RR, r1, r2, r3⟩ := moreO_row (fR r) 3 30 (repL (bQ (stOf R)) b c) L
  rw [r1] at hRo
  obtain ⟨lR, l1, l2, l3⟩ := q1.obj (bR (stOf R)) (by rw [hRo]; intro q; cases q)
  rw [hRo] at l3
  obtain ⟨oR, o1, o2, q2⟩ := q1.shelve (b := bR (stOf R)) (by rw [hRo]; intro q; cases q) (by rw [hRo]; rfl) l1
  have hk1 : Kept0 W B0 m1 L r (.ro (rowFn f (N * 1)) 3) := hk0.agree (by omega) (x1.2 16 (.inl (by rw [SL_next]; decide))) (fun j hj => x1.2 _ (.inl (by rw [SL_next]; omega)))
  obtain ⟨hsR, hk2⟩ := hk1.with (o := oR) o2
  have hhR : HoldsO Tryd.prog m1 lR oR (.cells RR 30) := holds_of l3 o1
  -- so are the posts that came
  have hpo : ∃ B2, Kept0 W B2 m1 L r (.ro (rowFn f (N * 1)) 3) ∧ B2.prot lR.blk = some oR ∧ Rel Tryd.prog B2 m1 (dead2 (stOf R)).2 w1 ∧
      (0 < c → ∃ l o, m1 (bQ (stOf R)) = some l ∧ B2.prot l.blk = some o ∧ HoldsO Tryd.prog m1 l o (.cells (rowFn (fP b) (c * 2)) 48)) := by
    have ed : (dead2 (stOf R)).2 = ((stOf R).2.put (bR (stOf R)) .dead).put (bQ (stOf R)) .dead := by
      show heapPut (heapPut (stOf R).2 _ _) _ _ = _
      rw [heapPut_eq, heapPut_eq]
    rw [ed]
    by_cases hc : 0 < c
    · obtain ⟨u, hu⟩ : ∃ u, c = u + 1 := ⟨c - 1, by omega⟩
      rw [hu, rowV_succ, ← hu] at hQo
      have hne : bQ (stOf R) ≠ bR (stOf R) := by
        intro q
        rw [q, hRo] at hQo
        cases hQo
      have hQ2 : ((stOf R).2.put (bR (stOf R)) .dead).get (bQ (stOf R)) = .cells (rowFn (fP b) (c * 2)) 48 := by
        rw [AHeap.get_put, if_neg hne]; exact hQo
      obtain ⟨lQ, u1, u2, u3⟩ := q2.obj (bQ (stOf R)) (by rw [hQ2]; intro q; cases q)
      rw [hQ2] at u3
      obtain ⟨oQ, v1, v2, q3⟩ := q2.shelve (b := bQ (stOf R)) (by rw [hQ2]; intro q; cases q) (by rw [hQ2]; rfl) u1
      exact ⟨_, (hk2.with (o := oQ) v2).2, with_of (with_prot B0 lR.blk oR) v2, q3, fun _ => ⟨lQ, oQ, u1, with_prot _ _ _, holds_of u3 v1⟩⟩
    · exact ⟨_, hk2, with_prot B0 lR.blk oR, q2.kill _, fun q => absurd q hc⟩
  obtain ⟨B2, hk3, hpR, q3, hpQ⟩ := hpo
  obtain ⟨sh, esh⟩ : ∃ sh, sh = shOf toks [1, 11] (pOf (stOf R)) (bO (stOf R)) (bR (stOf R)) 15 (bQ (stOf R)) (dead2 (stOf R)) := ⟨_, rfl⟩
  have f11 := sh11 toks [1, 11] (pOf (stOf R)) (bO (stOf R)) (bR (stOf R)) 15 (bQ (stOf R)) (dead2 (stOf R))
  have f14 := sh14 toks [1, 11] (pOf (stOf R)) (bO (stOf R)) (bR (stOf R)) 15 (bQ (stOf R)) (dead2 (stOf R))
  have f15 := sh15 toks [1, 11] (pOf (stOf R)) (bO (stOf R)) (bR (stOf R)) 15 (bQ (stOf R)) (dead2 (stOf R))
  have f16 := sh16 toks [1, 11] (pOf (stOf R)) (bO (stOf R)) (bR (stOf R)) 15 (bQ (stOf R)) (dead2 (stOf R))
  have f17 := sh17 toks [1, 11] (pOf (stOf R)) (bO (stOf R)) (bR (stOf R)) 15 (bQ (stOf R)) (dead2 (stOf R))
  have fT18 : ∀ {j : Nat}, j < 200 → atOf (shOf toks [1, 11] (pOf (stOf R)) (bO (stOf R)) (bR (stOf R)) 15 (bQ (stOf R)) (dead2 (stOf R))).σ (18 + j) = some (18 + j) := fun h => shT _ _ _ _ _ _ _ h
  obtain ⟨m2, j2, _, g2, t2, q4, hat⟩ := canonW (S := shOf toks [1, 11] (pOf (stOf R)) (bO (stOf R)) (bR (stOf R)) 15 (bQ (stOf R)) (dead2 (stOf R))) (S2 := fun jt _ => SL ⟨scr N c1, sliceV 13 (L + 1), sliceV 14 (L + 1), sliceV 15 T⟩ ⟨sliceV 11 n, rowV (fP 0) 2 48 n, moreO (fO r) 9 34 (opL (st + T) y) L, .dead, rowV (fT st) 1 9 T, .ro (rowFn f (N * 1)) 3, .dead⟩ st (st + T) T n (i + 1) jt)
    (fun _ => rfl) (fun jt _ y2 h => zOkS (FixO.of_one (one_posts n)) (FixO.of_one (moreO_one (fun j => fO_flat r j) (opL_flat (st + T) y))) FixO.dead (FixO.of_one (one_told st T)) (FixO.of_one h16) FixO.dead y2 h)
    (fun jt _ y2 h => by
      have hy2 : y2 = 1 ∨ y2 = 11 := by
        simp only [shOf, inL, List.any_cons, List.any_nil, Bool.or_false, Bool.or_eq_true, Nat.beq_eq] at h
        exact h
      rcases hy2 with rfl | rfl
      · exact fix_scr f16 N c1
      · exact fix_sliceV f15 T) (fun jt jh => (Prod.mk.inj (Prod.mk.inj (Prod.mk.inj (hs jt jh)).2).2).2) (s := dead2 (stOf R)) t1 q3 g1
  have ag : ∀ j, j < 200 → m2 (18 + j) = m1 (18 + j) := fun j hj => hat _ _ (fT18 hj)
  have hk4 : Kept0 W B2 m2 L r (.ro (rowFn f (N * 1)) 3) := hk3.agree (by omega) (hat 16 16 f16) ag
  have hR14 : m2 14 = some lR := (hat 14 _ f14).trans l1
  -- the posts that came are named
  have hname : ∃ m3, Mu.le m2 m3 ∧ (∀ j, j ≠ 18 + L → m3 j = m2 j) ∧ Rel Tryd.prog B2 m3 (SL ⟨scr N c1, sliceV 13 (L + 1), sliceV 14 (L + 1), sliceV 15 T⟩ ⟨sliceV 11 n, rowV (fP 0) 2 48 n, moreO (fO r) 9 34 (opL (st + T) y) L, .dead, rowV (fT st) 1 9 T, .ro (rowFn f (N * 1)) 3, .dead⟩ st (st + T) T n (i + 1) j2).2 w1 ∧
      (0 < c → ∃ l o, m1 (bQ (stOf R)) = some l ∧ m3 (18 + L) = some l ∧ B2.prot l.blk = some o ∧ HoldsO Tryd.prog m1 l o (.cells (rowFn (fP b) (c * 2)) 48)) := by
    by_cases hc : 0 < c
    · obtain ⟨l, o, u1, u2, u3⟩ := hpQ hc
      have hfree : m2 (18 + L) = none := hk4.free L (Nat.le_refl _) (by omega)
      exact ⟨m2.add (18 + L) l, Mu.le_add hfree, fun j hj => by unfold Mu.add; rw [if_neg hj], q4.nameAt hfree (by rw [SL_next]; omega) l, fun _ => ⟨l, o, u1, Mu.add_self _ _ _, u2, u3⟩⟩
    · exact ⟨m2, Mu.le_refl m2, fun _ _ => rfl, q4, fun q => absurd q hc⟩
  obtain ⟨m3, hle3, hne3, q5, hpQ3⟩ := hname
  obtain ⟨x, ex⟩ : ∃ x : Rc, x = ⟨st + T, y, b + c, c⟩ := ⟨_, rfl⟩
  have hxc : x.c = c := by rw [ex]
  have hxa : x.at_ = b + c := by rw [ex]
  have hxf : x.fr = st + T := by rw [ex]
  have hxm : x.m = y := by rw [ex]
  have hbd : Bd st n (L + 1) T (i + 1) (rNew r L x) := by
    refine ⟨hst, by omega, by omega, by omega, hTn, fun j hj => ?_⟩
    rcases Nat.lt_or_ge j L with h | h
    · rw [rNew_old h]; exact hb.ok j h
    · obtain rfl : j = L := by omega
      rw [rNew_new]
      refine ⟨by omega, by omega, by omega, fun h0 => ⟨by omega, by omega⟩, fun h0 => by omega⟩
  have hkk : Kept W B2 m3 (L + 1) (rNew r L x) (.ro (rowFn f (N * 1)) 3) := by
    refine ⟨⟨hk4.base, hk4.os, hk4.tape, hk4.output, fun j hj hc => ?_, fun j h1 h2 => ?_, fun h => ?_⟩, fun _ => ⟨lR, oR, ?_, hsR, hpR, ?_⟩⟩
    · rcases Nat.lt_or_ge j L with h | h
      · rw [rNew_old h] at hc ⊢
        obtain ⟨l, o, u1, u2, u3⟩ := hk4.posts j h hc
        exact ⟨l, o, by rw [hne3 _ (by omega)]; exact u1, u2, holds_flat (posts_one _ _) u3⟩
      · obtain rfl : j = L := by omega
        rw [rNew_new] at hc ⊢
        obtain ⟨l, o, u0, u1, u2, u3⟩ := hpQ3 (by omega)
        refine ⟨l, o, u1, u2, ?_⟩
        have hbf : fP x.fr = fP b := by rw [hxf, show st + T = b by omega]
        rw [hbf, hxc]
        exact holds_flat (posts_one _ _) u3
    · rw [hne3 _ (by omega)]
      exact hk4.free j (by omega) h2
    · rw [hne3 _ (by omega)]
      exact hk4.scr h
    · rw [hne3 _ (by omega)]
      exact hR14
    · intro w' hw'
      refine okRow_map (m := m1) (c := RR) (by rw [r2]; show (L + 1) * 3 = L * 3 + 3; omega) (fun j v hv => ?_) (hhR w' hw')
      obtain ⟨hj, rfl⟩ := rowFn_lt hv
      rw [r3]
      by_cases hjL : j < L * 3
      · refine ⟨_, if_pos hjL, fun v' hv' => ?_⟩
        unfold fR at hv' ⊢
        rw [rNew_old (by omega)]
        refine repC_agree (fun _ l hl => ?_) _ (Nat.mod_lt _ (by decide)) hv'
        rw [hne3 _ (by omega), ag _ (by omega)]
        exact hl
      · have h3 : j - L * 3 < 3 := by omega
        have hel := rep_el (bQ (stOf R)) b c (j - L * 3) h3
        refine ⟨_, (if_neg hjL).trans hel, fun v' hv' => ?_⟩
        unfold fR
        rw [show j / 3 = L by omega, rNew_new, hxa, hxc, show j % 3 = j - L * 3 by omega]
        refine repC_agree (fun h0 l hl => ?_) _ h3 hv'
        obtain ⟨l2, o2, u0, u1, _⟩ := hpQ3 h0
        rw [hl] at u0
        rw [u1]
        exact u0.symm
  obtain ⟨RO, s1, s2, s3⟩ := moreO_row (fO r) 9 34 (opL (st + T) y) L
  refine hQ (rNew r L x) a1 w1 d1 ⟨hbd, B2, m3, j2, hkk, g2.mono hle3, t2.mono hle3, ?_⟩
  refine re13 (o := rowV (fO (rNew r L x)) 9 34 (L + 1)) q5 (by rw [s1]; intro q; cases q) (by rw [s1]; rfl) (fun l h => ?_)
  rw [s1] at h
  rw [rowV_succ]
  refine okRow_map (c := RO) (by rw [s2]; show (L + 1) * 9 = L * 9 + 9; omega) (fun j v hv => ?_) h
  obtain ⟨hj, rfl⟩ := rowFn_lt hv
  refine ⟨_, ?_, fun v' hv' => hv'⟩
  rw [s3]
  have := ops_more r L x j hj
  rw [hxf, hxm] at this
  exact this
end Go.Proofs.YtbkgnlcjnimpcaaDoor.fanWhole
