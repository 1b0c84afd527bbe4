/- FanWhole: a round that posts, and one that takes where nothing was asked. -/
import Derived.Test.YtbkgnlcjnimpcaaDoorFanWholeI
namespace Go.Proofs.YtbkgnlcjnimpcaaDoor.fanWhole
open Go Go.Ab Go.RowKit
set_option maxRecDepth 100000
noncomputable def ob (O16 : AObj) (st n L T : Nat) (r : Nat → Rc) : Ob := ⟨sliceV 11 n, rowV (fP 0) 2 48 n, rowV (fO r) 9 34 L, .dead, rowV (fT st) 1 9 T, O16, .dead⟩
def sl (V1 : Value) (L T : Nat) : Sl := ⟨V1, sliceV 13 L, sliceV 14 L, sliceV 15 T⟩
noncomputable def SS (V1 : Value) (O16 : AObj) (st n L T i : Nat) (r : Nat → Rc) (jt : Nat → Value) : St := SL (sl V1 L T) (ob O16 st n L T r) st (st + T) T n i jt
structure Bd (st n L T i : Nat) (r : Nat → Rc) : Prop where
  st15 : st ≤ 15
  ni : n ≤ i
  li : L ≤ i
  i200 : i ≤ 200
  tn : T ≤ n
  ok : ∀ j, j < L → RcOk n (st + T) (r j)
structure Inv (W : World) (V1 : Value) (O16 : AObj) (st n L T i : Nat) (r : Nat → Rc) (a : Act) (w : World) : Prop where
  bd : Bd st n L T i r
  ex : ∃ B m jt, Kept W B m L r O16 ∧ GRel 8 m ∧ TRel m 187 (SS V1 O16 st n L T i r jt).1 a.tmps ∧ Rel Tryd.prog B m (SS V1 O16 st n L T i r jt).2 w

theorem sh11 (tk zt : List Nat) (p o r t q : Nat) (s : St) : atOf (shOf tk zt p o r t q s).σ 11 = some p := rfl
theorem sh13 (tk zt : List Nat) (p o r t q : Nat) (s : St) : atOf (shOf tk zt p o r t q s).σ 13 = some o := rfl
theorem sh14 (tk zt : List Nat) (p o r t q : Nat) (s : St) : atOf (shOf tk zt p o r t q s).σ 14 = some r := rfl
theorem sh15 (tk zt : List Nat) (p o r t q : Nat) (s : St) : atOf (shOf tk zt p o r t q s).σ 15 = some t := rfl
theorem sh16 (tk zt : List Nat) (p o r t q : Nat) (s : St) : atOf (shOf tk zt p o r t q s).σ 16 = some 16 := rfl
theorem sh17 (tk zt : List Nat) (p o r t q : Nat) (s : St) : atOf (shOf tk zt p o r t q s).σ 17 = some q := rfl
theorem shT (zt : List Nat) (p o r t q : Nat) (s : St) {i : Nat} (h : i < 200) : atOf (shOf toks zt p o r t q s).σ (18 + i) = some (18 + i) := atOf_tok (l := [0, 1, 2, 3, 4, 5, 6, 7, blkOf (Tget s.1 5), blkOf (cellAt s (blkOf (Tget s.1 5)) 0), blkOf (cellAt s (blkOf (cellAt s (blkOf (Tget s.1 5)) 0)) 2), p, blkOf (Tget s.1 7), o, r, t, 16, q]) rfl h

theorem post_run (N c : Nat) (V9 V10 V11 : Value) (f : Nat → Value) (O13 O14 O15 O16 O17 : AObj) (st a t n i k : Nat) (z : Int) (j0 jt : Nat → Value) (jh : Nat → Nat → Value) :
  (fun r => (isN r, canonS (shOf toks [1, 9, 10, 11] (pOf (stOf r)) 13 14 15 17 (stOf r)) 8 (stOf r) jt jh)) (rndP N c V9 V10 V11 f O13 O14 O15 O16 O17 st a t n i k z j0) =
  (some (revN (hdN N c O16 i k 0 z (postN f i n)) []), some (SL ⟨scr N c, V9, V10, V11⟩ ⟨sliceV 11 (n + 1), postO f n, O13, O14, O15, O16, O17⟩ st a t (n + 1) (i + 1) jt)) := by
  cases n with
  | zero => exact post0 N c V9 V10 V11 f O13 O14 O15 O16 O17 st a t i k z j0 jt jh
  | succ n => exact post1 N c V9 V10 V11 f O13 O14 O15 O16 O17 st a t n i k z j0 jt jh
theorem postO_one (n : Nat) : OneForm (postO (fP 0) n) := by
  obtain ⟨R, h1, h2, h3⟩ := postO_row n
  refine .inr ⟨R, 48, .inr h1, fun i v hv => ?_⟩
  have hi := Row.lt_of_get? hv
  rw [h3 i (by omega)] at hv
  obtain rfl := Option.some.inj hv
  exact fP_flat 0 i
theorem fix_scr {σ : List Nat} (h : atOf σ 16 = some 16) (N c : Nat) : FixV σ (scr N c) := FixV.slice h
theorem step_post {W : World} {N c st n L T i : Nat} {f : Nat → Value} {r : Nat → Rc} {z : Int} {a : Act} {w : World} {Q : Exit → Act → World → Prop} (hi : i < N) (h200 : i < 200) (hz : f i = i64 z) (hq : bandF z 3 = .ofNat 0) (h16 : OneForm (.ro (rowFn f (N * 1)) 3))
    (h : Inv W (scr N c) (.ro (rowFn f (N * 1)) 3) st n L T i r a w) (hQ : ∀ a' w', a'.defers = a.defers → Inv W (scr N c) (.ro (rowFn f (N * 1)) 3) st (n + 1) L T (i + 1) r a' w' → Q .normal a' w') : lp.wp Tryd.prog Q a w := by
  obtain ⟨hb, B, m, jt, hkp, hG, hT, hr⟩ := h
  obtain ⟨k, _, hk⟩ := bandF_lt (shrF z 2) (c := 65535) (by decide)
  have hn := hb.ni
  have hs := post_run N c (sliceV 13 L) (sliceV 14 L) (sliceV 15 T) (fP 0) (rowV (fO r) 9 34 L) .dead (rowV (fT st) 1 9 T) (.ro (rowFn f (N * 1)) 3) .dead st (st + T) T n i k z jt
  obtain ⟨R, hR⟩ : ∃ R, rndP N c (sliceV 13 L) (sliceV 14 L) (sliceV 15 T) (fP 0) (rowV (fO r) 9 34 L) .dead (rowV (fT st) 1 9 T) (.ro (rowFn f (N * 1)) 3) .dead st (st + T) T n i k z jt = R := ⟨_, rfl⟩
  rw [hR] at hs
  obtain ⟨tp, hx⟩ := norm_of (r := R) (Prod.mk.inj (hs jt (fun _ _ => undef))).1
  unfold SS sl ob at hT hr
  refine oneE_wp (n := 187) (mk := mkR 3) (K := 1000) (e := .normal) (s := SL ⟨scr N c, sliceV 13 L, sliceV 14 L, sliceV 15 T⟩ ⟨sliceV 11 n, rowV (fP 0) 2 48 n, rowV (fO r) 9 34 L, .dead, rowV (fT st) 1 9 T, .ro (rowFn f (N * 1)) 3, .dead⟩ st (st + T) T n i jt) (s' := stOf R) entersOk zerosOk CBok CCok DCok DBok plL okL (hR.trans hx) (revN_ok _ _ (hdN_ok hi h200 hz hk hq (postN_ok h200 (by omega))) NotedOk.nil) hT hr hG ?_
  intro m1 a1 w1 x1 g1 t1 d1 q1
  have f13 := sh13 toks [1, 9, 10, 11] (pOf (stOf R)) 13 14 15 17 (stOf R)
  have f14 := sh14 toks [1, 9, 10, 11] (pOf (stOf R)) 13 14 15 17 (stOf R)
  have f15 := sh15 toks [1, 9, 10, 11] (pOf (stOf R)) 13 14 15 17 (stOf R)
  have f16 := sh16 toks [1, 9, 10, 11] (pOf (stOf R)) 13 14 15 17 (stOf R)
  obtain ⟨m2, j2, _, g2, t2, q2, hat⟩ := canonW (S := shOf toks [1, 9, 10, 11] (pOf (stOf R)) 13 14 15 17 (stOf R)) (S2 := fun jt _ => SL ⟨scr N c, sliceV 13 L, sliceV 14 L, sliceV 15 T⟩ ⟨sliceV 11 (n + 1), postO (fP 0) n, rowV (fO r) 9 34 L, .dead, rowV (fT st) 1 9 T, .ro (rowFn f (N * 1)) 3, .dead⟩ st (st + T) T (n + 1) (i + 1) jt)
    (fun _ => rfl) (fun jt _ y h => zOkS (FixO.of_one (postO_one n)) (FixO.of_one (one_rowV fun j _ => fO_flat r j)) FixO.dead (FixO.of_one (one_rowV fun j _ => fT_flat st j)) (FixO.of_one h16) FixO.dead y h)
    (fun jt _ y h => ztOk (zt := [1, 9, 10, 11]) rfl (fix_scr f16 N c) (fix_sliceV f13 L) (fix_sliceV f14 L) (fix_sliceV f15 T) y h) (fun jt jh => (Prod.mk.inj (hs jt jh)).2) t1 q1 g1
  have ag : ∀ y, y < 218 → atOf (shOf toks [1, 9, 10, 11] (pOf (stOf R)) 13 14 15 17 (stOf R)).σ y = some y → m2 y = m y := fun y hy he => (hat y y he).trans (x1.2 y (.inl (by rw [SL_next]; exact hy)))
  obtain ⟨R1, e1, e2, e3⟩ := postO_row n
  have q3 := re11 (o := rowV (fP 0) 2 48 (n + 1)) q2 (by rw [e1]; intro q; cases q) (by rw [e1]; rfl) (fun l h => by
    rw [e1] at h
    exact okRow_map e2.symm (fun j v hv => by
      obtain ⟨hj, rfl⟩ := rowFn_lt hv
      exact ⟨_, e3 j hj, fun v' hv' => hv'⟩) h)
  exact hQ a1 w1 d1 ⟨⟨hb.st15, by omega, by have := hb.li; omega, by omega, by have := hb.tn; omega, fun j hj => (hb.ok j hj).mono (by omega) (Nat.le_refl _)⟩, B, m2, j2, hkp.agree (by have := hb.li; omega) (ag 14 (by decide) f14) (ag 16 (by decide) f16) (fun j hj => ag (18 + j) (by omega) (shT _ _ _ _ _ _ _ hj)), g2, t2, q3⟩
end Go.Proofs.YtbkgnlcjnimpcaaDoor.fanWhole
