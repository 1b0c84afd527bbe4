/- FanWhole is proved: none is left out and none told twice, at every number and every script; the package-level tables that the row lists are tied to the text by the card. -/
import Derived.Test.YtbkgnlcjnimpcaaDoorFanWholeL
import Derived.Test.YtbkgnlcjnimpcaaDoorCards
import Derived.Test.YtbkgnlcjnimpcaaDoorTie
import Derived.WalkKit
namespace Go.Proofs.YtbkgnlcjnimpcaaDoor.fanWhole
open Go Go.Ab Go.ChangeShapes Go.WideShapes Go.ChangeAt Go.RowKit
set_option maxRecDepth 100000
abbrev Q0 (W : World) : Exit → Act → World → Prop := bodyPost Tryd.prog Tryd.f3 fun e w' => e = .returned (.bool true) ∧ Below W.heap.size W w'
abbrev QA (W : World) : Exit → Act → World → Prop := Exit.inBlock 0 (Exit.then (rest.wp Tryd.prog (Q0 W)) (Q0 W))
noncomputable def lp2 : Code := codeR lp
theorem e4' : lp = .seq hd lp2 := e4
theorem vb : vflat 8 (.bool true) = true := rfl
theorem slice_form (T : Nat) : ∃ B2 c2, sliceV 15 T = .slice B2 T c2 := by
  cases T with
  | zero => exact ⟨none, 0, rfl⟩
  | succ T => exact ⟨_, _, rfl⟩
/-- The loop is left, and what stands behind it. -/
theorem leaves {W : World} {Bo : Option Addr} {N c1 st n L T i : Nat} {O16 : AObj} {r : Nat → Rc} {a : Act} {w : World} {Rn : Act → World → Prop} (hx : N ≤ i ∨ 200 ≤ i) (h : Inv W (.slice Bo N c1) O16 st n L T i r a w) (hd0 : a.defers = []) :
    (Code.seq hd lp2).wp Tryd.prog (Exit.then Rn (QA W)) a w := by
  obtain ⟨hb, B, m, jt, hkp, hG, hT, hr⟩ := h
  unfold SS sl ob at hT hr
  obtain ⟨B2, c2, e15⟩ := slice_form T
  rw [e15] at hT hr
  have hno : NotedOk [pr (.bool (intEq (.ofNat T) (.ofNat T))) Tr] := NotedOk.cons (congrArg Value.bool (eq_yes T)) NotedOk.nil
  have key : ∀ (tp : Ab.Tape) (lg : Noted), NotedOk lg → (fun r => (isX r, saidOf (fin (stOf r) [Tr]))) (outE Bo N c1 (sliceV 13 L) (sliceV 14 L) (sliceV 11 n) B2 c2 ⟨sliceV 11 n, rowV (fP 0) 2 48 n, rowV (fO r) 9 34 L, .dead, rowV (fT st) 1 9 T, O16, .dead⟩ st (st + T) T n i tp jt) = (some (0, lg), some (.bool true, [pr (.bool (intEq (.ofNat T) (.ofNat T))) Tr])) → (Code.seq hd lp2).wp Tryd.prog (Exit.then Rn (QA W)) a w := by
    intro tp lg hlg hs
    obtain ⟨R, hR⟩ : ∃ R, outE Bo N c1 (sliceV 13 L) (sliceV 14 L) (sliceV 11 n) B2 c2 ⟨sliceV 11 n, rowV (fP 0) 2 48 n, rowV (fO r) 9 34 L, .dead, rowV (fT st) 1 9 T, O16, .dead⟩ st (st + T) T n i tp jt = R := ⟨_, rfl⟩
    rw [hR] at hs
    obtain ⟨x1, x2⟩ := Prod.mk.inj hs
    obtain ⟨tp', hx'⟩ := exit_of (r := R) x1
    refine wp_seq (oneE_wp (n := 187) (mk := mkR 3) (K := 1000) (e := .exit 0) (s := SL ⟨.slice Bo N c1, sliceV 13 L, sliceV 14 L, .slice B2 T c2⟩ ⟨sliceV 11 n, rowV (fP 0) 2 48 n, rowV (fO r) 9 34 L, .dead, rowV (fT st) 1 9 T, O16, .dead⟩ st (st + T) T n i jt) (s' := stOf R) entersOk zerosOk CBok CCok DCok DBok plH okH (hR.trans hx') hlg hT hr hG ?_)
    intro m1 a1 w1 _ g1 t1 d1 q1
    show rest.wp Tryd.prog (Q0 W) a1 w1
    unfold saidOf at x2
    split at x2
    · rename_i o ho2
      simp only [Option.some.injEq, Prod.mk.injEq] at x2
      exact lastB_wp (n := 187) entersOk zerosOk CBok CCok DCok DBok hkp.k0.below plR okR vb ho2 x2.1 (by rw [x2.2]; exact hno) t1 q1 g1 (d1.trans hd0)
    · cases x2
  by_cases hN : N ≤ i
  · exact key [F] _ (NotedOk.cons (congrArg Value.bool (lt_no hN)) NotedOk.nil) (out1 ..)
  · have h200 : 200 ≤ i := by omega
    exact key [Tr, F] _ (NotedOk.cons (congrArg Value.bool (lt_no (b := 200) h200)) (NotedOk.cons (congrArg Value.bool (lt_yes (by omega))) NotedOk.nil)) (out2 ..)
/-- Every number of the script is one. -/
def ScrOk (Bo : Option Addr) (N : Nat) (O16 : AObj) (f : Nat → Value) : Prop := (N = 0 ∧ O16 = .dead ∨ Bo = some ⟨16, 0, none⟩ ∧ O16 = .ro (rowFn f (N * 1)) 3) ∧ ∀ i, i < N → ∃ z, f i = i64 z
theorem scr_one {N : Nat} {f : Nat → Value} (h : ∀ i, i < N → ∃ z, f i = i64 z) : OneForm (.ro (rowFn f (N * 1)) 3) := by
  refine .inr ⟨_, _, .inl rfl, fun i v hv => ?_⟩
  obtain ⟨hi, rfl⟩ := rowFn_lt hv
  obtain ⟨z, hz⟩ := h i (by omega)
  rw [hz]; rfl
/-- The loop. -/
theorem rounds {W : World} {Bo : Option Addr} {N c1 st : Nat} {O16 : AObj} {f : Nat → Value} (hs : ScrOk Bo N O16 f) : ∀ (fuel n L T i : Nat) (r : Nat → Rc) (a : Act) (w : World), 200 - i < fuel → Inv W (.slice Bo N c1) O16 st n L T i r a w → a.defers = [] → Code.rounds Tryd.prog lp (QA W) fuel a w := by
  intro fuel
  induction fuel with
  | zero => intro n L T i r a w h; omega
  | succ fuel ih =>
    intro n L T i r a w hf hI hd0
    rw [rounds_succ]
    by_cases hx : i < N ∧ i < 200
    · obtain ⟨hN, h200⟩ := hx
      rcases hs.1 with ⟨h0, _⟩ | ⟨rfl, rfl⟩
      · omega
      obtain ⟨z, hz⟩ := hs.2 i hN
      have h1 := scr_one hs.2
      obtain ⟨q, hq3, hq⟩ := bandF_lt z (c := 3) (by decide)
      by_cases q0 : q = 0
      · subst q0
        exact step_post hN h200 hz hq h1 hI fun a' w' hd' hI' => ih _ _ _ _ _ a' w' (by omega) hI' (hd'.trans hd0)
      by_cases q1 : q = 1
      · subst q1
        exact step_ask hN h200 hz hq h1 hI fun r' a' w' hd' hI' => ih _ _ _ _ _ a' w' (by omega) hI' (hd'.trans hd0)
      cases L with
      | zero => exact step_none hN h200 hz hq q0 q1 h1 hI fun a' w' hd' hI' => ih _ _ _ _ _ a' w' (by omega) hI' (hd'.trans hd0)
      | succ L => exact step_take hN h200 hz hq q0 q1 h1 hI fun T' a' w' hd' hI' => ih _ _ _ _ _ a' w' (by omega) hI' (hd'.trans hd0)
    · exact Eq.mpr (congrArg (fun c => Code.wp Tryd.prog c (Exit.then (Code.rounds Tryd.prog lp (QA W) fuel) (QA W)) a w) e4') (leaves (by omega) hI hd0)
theorem nextA (fr : Int) (st : Nat) (V : Value) (O : AObj) : (y2 fr st V O).s.2.next = 70 ∧ (y2 fr st V O).s.2.lim = 1099511627776 := by
  constructor <;> kernel_rfl
theorem get16 (v : Sl) (x : Ob) (st a t n i : Nat) (jt : Nat → Value) : (SL v x st a t n i jt).2.get 16 = x.O16 := by kernel_rfl
theorem walk0 (W : World) (fr : Int) (Bo : Option Addr) (N c1 : Nat) (O16 : AObj) (f : Nat → Value) (v1 : Value) (m0 : Mu) (hle : Mu.le (muG 8) m0) (hv1 : VRel m0 (.slice Bo N c1) v1) (hr0 : Rel Tryd.prog (baseOf W) m0 ((bareOf 8).push O16) W)
    (hB : (Bo = none ∧ c1 = 0) ∨ Bo = some ⟨16, 0, none⟩) (hO : (N = 0 ∧ O16 = .dead) ∨ (Bo = some ⟨16, 0, none⟩ ∧ O16 = .ro (rowFn f (N * 1)) 3)) (hf : ∀ i, i < N → ∃ z, f i = i64 z) : Calls Tryd.prog 3 #[i64 fr, v1] W fun e W' => e = .returned (.bool true) ∧ Below W.heap.size W W' := by
  obtain ⟨st, hst, est⟩ := bandF_lt fr (c := 15) (by decide)
  have hah := ahead fr st (.slice Bo N c1) O16
  obtain ⟨p1, p⟩ := Prod.mk.inj (hah (fun _ => undef) (fun _ _ => undef))
  obtain ⟨p2, p⟩ := Prod.mk.inj p
  obtain ⟨p3, p⟩ := Prod.mk.inj p
  obtain ⟨p4, _⟩ := Prod.mk.inj p
  have h16 : OneForm O16 := by
    rcases hO with ⟨_, rfl⟩ | ⟨_, rfl⟩
    · exact .inl rfl
    · exact scr_one hf
  refine calls_of_wp Tryd.func3 hasBody ?_
  have hT : TRel m0 187 (s0 fr (.slice Bo N c1) O16).1 (#[i64 fr, v1] ++ Array.replicate (Tryd.f3.ntmps - #[i64 fr, v1].size) undef) :=
    initT_rel (args := #[i64 fr, .slice Bo N c1]) (args' := #[i64 fr, v1]) (n := 187) ⟨rfl, fun i h1 h2 => (match i, h1, h2 with
      | 0, _, _ => .int _ _
      | 1, _, _ => hv1)⟩ (show 2 ≤ 187 by decide)
  have hno : NotedOk (ini1N fr st) := NotedOk.cons (congrArg i64 est) (NotedOk.cons (congrArg Value.bool (lt_no (a := 1073741824) (by omega))) NotedOk.nil)
  refine goNC_wp (n := 187) (mk := mkR 3) (K := 1000) (k := 11) (x := ⟨s0 fr (.slice Bo N c1) O16, [e24 st, F], [], true⟩) (y := y1 fr st (.slice Bo N c1) O16) entersOk zerosOk CBok CCok DCok DBok k0 rfl p1 (by rw [p2]; exact revN_ok _ _ hno NotedOk.nil) hT hr0 ((muG_rel 8).mono hle) ?_
  intro m1 a1 w1 g1 t1 d1 q1
  show c11.wp Tryd.prog _ a1 w1
  rw [e1]
  refine wp_seq (goNC_wp (n := 187) (mk := mkR 3) (K := 1000) (k := 1) (x := ⟨(y1 fr st (.slice Bo N c1) O16).s, [], [], true⟩) (y := y2 fr st (.slice Bo N c1) O16) entersOk zerosOk CBok CCok DCok DBok k1 rfl p3 (by rw [p4]; exact NotedOk.nil) t1 q1 g1 ?_)
  intro m2 a2 w2 g2 t2 d2 q2
  rw [e2, e3]
  have f16 := sh16 toksA [1] 1011 1013 1014 1015 1017 (y2 fr st (.slice Bo N c1) O16).s
  obtain ⟨m3, j3, _, g3, t3, q3, hat⟩ := canonW (S := shOf toksA [1] 1011 1013 1014 1015 1017 (y2 fr st (.slice Bo N c1) O16).s) (S2 := fun jt _ => SL (v0 (.slice Bo N c1)) (x0 O16) st st 0 0 0 jt) (fun _ => rfl)
    (fun jt _ y h => zOkS FixO.dead FixO.dead FixO.dead FixO.dead (FixO.of_one h16) FixO.dead y h)
    (fun jt _ y h => ztOk (zt := [1]) rfl (by
      rcases hB with ⟨rfl, rfl⟩ | rfl
      · exact FixV.flat rfl
      · exact FixV.slice f16) (FixV.flat rfl) (FixV.flat rfl) (FixV.flat rfl) y h) (fun jt jh => (Prod.mk.inj (Prod.mk.inj (Prod.mk.inj (Prod.mk.inj (hah jt jh)).2).2).2).2) t2 q2 g2
  obtain ⟨hn1, hn2⟩ := nextA fr st (.slice Bo N c1) O16
  have hI : Inv W (.slice Bo N c1) O16 st 0 0 0 0 (fun _ => ⟨0, 0, 0, 0⟩) a2 w2 := by
    refine ⟨⟨hst, Nat.le_refl _, Nat.le_refl _, by decide, Nat.le_refl _, fun j hj => by omega⟩, baseOf W, m3, j3, ⟨⟨fun _ _ => rfl, rfl, rfl, rfl, fun j hj => by omega, fun j _ hj => ?_, fun hne => ?_⟩, fun h => by omega⟩, g3, t3, q3⟩
    · rw [hat (18 + j) (1018 + j) (atOf_tokA (l := [0, 1, 2, 3, 4, 5, 6, 7, blkOf (Tget (y2 fr st (.slice Bo N c1) O16).s.1 5), blkOf (cellAt (y2 fr st (.slice Bo N c1) O16).s (blkOf (Tget (y2 fr st (.slice Bo N c1) O16).s.1 5)) 0), blkOf (cellAt (y2 fr st (.slice Bo N c1) O16).s (blkOf (cellAt (y2 fr st (.slice Bo N c1) O16).s (blkOf (Tget (y2 fr st (.slice Bo N c1) O16).s.1 5)) 0)) 2), 1011, blkOf (Tget (y2 fr st (.slice Bo N c1) O16).s.1 7), 1013, 1014, 1015, 16, 1017]) rfl hj)]
      exact (q2.fresh (1018 + j) (by rw [hn1]; omega) (by rw [hn2]; omega)).2
    · obtain ⟨l, u1, u2, _⟩ := q3.obj 16 (by rw [get16]; exact hne)
      refine ⟨l, u1, ?_⟩
      rw [get16] at u2
      have hro : isRo O16 = true := by
        rcases hO with ⟨_, rfl⟩ | ⟨_, rfl⟩
        · exact absurd rfl hne
        · rfl
      have u3 := protOf_some u2 hro
      rcases Nat.lt_or_ge l.blk W.heap.size with h | h
      · exact h
      · exact absurd (show (baseOf W).prot l.blk = none from Array.getElem?_eq_none h) u3
  exact wp_block (wp_loop_rounds 201 (rounds ⟨hO, hf⟩ 201 0 0 0 0 _ a2 w2 (by omega) hI (by rw [d2, d1])))
theorem int_of_ok {P : Program} {W : World} {r : Reach} {base : Nat} {t : TypeId} {k : IntKind} {v : Value} (ht : P.underlying t = some (.int k)) (h : Value.okWide P W r base t v) : ∃ n, v = .int k n := by
  unfold Value.okWide at h
  rw [ht] at h
  unfold Cell.okWide Cell.ok at h
  rw [ht] at h
  cases v <;> first | (obtain ⟨rfl, _⟩ := h; exact ⟨_, rfl⟩) | exact h.elim
theorem own : ownKnob Tryd.prog.godebug = none := by kernel_rfl
theorem laidOut : laidOutB Tryd.prog = true := by kernel_rfl
theorem rd3 : Tryd.f3.params.toList.all (fun t => Tryd.prog.readableRec t && Nat.blt t Tryd.prog.types.size) = true := by kernel_rfl
theorem contract (H : Type) (enc : TypeId × Value → H) (W : World) (base : Nat) (args : Array Value) (ds gs : List (DataW H)) (before : List MemPlace)
    (hval : ∀ (j : Nat) t v, Tryd.f3.params[j]? = some t → args[j]? = some v → Value.okWide Tryd.prog W .any base t v)
    (hW : DataW.Whole enc Tryd.prog Tryd.f3.params.toList Rows.fanWholeSpec.vars false W args.toList ds gs before) :
    Calls Tryd.prog 3 args W fun e W' => ∃ v, e = .returned v ∧ Rows.fanWholeSpec.post enc Tryd.prog Tryd.f3 false true false false W args v W' := by
  have hW' := hW
  obtain ⟨p, q, hA0, hV, rfl, hfz, hnd⟩ := hW
  have hA : DataW.TrodAll enc Tryd.prog W 0 (fun _ => true) true Tryd.f3.params.toList args.toList ds p := hA0
  rw [Tryd.params3] at hA hval
  obtain ⟨v0, vs0, d0, ds0, p0, q0, hargs, rfl, rfl, h0, r0⟩ := trodAll_cons hA
  obtain ⟨v1, vs1, d1, ds1, p1, q1, rfl, rfl, rfl, h1, r1⟩ := trodAll_cons r0
  obtain ⟨rfl, rfl, rfl⟩ := trodAll_nil r1
  obtain rfl : args = #[v0, v1] := by cases args; simp_all
  obtain ⟨rfl, rfl⟩ := trodVars_none hV
  obtain ⟨many, rfl⟩ := int_of_ok Tryd.underlying3 (hval 0 3 v0 (by simp) (by simp))
  have key : Calls Tryd.prog 3 #[i64 many, v1] W fun e W' => e = .returned (.bool true) ∧ Below W.heap.size W W' := by
    have hlim : (bareOf 8).next < (bareOf 8).lim := by decide
    rcases sliceArg_of und22 (hval 1 22 v1 (by simp) (by simp)) h1 (by rw [cells3]; decide) (fun fuel cs x h v hv => (trod_leaves 30 3 [.i .i64] leaves3 fuel cs x h).flat v hv) with rfl | ⟨b, off, c, rfl, hc⟩ | ⟨f, n, c, hn, hs, hel⟩
    · exact walk0 W many none 0 0 .dead (fun _ => undef) _ ((muG 8).add (bareOf 8).next ⟨0, 0, 0⟩) (Mu.le_add ((initRel (P := Tryd.prog) 8 W).fresh _ (Nat.le_refl _) hlim).2) (.nilSlice 0 0) ((initRel (P := Tryd.prog) 8 W).name hlim ⟨0, 0, 0⟩) (.inl ⟨rfl, rfl⟩) (.inl ⟨rfl, rfl⟩) (fun i hi => by omega)
    · exact walk0 W many (some ⟨16, 0, none⟩) 0 c .dead (fun _ => undef) _ ((muG 8).add (bareOf 8).next ⟨b, off, 0⟩) (Mu.le_add ((initRel (P := Tryd.prog) 8 W).fresh _ (Nat.le_refl _) hlim).2) (.slice 16 0 0 c ⟨b, off, 0⟩ (Mu.add_self _ _ _) hc) ((initRel (P := Tryd.prog) 8 W).name hlim ⟨b, off, 0⟩) (.inr rfl) (.inl ⟨rfl, rfl⟩) (fun i hi => by omega)
    · rw [cells3] at hs hel
      obtain ⟨m0, hle, hv, hr0⟩ := hs.lay (initRel 8 W) hlim
      refine walk0 W many (some ⟨16, 0, none⟩) n c (.ro (rowFn f (n * 1)) 3) f v1 m0 hle hv hr0 (.inr rfl) (.inr ⟨rfl, rfl⟩) fun i hi => ?_
      obtain ⟨fuel, x, hx⟩ := hel i hi
      have ha := trod_leaves 30 3 [.i .i64] leaves3 _ _ _ hx
      have hb : AllOk [.i .i64] [f (i * 1 + 0)] := ha
      obtain ⟨⟨z, hz⟩, _⟩ := hb
      rw [Nat.mul_one, Nat.add_zero] at hz
      exact ⟨z, hz⟩
  refine key.mono fun e W' ⟨he, hb⟩ => ?_
  subst he
  exact ⟨_, rfl, post_true laidOut rd3 hW' rfl rfl rfl rfl (by kernel_rfl) Tryd.underlying4 hb⟩

def dcells : Nat → DataW Unit → List Value
  | _, .lit (.int k n) => [.int k n]
  | f + 1, .agg l => l.flatMap (dcells f)
  | _, _ => []
/-- A WORLD FOR THE WITNESS. -/
noncomputable def laidWorld (os : Os) : World :=
  let w0 := World.holding Tryd.prog os ⟨#[], #[], []⟩
  let put (h : Array Obj) (g : Nat) (cs : List Value) : Array Obj := h.modify g fun
    | .cells _ t frozen => .cells cs.toArray t frozen
    | o => o
  { w0 with heap := put (put (put (put (put w0.heap 0 (dcells 3 Rows.laid_unicode_utf8_first)) 1 (dcells 3 Rows.laid_unicode_utf8_acceptRanges)) 5 (dcells 3 Rows.laid_internal_strconv_uint64pow10)) 6 (dcells 3 Rows.laid_math_bits_deBruijn32tab)) 7 (dcells 3 Rows.laid_math_bits_deBruijn64tab) }
noncomputable def wargs : Array Value := #[.int .i64 0, .slice none 0 0]
theorem laid_met (os : Os) : laidMet Tryd.prog Rows.fanWholeRow.laid ((laidWorld os).forCall (fun _ _ => 0) ⟨#[], wargs, []⟩).memory :=
  laidMet_of_run3 8 (by kernel_rfl) (by kernel_rfl) (by kernel_rfl)
theorem reads (os : Os) {H : Type} (enc : TypeId × Value → H) : ∃ places, DataW.whole enc Tryd.prog ((laidWorld os).forCall (fun _ _ => 0) ⟨#[], wargs, []⟩).memory Tryd.f3.params.toList Rows.fanWholeSpec.vars false wargs.toList 8 =
    some ([.lit (.int .i64 0), .nil], [], places) :=
  ⟨[], by kernel_rfl⟩
theorem lifted (os : Os) (started : os.Started) (H : Type) (enc : TypeId × Value → H) (F : Stop.Interp) :
    ReturnsInHanded {} Tryd.checked os 3 .any ((OpenSpec.ofChange Rows.fanWholeSpec).preRow enc Tryd.prog Tryd.f3 Rows.fanWholeRow.domain false Rows.fanWholeRow.laid) (((OpenSpec.ofChange Rows.fanWholeSpec).at F).post enc Tryd.prog Tryd.f3 false true false false) := by
  obtain ⟨places, hx⟩ := reads os enc
  refine returnsInHanded_of_row (C := Tryd.checked) (s := OpenSpec.ofChange Rows.fanWholeSpec) own started (by kernel_rfl) Tryd.func3
    (witness_row_at (enc := enc) (C := Tryd.checked) false (laidWorld os) wargs rfl (by kernel_rfl) (by kernel_rfl) (by kernel_rfl)
      (OpenSpec.preRow_of_cond 8 hx (by kernel_rfl) (fun k hk => by cases hk) (by kernel_rfl) (laid_met os))) ?_
  intro W base args ds gs before hval hW _ _ _ _ _ _
  exact contract H enc W base args ds gs before hval hW
theorem said : Rows.FanWholeSaid :=
  OpenClaim.holds_of_cond 3 Tryd.f3 rfl rfl rfl rfl rfl rfl rfl ⟨rfl, rfl, rfl, rfl, rfl⟩ rfl rfl rfl rfl rfl (by kernel_rfl) Tryd.func3 (by kernel_rfl)
    (of_decide_eq_true (by kernel_rfl)) (by unfold Func.isWrapper; first | (rw [if_pos (by decide +kernel)]; kernel_rfl) | (rw [if_neg (by decide +kernel)]; exact ⟨rfl, rfl⟩))
    (fun os started H enc _ F => by rw [OpenClaim.pre_eq_preRow]; exact lifted os started H enc F)
/-- No parameter wants a stand-in; the program's own looks are on: what both cards ask. -/
theorem plain (f : FuncId) (fn : Func) (hf : Tryd.pinned.checked.prog.funcNamed "rookery/rookerylaw19.FanWhole" = some f) (hfn : Tryd.pinned.checked.prog.funcs[f]? = some fn) :
    true = Tryd.pinned.checked.prog.looks [] ∧ ∀ (j : Nat) t, fn.params[j]? = some t → Tryd.pinned.checked.prog.wantsStandIn t = false := by
  obtain rfl : f = 3 := Option.some.inj ((show Tryd.prog.funcNamed "rookery/rookerylaw19.FanWhole" = some 3 by kernel_rfl).symm.trans hf) |>.symm
  obtain rfl : fn = Tryd.f3 := (Option.some.inj (Tryd.func3.symm.trans hfn)).symm
  refine ⟨by kernel_rfl, fun j t ht => ?_⟩
  rw [Tryd.params3] at ht
  have h2 : t = 3 ∨ t = 22 := by simpa using Array.mem_of_getElem? ht
  rcases h2 with rfl | rfl
  · exact (show Tryd.prog.wantsStandIn 3 = false by kernel_rfl)
  · exact (show Tryd.prog.wantsStandIn 22 = false by kernel_rfl)
/-- ████ THE CARD ████ -/
theorem card : Rows.FanWholeCardSaid :=
  Claim7.holds_tied_plain_at .later [] _ _ _ _ said (fun _ h => by cases h) (by kernel_rfl) (fun _ h => by cases h) fanWhole_row_tie rfl ⟨rfl, rfl⟩ (by kernel_rfl) rfl plain (by kernel_rfl)
end Go.Proofs.YtbkgnlcjnimpcaaDoor.fanWhole
