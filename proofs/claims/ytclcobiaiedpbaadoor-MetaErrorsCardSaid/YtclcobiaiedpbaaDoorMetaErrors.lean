/- MetaErrors is proved: of a move the channel that is moved tells first, at any name's letter, any votes, in either order; the package-level tables that the row lists are tied to the text by the card. -/
import Derived.Test.YtclcobiaiedpbaaDoorAbV
import Derived.Test.YtclcobiaiedpbaaDoorMetaErrorsB
import Derived.Test.YtclcobiaiedpbaaDoorMetaErrorsC
import Derived.Test.YtclcobiaiedpbaaDoorMetaErrorsD
import Derived.Test.YtclcobiaiedpbaaDoorMetaErrorsE
import Derived.Test.YtclcobiaiedpbaaDoorCards
import Derived.Test.YtclcobiaiedpbaaDoorTie
import Derived.WalkKit
namespace Go.Proofs.YtclcobiaiedpbaaDoor.metaErrors
open Go Go.Ab Go.ChangeShapes Go.WideShapes Go.ChangeAt Go.RowKit

theorem own : ownKnob Tryd.prog.godebug = none := by kernel_rfl
theorem vb : vflat 8 (.bool true) = true := rfl
theorem laidOut : laidOutB Tryd.prog = true := by kernel_rfl
theorem rd4 : Tryd.f4.params.toList.all (fun t => Tryd.prog.readableRec t && Nat.blt t Tryd.prog.types.size) = true := by kernel_rfl

theorem int_of_ok {P : Program} {W : World} {r : Reach} {base : Nat} {t : TypeId} {k : IntKind} {v : Value} (ht : P.underlying t = some (.int k)) (h : Value.okWide P W r base t v) : ∃ n, v = .int k n := by
  unfold Value.okWide at h
  rw [ht] at h
  unfold Cell.okWide Cell.ok at h
  rw [ht] at h
  cases v <;> first | (obtain ⟨rfl, _⟩ := h; exact ⟨_, rfl⟩) | exact h.elim
theorem bool_of_cell {P : Program} {W : World} {r : Reach} {base : Nat} {t : TypeId} {v : Value} (ht : P.underlying t = some .bool) (h : Cell.okWide P W r base t v) : ∃ b, v = .bool b := by
  unfold Cell.okWide Cell.ok at h
  rw [ht] at h
  cases v <;> first | exact ⟨_, rfl⟩ | exact h.elim
theorem bool_of_ok {P : Program} {W : World} {r : Reach} {base : Nat} {t : TypeId} {v : Value} (ht : P.underlying t = some .bool) (h : Value.okWide P W r base t v) : ∃ b, v = .bool b := by
  unfold Value.okWide at h
  rw [ht] at h
  exact bool_of_cell ht h
theorem pair_of_ok {P : Program} {W : World} {r : Reach} {base : Nat} {t e : TypeId} {v : Value} (ht : P.underlying t = some (.array 2 e)) (hc : P.cellsOf t = 2) (hts : P.cellTypes P.depth t = some [e, e] ∨ P.cellTypes P.depth t = some [e]) (he : P.underlying e = some .bool)
    (h : Value.okWide P W r base t v) : ∃ a b, v = .agg #[.bool a, .bool b] := by
  unfold Value.okWide at h
  rw [ht] at h
  obtain ⟨cs, rfl, hsz, ts, h1, _, hall⟩ := h
  rw [hc] at hsz
  have hb : ∀ (i : Nat) (v : Value), cs[i]? = some v → ∃ b, v = .bool b := by
    intro i v hv
    obtain ⟨u, hu, hcell⟩ := hall i v hv
    have hue : u = e := by
      rcases hts with h2 | h2 <;> rw [h2] at h1 <;> obtain rfl := Option.some.inj h1
      · have := List.mem_of_getElem? hu
        simpa using this
      · have := List.mem_of_getElem? hu
        simpa using this
    rw [hue] at hcell
    exact bool_of_cell he hcell
  obtain ⟨l⟩ := cs
  have hl : l.length = 2 := hsz
  match l, hl with
  | [x, y], _ =>
    obtain ⟨a, rfl⟩ := hb 0 x rfl
    obtain ⟨b, rfl⟩ := hb 1 y rfl
    exact ⟨a, b, rfl⟩
theorem letters : ∀ k : Nat, k < 16 → Letter k
  | 0, _ => letter0
  | 1, _ => letter1
  | 2, _ => letter2
  | 3, _ => letter3
  | 4, _ => letter4
  | 5, _ => letter5
  | 6, _ => letter6
  | 7, _ => letter7
  | 8, _ => letter8
  | 9, _ => letter9
  | 10, _ => letter10
  | 11, _ => letter11
  | 12, _ => letter12
  | 13, _ => letter13
  | 14, _ => letter14
  | 15, _ => letter15
  | k + 16, h => absurd h (by omega)
theorem good_of {c : UInt8} {r n : Int} {k : Nat} (h : goodK c r n k = true) (a b t : Bool) : good c r n a b t k = true := by
  unfold goodK at h
  simp only [Bool.and_eq_true] at h
  obtain ⟨⟨h1, h2⟩, ⟨h3, h4⟩, ⟨h5, h6⟩, h7, h8⟩ := h
  exact match a, b, t with
    | true, true, true => h1
    | true, true, false => h2
    | true, false, true => h3
    | true, false, false => h4
    | false, true, true => h5
    | false, true, false => h6
    | false, false, true => h7
    | false, false, false => h8
set_option maxRecDepth 100000 in
theorem walk (W : World) (n : Int) (a b t : Bool) : Calls Tryd.prog 4 (args n a b t) W fun e W' => e = .returned (.bool true) ∧ Below W.heap.size W W' := by
  obtain ⟨k, hk, hl⟩ := low4_lt n
  obtain ⟨c, r, hc1, hc2, hc3⟩ := (letters k hk).ex
  have hgood := good_of (hc3 n) a b t
  unfold good at hgood
  simp only [Bool.and_eq_true] at hgood
  obtain ⟨hg1, hg2⟩ := hgood
  have CKok : CallSound Tryd.prog 2 (callOf (CK c r)) := quickB_sound (memoK_sound (facts_ok hc1 hc2)) 40
  have DKok : DrawGood Tryd.prog 2 (fun ops T h => (DK c r ops).un T h) := drawB_sound entersOk zerosOk CKok
  have hend : ends c r n a b t k = some (.bool true) := by
    split at hg2
    · assumption
    · cases hg2
  refine calls_of_wp Tryd.func4 hasBody ?_
  rw [e0]
  have hT : TRel (muG 2) 126 (s0 n a b t).1 (args n a b t ++ Array.replicate (Tryd.f4.ntmps - (args n a b t).size) undef) :=
    initT_rel (args := args n a b t) (args' := args n a b t) (n := 126) ⟨rfl, fun i h1 h2 => (match i, h1, h2 with
      | 0, _, _ => .int _ _
      | 1, _, _ => vflat_rel _ 8 _ rfl
      | 2, _, _ => .bool _)⟩ (show 3 ≤ 126 by decide)
  refine goS_seq (n := 126) (K := 1000) (s := s0 n a b t) entersOk zerosOk CBok DBok p0 k0 (o0 n a b t) hT (initRel 2 W) (muG_rel 2) ?_
  intro m1 a1 w1 g1 t1 d1 q1
  rw [e1]
  refine goS_seq (n := 126) (K := 1000) (s := s1 n a b t) entersOk zerosOk CBok DBok p1 k1 (o1 n a b t) t1 q1 g1 ?_
  intro m2 a2 w2 g2 t2 d2 q2
  rw [e2]
  refine goS_seq (n := 126) (K := 1000) (s := s2 n a b t) entersOk zerosOk CBok DBok p2 k2 (o2 n a b t) t2 q2 g2 ?_
  intro m3 a3 w3 g3 t3 d3 q3
  rw [e3, e4]
  refine wp_seq (wp_region_list ?_)
  refine goL_wp (n := 126) (l := la) (l2 := lb) (s := s3 n a b t) entersOk zerosOk CBok k3 (List.take_append_drop 2 _).symm (o3 n a b t) t3 q3 g3 ?_
  intro m4 a4 w4 g4 t4 d4 q4
  have t5 : TRel m4 126 (s5 n a b t k).1 a4.tmps := by
    have := t4.name ((slot n a b t).trans (by rw [low n]))
    rw [hl] at this
    exact this
  refine goL_end (n := 126) (l0 := la) (l := lb) (s := s5 n a b t k) entersOk zerosOk CBok k3 (List.take_append_drop 2 _).symm hg1 t5 q4 g4 ?_
  intro m6 a6 w6 g6 t6 d6 q6
  exact endS_wp (n := 126) (K := 1000) (s := s6 n a b t k) entersOk zerosOk CKok DKok p4 k4 vb hend t6 q6 g6 (by rw [d6, d4, d3, d2, d1])
theorem und48 : Tryd.prog.underlying 48 = some (.array 2 4) := by kernel_rfl
theorem c48 : Tryd.prog.cellsOf 48 = 2 := by kernel_rfl
theorem ct48 : Tryd.prog.cellTypes Tryd.prog.depth 48 = some [4, 4] ∨ Tryd.prog.cellTypes Tryd.prog.depth 48 = some [4] := .inl (by kernel_rfl)
set_option maxRecDepth 100000 in
theorem contract (H : Type) (enc : TypeId × Value → H) (W : World) (base : Nat) (args : Array Value) (ds gs : List (DataW H)) (before : List MemPlace)
    (hval : ∀ (j : Nat) t v, Tryd.f4.params[j]? = some t → args[j]? = some v → Value.okWide Tryd.prog W .any base t v)
    (hW : DataW.Whole enc Tryd.prog Tryd.f4.params.toList Rows.metaErrorsSpec.vars false W args.toList ds gs before) :
    Calls Tryd.prog 4 args W fun e W' => ∃ v, e = .returned v ∧ Rows.metaErrorsSpec.post enc Tryd.prog Tryd.f4 false true false false W args v W' := by
  have hW' := hW
  obtain ⟨p, q, hA0, hV, rfl, hfz, hnd⟩ := hW
  have hA : DataW.TrodAll enc Tryd.prog W 0 (fun _ => true) true Tryd.f4.params.toList args.toList ds p := hA0
  rw [Tryd.params4] at hA hval
  obtain ⟨v0, vs0, d0, ds0, p0, q0, hargs, rfl, rfl, h0, r0⟩ := trodAll_cons hA
  obtain ⟨v1, vs1, d1, ds1, p1, q1, rfl, rfl, rfl, h1, r1⟩ := trodAll_cons r0
  obtain ⟨v2, vs2, d2, ds2, p2, q2, rfl, rfl, rfl, h2, r2⟩ := trodAll_cons r1
  obtain ⟨rfl, rfl, rfl⟩ := trodAll_nil r2
  obtain rfl : args = #[v0, v1, v2] := by cases args; simp_all
  obtain ⟨rfl, rfl⟩ := trodVars_none hV
  obtain ⟨n, rfl⟩ := int_of_ok Tryd.underlying3 (hval 0 3 v0 (by simp) (by simp))
  obtain ⟨a, b, rfl⟩ := pair_of_ok und48 c48 ct48 Tryd.underlying4 (hval 1 48 v1 (by simp) (by simp))
  obtain ⟨t, rfl⟩ := bool_of_ok Tryd.underlying4 (hval 2 4 v2 (by simp) (by simp))
  refine (walk W n a b t).mono fun e W' ⟨he, hb⟩ => ?_
  subst he
  exact ⟨_, rfl, post_true laidOut rd4 hW' rfl rfl rfl rfl (by kernel_rfl) Tryd.underlying4 hb⟩

def dcells : Nat → DataW Unit → List Value
  | _, .lit (.int k n) => [.int k n]
  | f + 1, .agg l => l.flatMap (dcells f)
  | _, _ => []
/-- A WORLD FOR THE WITNESS. -/
noncomputable def laidWorld (os : Os) : World :=
  let w0 := World.holding Tryd.prog os ⟨#[], #[], []⟩
  let put (h : Array Obj) (g : Nat) (cs : List Value) : Array Obj := h.modify g fun
    | .cells _ t frozen => .cells cs.toArray t frozen
    | o => o
  { w0 with heap := put (put w0.heap 0 (dcells 3 Rows.laid_unicode_utf8_first)) 1 (dcells 3 Rows.laid_unicode_utf8_acceptRanges) }
noncomputable def wargs : Array Value := #[.int .i64 0, .agg #[.bool false, .bool false], .bool false]
theorem laid_met (os : Os) : laidMet Tryd.prog Rows.metaErrorsRow.laid ((laidWorld os).forCall (fun _ _ => 0) ⟨#[], wargs, []⟩).memory :=
  laidMet_of_run3 8 (by kernel_rfl) (by kernel_rfl) (by kernel_rfl)
theorem reads (os : Os) {H : Type} (enc : TypeId × Value → H) : ∃ places, DataW.whole enc Tryd.prog ((laidWorld os).forCall (fun _ _ => 0) ⟨#[], wargs, []⟩).memory Tryd.f4.params.toList Rows.metaErrorsSpec.vars false wargs.toList 8 =
    some ([.lit (.int .i64 0), .agg [.lit (.bool false), .lit (.bool false)], .lit (.bool false)], [], places) :=
  ⟨[], by kernel_rfl⟩
set_option maxRecDepth 100000 in
theorem lifted (os : Os) (started : os.Started) (H : Type) (enc : TypeId × Value → H) (F : Stop.Interp) :
    ReturnsInHanded {} Tryd.checked os 4 .any ((OpenSpec.ofChange Rows.metaErrorsSpec).preRow enc Tryd.prog Tryd.f4 Rows.metaErrorsRow.domain false Rows.metaErrorsRow.laid) (((OpenSpec.ofChange Rows.metaErrorsSpec).at F).post enc Tryd.prog Tryd.f4 false true false false) := by
  obtain ⟨places, hx⟩ := reads os enc
  refine returnsInHanded_of_row (C := Tryd.checked) (s := OpenSpec.ofChange Rows.metaErrorsSpec) own started (by kernel_rfl) Tryd.func4
    (witness_row_at (enc := enc) (C := Tryd.checked) false (laidWorld os) wargs rfl (by kernel_rfl) (by kernel_rfl) (by kernel_rfl)
      (OpenSpec.preRow_of_cond 8 hx (by kernel_rfl) (fun k hk => by cases hk) (by kernel_rfl) (laid_met os))) ?_
  intro W base args ds gs before hval hW _ _ _ _ _ _
  exact contract H enc W base args ds gs before hval hW
theorem said : Rows.MetaErrorsSaid :=
  OpenClaim.holds_of_cond 4 Tryd.f4 rfl rfl rfl rfl rfl rfl rfl ⟨rfl, rfl, rfl, rfl, rfl⟩ rfl rfl rfl rfl rfl (by kernel_rfl) Tryd.func4 (by kernel_rfl)
    (of_decide_eq_true (by kernel_rfl)) (by unfold Func.isWrapper; first | (rw [if_pos (by decide +kernel)]; kernel_rfl) | (rw [if_neg (by decide +kernel)]; exact ⟨rfl, rfl⟩))
    (fun os started H enc _ F => by rw [OpenClaim.pre_eq_preRow]; exact lifted os started H enc F)
/-- No parameter wants a stand-in; the program's own looks are off: what both cards ask. -/
theorem plain (f : FuncId) (fn : Func) (hf : Tryd.pinned.checked.prog.funcNamed "rookery/rookerylaw14.MetaErrors" = some f) (hfn : Tryd.pinned.checked.prog.funcs[f]? = some fn) :
    false = Tryd.pinned.checked.prog.looks [] ∧ ∀ (j : Nat) t, fn.params[j]? = some t → Tryd.pinned.checked.prog.wantsStandIn t = false := by
  obtain rfl : f = 4 := Option.some.inj ((show Tryd.prog.funcNamed "rookery/rookerylaw14.MetaErrors" = some 4 by kernel_rfl).symm.trans hf) |>.symm
  obtain rfl : fn = Tryd.f4 := (Option.some.inj (Tryd.func4.symm.trans hfn)).symm
  refine ⟨by kernel_rfl, fun j t ht => ?_⟩
  rw [Tryd.params4] at ht
  have h2 : t = 3 ∨ t = 48 ∨ t = 4 := by simpa using Array.mem_of_getElem? ht
  rcases h2 with rfl | rfl | rfl
  · exact (show Tryd.prog.wantsStandIn 3 = false by kernel_rfl)
  · exact (show Tryd.prog.wantsStandIn 48 = false by kernel_rfl)
  · exact (show Tryd.prog.wantsStandIn 4 = false by kernel_rfl)
/-- ████ THE CARD ████ -/
theorem card : Rows.MetaErrorsCardSaid :=
  Claim7.holds_tied_plain_at .later [] _ _ _ _ said (fun _ h => by cases h) (by kernel_rfl) (fun _ h => by cases h) metaErrors_row_tie rfl ⟨rfl, rfl⟩ (by kernel_rfl) rfl plain (by kernel_rfl)
end Go.Proofs.YtclcobiaiedpbaaDoor.metaErrors
