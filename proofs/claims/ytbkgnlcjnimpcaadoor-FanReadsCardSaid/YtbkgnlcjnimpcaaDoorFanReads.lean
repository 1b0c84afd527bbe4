/- FanReads is proved: the subscription of any text, or that it is none, for every text; the package-level tables that the row lists are tied to the text by the card. -/
import Derived.Test.YtbkgnlcjnimpcaaDoorRdB
import Derived.Test.YtbkgnlcjnimpcaaDoorCards
import Derived.Test.YtbkgnlcjnimpcaaDoorTie
import Derived.WalkKit
import Derived.OpenShut
import Derived.MakeChecks
import Derived.SizedLaws
namespace Go.Proofs.YtbkgnlcjnimpcaaDoor.fanReads
open Go Go.Ab Go.ChangeShapes Go.WideShapes Go.ChangeAt Go.RowKit Go.Proofs.YtbkgnlcjnimpcaaDoor.strs
open Go.Proofs.YtbkgnlcjnimpcaaDoor.strs.dig (tblO)
set_option maxRecDepth 100000
/-! ### What is laid -/
theorem trod_if {H : Type} {enc : TypeId × Value → H} {P : Program} {w : World} {base : Nat} {spare held fuel x} {t : TypeId} {ms cs} (ht : P.underlying t = some (.interface ms)) (h : DataW.trod enc P w base spare held fuel t cs = some x) :
    ∃ c, cs = [c] ∧ (∀ b, c ≠ .bool b) ∧ (∀ b, c ≠ .agg b) ∧ (∀ b, c ≠ .tuple b) := by
  cases fuel with
  | zero => simp [DataW.trod] at h
  | succ n =>
    unfold DataW.trod at h
    rw [ht] at h
    rcases cs with _ | ⟨c, _ | ⟨c2, r⟩⟩
    · cases h
    · cases c <;> first
        | (cases h; done)
        | exact ⟨_, rfl, (fun b q => by cases q), (fun b q => by cases q), (fun b q => by cases q)⟩
    · cases c <;> cases h
theorem var_heap {P : Program} {w : World} {n : String} {cs : Array Value} {g : Nat} (hg : P.globalNamed n = some g) (h : w.var? P n = some cs) : ∃ t fr, w.heap[g]? = some (.cells cs t fr) := by
  unfold World.var? at h
  rw [hg] at h
  dsimp only [Option.bind_some] at h
  split at h
  · rename_i c t fr hc
    cases h
    exact ⟨t, fr, hc⟩
  · cases h
theorem u138 : Tryd.prog.underlying 138 = some (.array 20 123) := by kernel_rfl
theorem u123 : Tryd.prog.underlying 123 = some (.int .u64) := by kernel_rfl
theorem u94b : (match Tryd.prog.underlying 94 with | some (.interface _) => true | _ => false) = true := by kernel_rfl
theorem u94 : ∃ ms, Tryd.prog.underlying 94 = some (.interface ms) := by
  have h := u94b
  split at h
  · rename_i ms e; exact ⟨ms, e⟩
  · cases h
theorem g5 : Tryd.prog.globalNamed "internal/strconv.uint64pow10" = some 5 := by kernel_rfl
theorem g4 : Tryd.prog.globalNamed "strconv.ErrRange" = some 4 := by kernel_rfl
theorem g3 : Tryd.prog.globalNamed "strconv.ErrSyntax" = some 3 := by kernel_rfl
theorem t5 : (Tryd.prog.globals[5]?).map (·.type) = some 138 := by kernel_rfl
theorem t4 : (Tryd.prog.globals[4]?).map (·.type) = some 94 := by kernel_rfl
theorem t3 : (Tryd.prog.globals[3]?).map (·.type) = some 94 := by kernel_rfl
theorem any_of {W : World} {k fuel : Nat} {n : String} {cs : Array Value} {x} (hg : Tryd.prog.globalNamed n = some k) (hv : W.var? Tryd.prog n = some cs) (hd : DataW.trod (fun _ => ()) Tryd.prog W 0 (fun _ => true) false fuel 94 cs.toList = some x) : TblW Tryd.prog 8 k anyO W := by
  obtain ⟨t, fr, hh⟩ := var_heap hg hv
  obtain ⟨ms, hu⟩ := u94
  obtain ⟨c, hc, h1, h2, h3⟩ := trod_if hu hd
  refine ⟨cs, t, fr, hh, ?_, fun i v hv => ?_⟩
  · show 0 + 1 ≤ cs.size
    rw [← Array.length_toList, hc]
    exact Nat.le_refl _
  · rw [Row.ofList_get?] at hv
    cases i with
    | zero =>
      cases hv
      refine ⟨c, ?_, .any 0 c h1 h2 h3⟩
      show cs[0 + 0]? = some c
      rw [← Array.getElem?_toList, hc]
      rfl
    | succ i => cases hv
theorem row_eq : (Rows.laid_internal_strconv_uint64pow10 : DataW Unit) = .agg (dig.pows.map fun n => .lit (.int .u64 (.ofNat n))) := by kernel_rfl
theorem tbl_of {W : World} {fuel : Nat} {cs : Array Value} {p} (hv : W.var? Tryd.prog "internal/strconv.uint64pow10" = some cs) (hd : DataW.trod (fun _ => ()) Tryd.prog W 0 (fun _ => true) false fuel 138 cs.toList = some (Rows.laid_internal_strconv_uint64pow10, p)) : TblW Tryd.prog 8 5 tblO W := by
  obtain ⟨t, fr, hh⟩ := var_heap g5 hv
  obtain ⟨xs, m, _, ex, hlen, hl, hel⟩ := DataW.trod_array u138 hd
  have c1 : Tryd.prog.cellsOf 123 = 1 := by kernel_rfl
  have c20 : Tryd.prog.cellsOf 138 = 20 := by kernel_rfl
  have hsz : cs.size = 20 := by rw [← Array.length_toList, hlen, c20]
  refine ⟨cs, t, fr, hh, ?_, fun i v hv => ?_⟩
  · show 0 + 20 ≤ cs.size
    omega
  · rw [Row.ofList_get?, List.getElem?_map] at hv
    have hi : i < 20 := by
      rcases Nat.lt_or_ge i 20 with q | q
      · exact q
      · rw [List.getElem?_eq_none (show dig.pows.length ≤ i from q)] at hv; cases hv
    have hE := hel i hi
    rw [c1, Nat.mul_one, List.getElem?_eq_getElem (by omega)] at hE
    obtain ⟨z, e1, e2, _⟩ := DataW.trod_int u123 hE
    have e3 : xs.map (·.1) = dig.pows.map fun n => (.lit (.int .u64 (.ofNat n)) : DataW Unit) := (DataW.agg.inj ((Prod.mk.inj ex).1.symm.trans row_eq))
    have e4 : (xs.map (·.1))[i]? = (dig.pows.map fun n => (.lit (.int .u64 (.ofNat n)) : DataW Unit))[i]? := by rw [e3]
    rw [List.getElem?_map, List.getElem?_map, List.getElem?_eq_getElem (by omega : i < xs.length), e2] at e4
    cases hp : dig.pows[i]? with
    | none => rw [hp] at hv; cases hv
    | some q =>
      rw [hp] at hv e4
      cases hv
      have hz : z = .ofNat q := by
        simp only [Option.map_some, Option.some.injEq, DataW.lit.injEq, Lit.int.injEq, true_and] at e4
        exact e4
      subst hz
      refine ⟨_, ?_, VRel.int .u64 (.ofNat q)⟩
      have h0 : ((cs.toList.drop i).take 1)[0]? = some (.int .u64 (.ofNat q)) := by rw [e1]; rfl
      show cs[0 + i]? = _
      rw [Nat.zero_add]
      simpa using h0
theorem laid_of {W : World} (h : laidMetH Tryd.prog Rows.fanReadsRow.laid W) : TblW Tryd.prog 8 5 tblO W ∧ TblW Tryd.prog 8 3 anyO W ∧ TblW Tryd.prog 8 4 anyO W := by
  rw [MakeChecks.laidMetH_plain _ _ _ (by kernel_rfl)] at h
  obtain ⟨ps, h, _⟩ := h
  obtain ⟨_, _, _, _, _, _, _, _, _, _, h, _⟩ := h
  obtain ⟨_, _, _, _, _, _, _, _, _, _, h, _⟩ := h
  obtain ⟨a1, a2, a3, a4, a5, a6, ag, at', av, ad, h, _⟩ := h
  obtain ⟨_, _, _, _, _, _, _, _, _, _, h, _⟩ := h
  obtain ⟨b1, b2, b3, b4, b5, b6, bg, bt, bv, bd, h, _⟩ := h
  obtain ⟨c1, c2, c3, c4, c5, c6, cg, ct, cv, cd, _, _⟩ := h
  obtain rfl := Option.some.inj (g5.symm.trans ag)
  obtain rfl := Option.some.inj (t5.symm.trans at')
  obtain rfl := Option.some.inj (g4.symm.trans bg)
  obtain rfl := Option.some.inj (t4.symm.trans bt)
  obtain rfl := Option.some.inj (g3.symm.trans cg)
  obtain rfl := Option.some.inj (t3.symm.trans ct)
  exact ⟨tbl_of av ad, any_of g3 cv cd, any_of g4 bv bd⟩
/-! ### The contract -/
theorem str_of_ok {P : Program} {W : World} {r : Reach} {base : Nat} {t : TypeId} {v : Value} (ht : P.underlying t = some .string) (h : Value.okWide P W r base t v) : ∃ s, v = .string s := by
  unfold Value.okWide at h
  rw [ht] at h
  unfold Cell.okWide Cell.ok at h
  rw [ht] at h
  cases v <;> first | exact ⟨_, rfl⟩ | exact h.elim
theorem own : ownKnob Tryd.prog.godebug = none := by kernel_rfl
theorem laidOut : laidOutB Tryd.prog = true := by kernel_rfl
theorem rd9 : Tryd.f9.params.toList.all (fun t => Tryd.prog.readableRec t && Nat.blt t Tryd.prog.types.size) = true := by kernel_rfl
theorem contract (H : Type) (enc : TypeId × Value → H) (W : World) (base : Nat) (args : Array Value) (ds gs : List (DataW H)) (before : List MemPlace)
    (hval : ∀ (j : Nat) t v, Tryd.f9.params[j]? = some t → args[j]? = some v → Value.okWide Tryd.prog W .any base t v)
    (hW : DataW.Whole enc Tryd.prog Tryd.f9.params.toList Rows.fanReadsSpec.vars false W args.toList ds gs before)
    (hs : (DataW.weightsEach Tryd.prog (Tryd.f9.params.toList ++ (OpenSpec.ofChange Rows.fanReadsSpec).bare.plain.varTypes Tryd.prog) (ds ++ gs)).all (· ≤ reachBytes) = true)
    (hl : laidMetH Tryd.prog Rows.fanReadsRow.laid W) :
    Calls Tryd.prog 9 args W fun e W' => ∃ v, e = .returned v ∧ Rows.fanReadsSpec.post enc Tryd.prog Tryd.f9 false true false false W args v W' := by
  have hW' := hW
  obtain ⟨p, q, hA0, hV, rfl, hfz, hnd⟩ := hW
  have hA : DataW.TrodAll enc Tryd.prog W 0 (fun _ => true) true Tryd.f9.params.toList args.toList ds p := hA0
  rw [Tryd.params9] at hA hs hval
  obtain ⟨v0, vs0, d0, ds0, p0, q0, hargs, rfl, rfl, h0, r0⟩ := trodAll_cons hA
  obtain ⟨rfl, rfl, rfl⟩ := trodAll_nil r0
  obtain rfl : args = #[v0] := by cases args; simp_all
  obtain ⟨rfl, rfl⟩ := trodVars_none hV
  obtain ⟨fuel, h0⟩ := h0
  obtain ⟨s, rfl⟩ := str_of_ok und9 (hval 0 9 v0 (by simp) (by simp))
  obtain ⟨l, rfl⟩ : ∃ l : List UInt8, s = ⟨⟨l⟩⟩ := ⟨s.data.toList, rfl⟩
  obtain ⟨s2, hc, hx, _⟩ := DataW.trod_string und9 h0
  have hs2 : s2 = ⟨⟨l⟩⟩ := by
    have : [Value.string ⟨⟨l⟩⟩] = [Value.string s2] := hc
    cases this
    rfl
  subst hs2
  have hd : d0 = .lit (.string l) := (Prod.mk.inj hx).1
  have hlen : l.length ≤ reachBytes := sized_string (j := 0) (t := 9) hs rfl (by rw [hd]; rfl)
  have hbig : l.length < BIG := Nat.lt_of_le_of_lt hlen reachBytes_lt
  obtain ⟨w5, w3, w4⟩ := laid_of hl
  refine (law_ok hbig w5 w3 w4).mono fun e W' ⟨he, hb⟩ => ?_
  subst he
  exact ⟨_, rfl, post_true laidOut rd9 hW' rfl rfl rfl rfl (by kernel_rfl) Tryd.underlying4 hb⟩

def dcells : Nat → DataW Unit → List Value
  | _, .lit (.int k n) => [.int k n]
  | f + 1, .agg l => l.flatMap (dcells f)
  | _, _ => []
/-- A WORLD FOR THE WITNESS. -/
noncomputable def laidWorld (os : Os) : World :=
  let w0 := World.holding Tryd.prog os ⟨#[.cells #[.string ⟨#[118, 97, 108, 117, 101, 32, 111, 117, 116, 32, 111, 102, 32, 114, 97, 110, 103, 101]⟩] 148 (0, 0), .cells #[.string ⟨#[105, 110, 118, 97, 108, 105, 100, 32, 115, 121, 110, 116, 97, 120]⟩] 148 (0, 0)], #[], []⟩
  let e := (World.settled Tryd.prog os).heap.size
  let put (h : Array Obj) (g : Nat) (cs : List Value) : Array Obj := h.modify g fun
    | .cells _ t frozen => .cells cs.toArray t frozen
    | o => o
  { w0 with heap := put (put (put (put (put (put (put w0.heap 0 (dcells 3 Rows.laid_unicode_utf8_first)) 1 (dcells 3 Rows.laid_unicode_utf8_acceptRanges)) 5 (dcells 3 Rows.laid_internal_strconv_uint64pow10)) 6 (dcells 3 Rows.laid_math_bits_deBruijn32tab)) 7 (dcells 3 Rows.laid_math_bits_deBruijn64tab)) 4 [.iface 146 (.pointer (some ⟨e, 0, none⟩))]) 3 [.iface 146 (.pointer (some ⟨e + 1, 0, none⟩))] }
noncomputable def wargs : Array Value := #[.string ⟨#[]⟩]
theorem laid_met (os : Os) : laidMet Tryd.prog Rows.fanReadsRow.laid ((laidWorld os).forCall (fun _ _ => 0) ⟨#[], wargs, []⟩).memory :=
  laidMet_of_run3 8 (by kernel_rfl) (by kernel_rfl) (by kernel_rfl)
theorem reads (os : Os) {H : Type} (enc : TypeId × Value → H) : ∃ places, DataW.whole enc Tryd.prog ((laidWorld os).forCall (fun _ _ => 0) ⟨#[], wargs, []⟩).memory Tryd.f9.params.toList Rows.fanReadsSpec.vars false wargs.toList 8 =
    some ([.lit (.string [])], [], places) :=
  ⟨[], by kernel_rfl⟩
theorem lifted (os : Os) (started : os.Started) (H : Type) (enc : TypeId × Value → H) (F : Stop.Interp) :
    ReturnsInHanded {} Tryd.checked os 9 .any ((OpenSpec.ofChange Rows.fanReadsSpec).preRow enc Tryd.prog Tryd.f9 Rows.fanReadsRow.domain false Rows.fanReadsRow.laid) (((OpenSpec.ofChange Rows.fanReadsSpec).at F).post enc Tryd.prog Tryd.f9 false true false false) := by
  obtain ⟨places, hx⟩ := reads os enc
  refine returnsInHanded_of_row (C := Tryd.checked) (s := OpenSpec.ofChange Rows.fanReadsSpec) own started (by kernel_rfl) Tryd.func9
    (witness_row_at (enc := enc) (C := Tryd.checked) false (laidWorld os) wargs rfl (by kernel_rfl) (by kernel_rfl) (by kernel_rfl)
      (OpenSpec.preRow_of_cond 8 hx (by kernel_rfl) (fun k hk => by cases hk) (by kernel_rfl) (laid_met os))) ?_
  intro W base args ds gs before hval hW _ _ hs hl _ _
  exact contract H enc W base args ds gs before hval hW hs hl
theorem said : Rows.FanReadsSaid :=
  OpenClaim.holds_of_cond 9 Tryd.f9 rfl rfl rfl rfl rfl rfl rfl ⟨rfl, rfl, rfl, rfl, rfl⟩ rfl rfl rfl rfl rfl (by kernel_rfl) Tryd.func9 (by kernel_rfl)
    (of_decide_eq_true (by kernel_rfl)) (by unfold Func.isWrapper; first | (rw [if_pos (by decide +kernel)]; kernel_rfl) | (rw [if_neg (by decide +kernel)]; exact ⟨rfl, rfl⟩))
    (fun os started H enc _ F => by rw [OpenClaim.pre_eq_preRow]; exact lifted os started H enc F)
/-- No parameter wants a stand-in; the program's own looks are on: what both cards ask. -/
theorem noStand (f : FuncId) (fn : Func) (hf : Tryd.pinned.checked.prog.funcNamed "rookery/rookerylaw19.FanReads" = some f) (hfn : Tryd.pinned.checked.prog.funcs[f]? = some fn) :
    true = Tryd.pinned.checked.prog.looks [] ∧ ∀ (j : Nat) t, fn.params[j]? = some t → Tryd.pinned.checked.prog.wantsStandIn t = false := by
  obtain rfl : f = 9 := Option.some.inj ((show Tryd.prog.funcNamed "rookery/rookerylaw19.FanReads" = some 9 by kernel_rfl).symm.trans hf) |>.symm
  obtain rfl : fn = Tryd.f9 := (Option.some.inj (Tryd.func9.symm.trans hfn)).symm
  refine ⟨by kernel_rfl, fun j t ht => ?_⟩
  rw [Tryd.params9] at ht
  obtain rfl : t = 9 := by simpa using Array.mem_of_getElem? ht
  exact (show Tryd.prog.wantsStandIn 9 = false by kernel_rfl)
/-- ████ THE CARD ████ -/
theorem card : Rows.FanReadsCardSaid :=
  Claim7.holds_tied_plain_at .later [] _ _ _ _ said (fun _ h => by cases h) (by kernel_rfl) (fun _ h => by cases h) fanReads_row_tie rfl ⟨rfl, rfl⟩ (by kernel_rfl) rfl noStand (by kernel_rfl)
end Go.Proofs.YtbkgnlcjnimpcaaDoor.fanReads
