/- FanPlays is proved: a subscription tells what was answered, as the document's does, at any op and any script; the package-level tables that the row lists are tied to the text by the card. -/
import Derived.Test.YtbkgnlcjnimpcaaDoorFqH
import Derived.Test.YtbkgnlcjnimpcaaDoorCards
import Derived.Test.YtbkgnlcjnimpcaaDoorTie
import Derived.WalkKit
import Derived.OpenShut
import Derived.MakeChecks
import Derived.SizedLaws
namespace Go.Proofs.YtbkgnlcjnimpcaaDoor.fanPlays
open Go Go.Ab Go.ChangeShapes Go.WideShapes Go.ChangeAt Go.RowKit Go.Proofs.YtbkgnlcjnimpcaaDoor.strs
open Go.Proofs.YtbkgnlcjnimpcaaDoor.strs.dig (tblO)
set_option maxRecDepth 100000
/-! ### What is laid -/
theorem var_heap {P : Program} {w : World} {n : String} {cs : Array Value} {g : Nat} (hg : P.globalNamed n = some g) (h : w.var? P n = some cs) : ∃ t fr, w.heap[g]? = some (.cells cs t fr) := by
  unfold World.var? at h
  rw [hg] at h
  dsimp only [Option.bind_some] at h
  split at h
  · rename_i c t fr hc
    cases h
    exact ⟨t, fr, hc⟩
  · cases h
theorem u138 : Tryd.prog.underlying 138 = some (.array 20 123) := by kernel_rfl
theorem u123 : Tryd.prog.underlying 123 = some (.int .u64) := by kernel_rfl
theorem g5 : Tryd.prog.globalNamed "internal/strconv.uint64pow10" = some 5 := by kernel_rfl
theorem t5 : (Tryd.prog.globals[5]?).map (·.type) = some 138 := by kernel_rfl
theorem row_eq : (Rows.laid_internal_strconv_uint64pow10 : DataW Unit) = .agg (dig.pows.map fun n => .lit (.int .u64 (.ofNat n))) := by kernel_rfl
theorem tbl_of {W : World} {fuel : Nat} {cs : Array Value} {p} (hv : W.var? Tryd.prog "internal/strconv.uint64pow10" = some cs) (hd : DataW.trod (fun _ => ()) Tryd.prog W 0 (fun _ => true) false fuel 138 cs.toList = some (Rows.laid_internal_strconv_uint64pow10, p)) : TblW Tryd.prog 8 5 tblO W := by
  obtain ⟨t, fr, hh⟩ := var_heap g5 hv
  obtain ⟨xs, m, _, ex, hlen, hl, hel⟩ := DataW.trod_array u138 hd
  have c1 : Tryd.prog.cellsOf 123 = 1 := by kernel_rfl
  have c20 : Tryd.prog.cellsOf 138 = 20 := by kernel_rfl
  have hsz : cs.size = 20 := by rw [← Array.length_toList, hlen, c20]
  refine ⟨cs, t, fr, hh, ?_, fun i v hv => ?_⟩
  · show 0 + 20 ≤ cs.size
    omega
  · rw [Row.ofList_get?, List.getElem?_map] at hv
    have hi : i < 20 := by
      rcases Nat.lt_or_ge i 20 with q | q
      · exact q
      · rw [List.getElem?_eq_none (show dig.pows.length ≤ i from q)] at hv; cases hv
    have hE := hel i hi
    rw [c1, Nat.mul_one, List.getElem?_eq_getElem (by omega)] at hE
    obtain ⟨z, e1, e2, _⟩ := DataW.trod_int u123 hE
    have e3 : xs.map (·.1) = dig.pows.map fun n => (.lit (.int .u64 (.ofNat n)) : DataW Unit) := (DataW.agg.inj ((Prod.mk.inj ex).1.symm.trans row_eq))
    have e4 : (xs.map (·.1))[i]? = (dig.pows.map fun n => (.lit (.int .u64 (.ofNat n)) : DataW Unit))[i]? := by rw [e3]
    rw [List.getElem?_map, List.getElem?_map, List.getElem?_eq_getElem (by omega : i < xs.length), e2] at e4
    cases hp : dig.pows[i]? with
    | none => rw [hp] at hv; cases hv
    | some q =>
      rw [hp] at hv e4
      cases hv
      have hz : z = .ofNat q := by
        simp only [Option.map_some, Option.some.injEq, DataW.lit.injEq, Lit.int.injEq, true_and] at e4
        exact e4
      subst hz
      refine ⟨_, ?_, VRel.int .u64 (.ofNat q)⟩
      have h0 : ((cs.toList.drop i).take 1)[0]? = some (.int .u64 (.ofNat q)) := by rw [e1]; rfl
      show cs[0 + i]? = _
      rw [Nat.zero_add]
      simpa using h0
theorem laid_of {W : World} (h : laidMetH Tryd.prog Rows.fanPlaysRow.laid W) : TblW Tryd.prog 8 5 tblO W := by
  rw [MakeChecks.laidMetH_plain _ _ _ (by kernel_rfl)] at h
  obtain ⟨ps, h, _⟩ := h
  obtain ⟨_, _, _, _, _, _, _, _, _, _, h, _⟩ := h
  obtain ⟨_, _, _, _, _, _, _, _, _, _, h, _⟩ := h
  obtain ⟨a1, a2, a3, a4, a5, a6, ag, at', av, ad, h, _⟩ := h
  obtain rfl := Option.some.inj (g5.symm.trans ag)
  obtain rfl := Option.some.inj (t5.symm.trans at')
  exact tbl_of av ad
/-! ### The arguments -/
theorem parts34 : ∃ fs, Tryd.prog.underlying 34 = some (.struct fs) ∧ (fs.toList.map fun f => (f.type, f.offset)) = [(3, 0), (9, 1), (9, 2), (9, 3), (9, 4), (9, 5), (9, 6), (3, 7), (3, 8)] := by
  have h := p34
  unfold partsOf at h
  split at h
  · rename_i fs hfs
    exact ⟨fs, hfs, Option.some.inj h⟩
  · cases h
/-- An op, as it is read: its cells, and how long its names are. -/
theorem op_arg {H : Type} {enc : TypeId × Value → H} {W : World} {r : Reach} {b0 base : Nat} {spare : Nat → Bool} {held : Bool} {v : Value} {d : DataW H} {ps : List MemPlace} (hv : Value.okWide Tryd.prog W r b0 34 v) (hd : DataW.Trod enc Tryd.prog W base spare held 34 v d ps)
    (hw : ∀ n ∈ d.weights Tryd.prog 34, n ≤ reachBytes) : ∃ k s1 s2 s3 s4 s5 s6 fr mo, v = opV k s1 s2 s3 s4 s5 s6 fr mo ∧ s1.length < BIG ∧ s2.length < BIG := by
  obtain ⟨fs, hfs, hl⟩ := parts34
  unfold Value.okWide at hv
  rw [hfs] at hv
  obtain ⟨cs, rfl, hsz, _⟩ := hv
  rw [z34] at hsz
  obtain ⟨fuel, hd⟩ := hd
  have hd1 : DataW.trod enc Tryd.prog W base spare held fuel 34 cs.toList = some (d, ps) := hd
  have e9 : cs.toList = (List.range 9).map fun j => cs.getD j undef := by
    refine List.ext_getElem? fun j => ?_
    rcases Nat.lt_or_ge j 9 with hj | hj
    · rw [List.getElem?_map, List.getElem?_range hj, Array.getElem?_toList, Array.getElem?_eq_getElem (by omega)]
      simp only [Option.map_some, Array.getD_eq_getD_getElem?, Array.getElem?_eq_getElem (show j < cs.size by omega), Option.getD_some]
    · rw [List.getElem?_eq_none (by rw [Array.length_toList]; omega), List.getElem?_eq_none (by simpa using hj)]
  have ho : OpAt fun j => cs.getD j undef := op_at (g := fun j => cs.getD j undef) ⟨_, by rw [← show cs.toList = [cs.getD 0 undef, cs.getD 1 undef, cs.getD 2 undef, cs.getD 3 undef, cs.getD 4 undef, cs.getD 5 undef, cs.getD 6 undef, cs.getD 7 undef, cs.getD 8 undef] from e9]; exact hd1⟩
  obtain ⟨k, h0⟩ := ho.kind
  obtain ⟨s1, h1⟩ := ho.txt 1 (by omega) (by omega)
  obtain ⟨s2, h2⟩ := ho.txt 2 (by omega) (by omega)
  obtain ⟨s3, h3⟩ := ho.txt 3 (by omega) (by omega)
  obtain ⟨s4, h4⟩ := ho.txt 4 (by omega) (by omega)
  obtain ⟨s5, h5⟩ := ho.txt 5 (by omega) (by omega)
  obtain ⟨s6, h6⟩ := ho.txt 6 (by omega) (by omega)
  obtain ⟨fr, h7⟩ := ho.frm
  obtain ⟨mo, h8⟩ := ho.most
  have e : cs.toList = [i64 k, str s1, str s2, str s3, str s4, str s5, str s6, i64 fr, i64 mo] := by
    rw [e9]
    show [cs.getD 0 undef, cs.getD 1 undef, cs.getD 2 undef, cs.getD 3 undef, cs.getD 4 undef, cs.getD 5 undef, cs.getD 6 undef, cs.getD 7 undef, cs.getD 8 undef] = _
    rw [h0, h1, h2, h3, h4, h5, h6, h7, h8]
  obtain ⟨xs, n, _, hx, _, hlen, hel⟩ := DataW.trod_struct hfs hd1
  have hd2 : d = .agg (xs.map (·.1)) := (Prod.mk.inj hx).1
  have len : ∀ (i : Nat) (s : List UInt8), (i = 1 ∨ i = 2) → cs.getD i undef = str s → s.length < BIG := by
    intro i s hi hs
    have hp : (fs.toList.map fun f => (f.type, f.offset))[i]? = some (9, i) := by
      rw [hl]
      rcases hi with rfl | rfl <;> rfl
    rw [List.getElem?_map, Array.getElem?_toList] at hp
    cases hf : fs[i]? with
    | none => rw [hf] at hp; cases hp
    | some f =>
      rw [hf] at hp
      simp only [Option.map_some, Option.some.injEq, Prod.mk.injEq] at hp
      have hq := hel i f hf
      rw [hp.1, hp.2, z9] at hq
      have hc : (cs.toList.drop i).take 1 = [str s] := by
        rw [e9, ← hs]
        rcases hi with rfl | rfl <;> rfl
      rw [hc] at hq
      have hi2 : i < xs.length := by
        rw [hlen]
        exact (Array.getElem?_eq_some_iff.1 hf).1
      rw [List.getElem?_eq_getElem hi2] at hq
      obtain ⟨s', e1, e2, _⟩ := DataW.trod_string und9 hq
      have e3 : s' = ⟨⟨s⟩⟩ := by
        have := (List.cons.inj e1).1
        unfold str at this
        cases this
        rfl
      subst e3
      have hm : s.length ∈ d.weights Tryd.prog 34 := by
        rw [hd2]
        unfold DataW.weights
        rw [hfs]
        refine DataW.weights_mem_each (j := i) (t := 9) (d := .lit (.string s)) ?_ ?_ _ (by simp [DataW.weights])
        · rw [List.getElem?_map, Array.getElem?_toList, hf]
          simp only [Option.map_some, hp.1]
        · rw [List.getElem?_map, List.getElem?_eq_getElem hi2, e2]
          rfl
      exact Nat.lt_of_le_of_lt (hw _ hm) reachBytes_lt
  refine ⟨k, s1, s2, s3, s4, s5, s6, fr, mo, ?_, len 1 s1 (.inl rfl) h1, len 2 s2 (.inr rfl) h2⟩
  unfold opV
  congr 1
  rw [← e]
/-- The script, as it is read. -/
theorem script_arg {H : Type} {enc : TypeId × Value → H} {W : World} {r : Reach} {b0 base : Nat} {held : Bool} {v : Value} {d : DataW H} {ps : List MemPlace} (hv : Value.okWide Tryd.prog W r b0 63 v) (hd : DataW.Trod enc Tryd.prog W base (fun _ => true) held 63 v d ps) : Arg enc W base held v := by
  unfold Value.okWide at hv
  rw [u63] at hv
  dsimp only at hv
  unfold Cell.okWide at hv
  rw [u63] at hv
  obtain ⟨fuel, hd⟩ := hd
  have hs : ∃ s n c, v = .slice s n c := by
    cases v <;> first | exact ⟨_, _, _, rfl⟩ | (exfalso; simp only [Cell.ok, u63] at hv)
  obtain ⟨s, n, c, rfl⟩ := hs
  rcases rawSlice_of u63 (by rw [z69]; decide) hd with h | ⟨a, h⟩ | ⟨b, off, N, c, C, t, fr, h, _, hN, hc, hC, hsz, hel⟩
  · rw [h]; exact .nil
  · rw [h]; exact .room0 a
  · rw [h]
    rw [z69] at hsz hel
    exact .row b off N c C hc ⟨⟨t, fr, hC⟩, hsz, fun i hi => by
      obtain ⟨fu, y, hy⟩ := hel i hi
      exact call_at ⟨y, hy⟩⟩
/-! ### The contract -/
theorem own : ownKnob Tryd.prog.godebug = none := by kernel_rfl
theorem laidOut : laidOutB Tryd.prog = true := by kernel_rfl
theorem rd8 : Tryd.f8.params.toList.all (fun t => Tryd.prog.readableRec t && Nat.blt t Tryd.prog.types.size) = true := by kernel_rfl
theorem contract (H : Type) (enc : TypeId × Value → H) (W : World) (base : Nat) (args : Array Value) (ds gs : List (DataW H)) (before : List MemPlace)
    (hval : ∀ (j : Nat) t v, Tryd.f8.params[j]? = some t → args[j]? = some v → Value.okWide Tryd.prog W .any base t v)
    (hW : DataW.Whole enc Tryd.prog Tryd.f8.params.toList Rows.fanPlaysSpec.vars false W args.toList ds gs before)
    (hs : (DataW.weightsEach Tryd.prog (Tryd.f8.params.toList ++ (OpenSpec.ofChange Rows.fanPlaysSpec).bare.plain.varTypes Tryd.prog) (ds ++ gs)).all (· ≤ reachBytes) = true)
    (hl : laidMetH Tryd.prog Rows.fanPlaysRow.laid W) :
    Calls Tryd.prog 8 args W fun e W' => ∃ v, e = .returned v ∧ Rows.fanPlaysSpec.post enc Tryd.prog Tryd.f8 false true false false W args v W' := by
  have hW' := hW
  obtain ⟨p, q, hA0, hV, rfl, hfz, hnd⟩ := hW
  have hA : DataW.TrodAll enc Tryd.prog W 0 (fun _ => true) true Tryd.f8.params.toList args.toList ds p := hA0
  rw [Tryd.params8] at hA hs hval
  obtain ⟨v0, vs0, d0, ds0, p0, q0, hargs, rfl, rfl, h0, r0⟩ := trodAll_cons hA
  obtain ⟨v1, vs1, d1, ds1, p1, q1, rfl, rfl, rfl, h1, r1⟩ := trodAll_cons r0
  obtain ⟨rfl, rfl, rfl⟩ := trodAll_nil r1
  obtain rfl : args = #[v0, v1] := by cases args; simp_all
  obtain ⟨rfl, rfl⟩ := trodVars_none hV
  have hw : ∀ n ∈ d0.weights Tryd.prog 34, n ≤ reachBytes := fun n hn => by
    have := List.all_eq_true.1 hs n (DataW.weights_mem_each (j := 0) (t := 34) (d := d0) rfl rfl n hn)
    simpa using this
  obtain ⟨k, s1, s2, s3, s4, s5, s6, fr, mo, rfl, b1, b2⟩ := op_arg (hval 0 34 v0 (by simp) (by simp)) h0 hw
  refine (walk (laid_of hl) k fr mo s1 s2 s3 s4 s5 s6 b1 b2 (script_arg (hval 1 63 v1 (by simp) (by simp)) h1)).mono fun e W' ⟨he, hb⟩ => ?_
  subst he
  exact ⟨_, rfl, post_true laidOut rd8 hW' rfl rfl rfl rfl (by kernel_rfl) Tryd.underlying4 hb⟩

def dcells : Nat → DataW Unit → List Value
  | _, .lit (.int k n) => [.int k n]
  | f + 1, .agg l => l.flatMap (dcells f)
  | _, _ => []
/-- A WORLD FOR THE WITNESS. -/
noncomputable def laidWorld (os : Os) : World :=
  let w0 := World.holding Tryd.prog os ⟨#[.cells #[.string ⟨#[118, 97, 108, 117, 101, 32, 111, 117, 116, 32, 111, 102, 32, 114, 97, 110, 103, 101]⟩] 148 (0, 0), .cells #[.string ⟨#[105, 110, 118, 97, 108, 105, 100, 32, 115, 121, 110, 116, 97, 120]⟩] 148 (0, 0)], #[], []⟩
  let e := (World.settled Tryd.prog os).heap.size
  let put (h : Array Obj) (g : Nat) (cs : List Value) : Array Obj := h.modify g fun
    | .cells _ t frozen => .cells cs.toArray t frozen
    | o => o
  { w0 with heap := put (put (put (put (put (put (put w0.heap 0 (dcells 3 Rows.laid_unicode_utf8_first)) 1 (dcells 3 Rows.laid_unicode_utf8_acceptRanges)) 5 (dcells 3 Rows.laid_internal_strconv_uint64pow10)) 6 (dcells 3 Rows.laid_math_bits_deBruijn32tab)) 7 (dcells 3 Rows.laid_math_bits_deBruijn64tab)) 4 [.iface 146 (.pointer (some ⟨e, 0, none⟩))]) 3 [.iface 146 (.pointer (some ⟨e + 1, 0, none⟩))] }
noncomputable def wargs : Array Value := #[.agg #[.int .i64 0, .string ⟨#[]⟩, .string ⟨#[]⟩, .string ⟨#[]⟩, .string ⟨#[]⟩, .string ⟨#[]⟩, .string ⟨#[]⟩, .int .i64 0, .int .i64 0], .slice none 0 0]
theorem laid_met (os : Os) : laidMet Tryd.prog Rows.fanPlaysRow.laid ((laidWorld os).forCall (fun _ _ => 0) ⟨#[], wargs, []⟩).memory :=
  laidMet_of_run3 8 (by kernel_rfl) (by kernel_rfl) (by kernel_rfl)
theorem reads (os : Os) {H : Type} (enc : TypeId × Value → H) : ∃ places, DataW.whole enc Tryd.prog ((laidWorld os).forCall (fun _ _ => 0) ⟨#[], wargs, []⟩).memory Tryd.f8.params.toList Rows.fanPlaysSpec.vars false wargs.toList 8 =
    some ([.agg [.lit (.int .i64 0), .lit (.string []), .lit (.string []), .lit (.string []), .lit (.string []), .lit (.string []), .lit (.string []), .lit (.int .i64 0), .lit (.int .i64 0)], .nil], [], places) :=
  ⟨[], by kernel_rfl⟩
theorem lifted (os : Os) (started : os.Started) (H : Type) (enc : TypeId × Value → H) (F : Stop.Interp) :
    ReturnsInHanded {} Tryd.checked os 8 .any ((OpenSpec.ofChange Rows.fanPlaysSpec).preRow enc Tryd.prog Tryd.f8 Rows.fanPlaysRow.domain false Rows.fanPlaysRow.laid) (((OpenSpec.ofChange Rows.fanPlaysSpec).at F).post enc Tryd.prog Tryd.f8 false true false false) := by
  obtain ⟨places, hx⟩ := reads os enc
  refine returnsInHanded_of_row (C := Tryd.checked) (s := OpenSpec.ofChange Rows.fanPlaysSpec) own started (by kernel_rfl) Tryd.func8
    (witness_row_at (enc := enc) (C := Tryd.checked) false (laidWorld os) wargs rfl (by kernel_rfl) (by kernel_rfl) (by kernel_rfl)
      (OpenSpec.preRow_of_cond 8 hx (by kernel_rfl) (fun k hk => by cases hk) (by kernel_rfl) (laid_met os))) ?_
  intro W base args ds gs before hval hW _ _ hs hl _ _
  exact contract H enc W base args ds gs before hval hW hs hl
theorem said : Rows.FanPlaysSaid :=
  OpenClaim.holds_of_cond 8 Tryd.f8 rfl rfl rfl rfl rfl rfl rfl ⟨rfl, rfl, rfl, rfl, rfl⟩ rfl rfl rfl rfl rfl (by kernel_rfl) Tryd.func8 (by kernel_rfl)
    (of_decide_eq_true (by kernel_rfl)) (by unfold Func.isWrapper; first | (rw [if_pos (by decide +kernel)]; kernel_rfl) | (rw [if_neg (by decide +kernel)]; exact ⟨rfl, rfl⟩))
    (fun os started H enc _ F => by rw [OpenClaim.pre_eq_preRow]; exact lifted os started H enc F)
/-- No parameter wants a stand-in; the program's own looks are on: what both cards ask. -/
theorem noStand (f : FuncId) (fn : Func) (hf : Tryd.pinned.checked.prog.funcNamed "rookery/rookerylaw19.FanPlays" = some f) (hfn : Tryd.pinned.checked.prog.funcs[f]? = some fn) :
    true = Tryd.pinned.checked.prog.looks [] ∧ ∀ (j : Nat) t, fn.params[j]? = some t → Tryd.pinned.checked.prog.wantsStandIn t = false := by
  obtain rfl : f = 8 := Option.some.inj ((show Tryd.prog.funcNamed "rookery/rookerylaw19.FanPlays" = some 8 by kernel_rfl).symm.trans hf) |>.symm
  obtain rfl : fn = Tryd.f8 := (Option.some.inj (Tryd.func8.symm.trans hfn)).symm
  refine ⟨by kernel_rfl, fun j t ht => ?_⟩
  rw [Tryd.params8] at ht
  have h2 : t = 34 ∨ t = 63 := by simpa using Array.mem_of_getElem? ht
  rcases h2 with rfl | rfl
  · exact (show Tryd.prog.wantsStandIn 34 = false by kernel_rfl)
  · exact (show Tryd.prog.wantsStandIn 63 = false by kernel_rfl)
/-- ████ THE CARD ████ -/
theorem card : Rows.FanPlaysCardSaid :=
  Claim7.holds_tied_plain_at .later [] _ _ _ _ said (fun _ h => by cases h) (by kernel_rfl) (fun _ h => by cases h) fanPlays_row_tie rfl ⟨rfl, rfl⟩ (by kernel_rfl) rfl noStand (by kernel_rfl)
end Go.Proofs.YtbkgnlcjnimpcaaDoor.fanPlays
