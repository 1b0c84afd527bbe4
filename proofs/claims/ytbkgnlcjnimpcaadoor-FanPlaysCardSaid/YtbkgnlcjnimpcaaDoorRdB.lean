/- FanReads: the subscription of any text, or that it is none. -/
import Derived.Test.YtbkgnlcjnimpcaaDoorRdA
namespace Go.Proofs.YtbkgnlcjnimpcaaDoor.fanReads
open Go Go.Ab Go.RowKit Go.Proofs.YtbkgnlcjnimpcaaDoor.strs
open Go.Proofs.YtbkgnlcjnimpcaaDoor.strs.dig (tblO MT memoT' memoT_of)
open Go.Proofs.YtbkgnlcjnimpcaaDoor.strs.num (tupV)
open Go.Proofs.YtbkgnlcjnimpcaaDoor.strs.uin (okE NotedOk.app)
open Go.Proofs.YtbkgnlcjnimpcaaDoor.strs.rf (ltP catP eqP badV tupR resR fromV from_ok textOf)
set_option maxRecDepth 100000
theorem any_plain (k : Nat) (hk : k < 8) {B : Base} {h : AHeap} {w : World} (hr : Rel Tryd.prog B (muG 8) h w) (hd : h.get k = .dead) (hb : k < h.next) (hp : B.prot k ≠ none) (hw : OKObj Tryd.prog (muG 8) ⟨k, 0, 0⟩ w anyO) : Rel Tryd.prog B (muG 8) (h.put k anyO) w :=
  hr.putRo (l := ⟨k, 0, 0⟩) hd hb (by simp [muG, hk]) hp hw
theorem hpRel {W : World} (h5 : TblW Tryd.prog 8 5 tblO W) (h3 : TblW Tryd.prog 8 3 anyO W) (h4 : TblW Tryd.prog 8 4 anyO W) : Rel Tryd.prog (baseOf W) (muG 8) hp W := by
  have lt : ∀ k ob, (∃ c t, ob = .ro c t) → TblW Tryd.prog 8 k ob W → (baseOf W).prot k ≠ none := by
    rintro k ob ⟨c, t, rfl⟩ ⟨C, te, fr, h1, _⟩ q
    rw [show (baseOf W).prot k = some (.cells C te fr) from h1] at q
    cases q
  have r5 := tblRel (P := Tryd.prog) (G := 8) (k := 5) (show 5 < 8 by decide) dig.tbl_plain h5 (tblW_lt dig.tbl_plain h5)
  have r3 := any_plain 3 (by decide) r5 (by kernel_rfl) (by decide) (lt 3 anyO ⟨_, _, rfl⟩ h3) h3
  exact any_plain 4 (by decide) r3 (by kernel_rfl) (by decide) (lt 4 anyO ⟨_, _, rfl⟩ h4) h4
def Said (l : List UInt8) : Prop := ∃ tp lg, saidOf (run l tp) = some (Tr, lg) ∧ NotedOk lg
theorem calls_of {l : List UInt8} {W : World} (hr : Rel Tryd.prog (baseOf W) (muG 8) hp W) (h : Said l) : Calls Tryd.prog 9 #[str l] W fun e w' => e = .returned Tr ∧ Below W.heap.size W w' := by
  obtain ⟨tp, lg, hx, hl⟩ := h
  unfold saidOf at hx
  split at hx
  · rename_i o ho
    simp only [Option.some.injEq, Prod.mk.injEq] at hx
    have h1 := (CCkok kl mk _ _ _ _ _ _ ho (by rw [hx.2]; exact hl)).2
    refine ((CBkok klok 9 #[str l] hp o.v o.h h1).2 (baseOf W) (muG 8) #[str l] W ⟨rfl, fun i h1 _ => vflat_rel _ 8 _ (by
      have : i = 0 := by simp at h1; omega
      subst this; rfl)⟩ hr (muG_rel 8)).mono ?_
    rintro e w' ⟨u, m', rfl, _, hr', hu⟩
    rw [hx.1] at hu
    exact ⟨by rw [hu.of_flat 8 rfl], below_of_rel hr'⟩
  · cases hx
theorem cut_form (c : UInt8) (l : List UInt8) : ∃ a b f, cut.cutV c l = cut.tupV a b f ∧ a.length ≤ l.length ∧ b.length ≤ l.length := by
  unfold cut.cutV
  split
  · rename_i p _
    exact ⟨_, _, _, rfl, by rw [List.length_take]; exact Nat.min_le_right _ _, by rw [List.length_drop]; exact Nat.sub_le _ _⟩
  · exact ⟨_, _, _, rfl, Nat.le_refl _, Nat.zero_le _⟩
theorem eq_nil {l : List UInt8} (h : 1 ≤ l.length) : eqL l [] = false := by
  cases l with
  | nil => cases h
  | cons _ _ => rfl
theorem ck_ok (a b : List UInt8) : ckV a b := rf.ck_ok a b
theorem crN_ok {sp ch : List UInt8} {n : Nat} (h1 : lab sp = true) (h2 : lab ch = true) (hn : n ≤ 1073741824) : NotedOk (crN sp ch n (sp ++ [47]) (sp ++ [47] ++ ch) (sp ++ [47] ++ ch ++ [64]) (itoa n) (textOf sp ch n)) := by
  have b1 := plain.lab_len h1
  have b2 := plain.lab_len h2
  have b3 := (itoa_spec (lt32 hn)).1.len
  refine NotedOk.cons (congrArg Value.bool (eq_nil b1.1)) (NotedOk.cons (rf.cat_ok ?_) (NotedOk.cons (rf.cat_ok ?_) (NotedOk.cons (rf.cat_ok ?_) (NotedOk.cons (j35 (lt32 hn)) (NotedOk.cons (rf.cat_ok ?_) (NotedOk.cons (ck_ok sp ch) NotedOk.nil))))))
  all_goals simp only [List.length_append, List.length_cons, List.length_nil]
  all_goals omega
theorem good_said {l sp ch : List UInt8} {n : Nat} (hl : l.length < BIG) (h : plain.Good l sp ch n) : Said l := by
  have c1 := plain.good_cut h
  have b1 := plain.lab_len h.hsp
  have b2 := plain.lab_len h.hch
  have b3 := (itoa_spec (lt32 h.hn)).1.len
  have rlen : (ch ++ [64] ++ itoa n).length < BIG := by
    simp only [List.length_append, List.length_cons, List.length_nil]
    unfold BIG; omega
  have c2 : cut.cutV 64 (ch ++ [64] ++ itoa n) = cut.tupV ch (itoa n) true := plain.cut_at (plain.lab_no h.hch).2
  have m36 : (47 : UInt8) ∈ [(47 : UInt8), 64] := by simp
  have m64 : (64 : UInt8) ∈ [(47 : UInt8), 64] := by simp
  have n1 := j36 m36 hl
  rw [c1] at n1
  have n2 := j36 m64 rlen
  rw [c2] at n2
  have n3 := j49 (l := itoa n) (by unfold BIG; omega)
  rw [plain.atoi_itoa h.hn] at n3
  have n4 := j32 (a := sp) (b := ch) (by unfold BIG; omega) (by unfold BIG; omega)
  rw [h.hsp, h.hch] at n4
  have n5 := j23 hl
  rw [plain.good_from h] at n5
  have hcr := crN_ok h.hsp h.hch h.hn
  have e4 : eqL (textOf sp ch n) l = true := by rw [← h.ht]; exact eqL_refl l
  have hz : pr (.bool (eqL sp [])) F := congrArg Value.bool (eq_nil b1.1)
  refine ⟨_, _, run_good l sp (ch ++ [64] ++ itoa n) ch (itoa n) (sp ++ [47]) (sp ++ [47] ++ ch) (sp ++ [47] ++ ch ++ [64]) (itoa n) (textOf sp ch n) true true n, revN_ok _ _ ?_ NotedOk.nil⟩
  refine NotedOk.app (NotedOk.app (NotedOk.app (NotedOk.app (NotedOk.app (NotedOk.cons n1 (NotedOk.cons n2 (NotedOk.cons n3 NotedOk.nil))) (NotedOk.cons n4 (NotedOk.cons (rf.lt_ok (lt_no (b := 0) (Nat.zero_le n))) (NotedOk.cons (rf.ltn_ok (blt_f h.hn)) NotedOk.nil)))) hcr) (NotedOk.cons ?_ (NotedOk.cons n5 NotedOk.nil))) hcr) (NotedOk.cons hz (NotedOk.cons (congrArg Value.bool e4) (NotedOk.cons (congrArg Value.bool (eq_yes n)) (NotedOk.cons j15 NotedOk.nil))))
  show Value.bool (notB (eqL (textOf sp ch n) l)) = _
  rw [e4]; rfl
theorem bad_said {l : List UInt8} (hl : l.length < BIG) (h : ¬ ∃ sp ch n, plain.Good l sp ch n) : Said l := by
  obtain ⟨sp, r, f1, c1, l1, l2⟩ := cut_form 47 l
  obtain ⟨ch, u, f2, c2, l3, l4⟩ := cut_form 64 r
  have hl' : l.length < 140737488355328 := hl
  have hu : u.length < BIG := by unfold BIG; omega
  obtain ⟨⟨n, e, he, ha⟩, _⟩ := atoi_ok hu
  have m36 : (47 : UInt8) ∈ [(47 : UInt8), 64] := by simp
  have m64 : (64 : UInt8) ∈ [(47 : UInt8), 64] := by simp
  have n1 := j36 m36 hl
  rw [c1] at n1
  have n2 := j36 (l := r) m64 (by unfold BIG; omega)
  rw [c2] at n2
  have n3 := j49 hu
  rw [ha] at n3
  have n4 := j32 (a := sp) (b := ch) (by unfold BIG; omega) (by unfold BIG; omega)
  have n5 := j23 hl
  rw [plain.from_bad h] at n5
  have hhd : NotedOk (hdN l sp r ch u f1 f2 n e) := NotedOk.cons n1 (NotedOk.cons n2 (NotedOk.cons n3 NotedOk.nil))
  have hbad : NotedOk (badN l) := NotedOk.cons n5 (NotedOk.cons j15 NotedOk.nil)
  have hcl : NotedOk [jK 74 [str u] (str u), (true = true)] := NotedOk.cons (j74 hu) (NotedOk.cons rfl NotedOk.nil)
  -- which way New goes
  have hnew : ∃ k, k ∈ [0, 1, 2, 3] ∧ NotedOk (nwN sp ch n k) ∧ (k = 3 → lab sp = true ∧ lab ch = true ∧ ∃ m, n = .ofNat m ∧ m ≤ 1073741824) := by
    cases h1 : lab sp && lab ch with
    | false =>
      rw [h1] at n4
      exact ⟨0, by simp, NotedOk.cons n4 NotedOk.nil, fun q => by cases q⟩
    | true =>
      rw [h1] at n4
      rw [Bool.and_eq_true] at h1
      cases h2 : intLt n 0 with
      | true => exact ⟨1, by simp, NotedOk.cons n4 (NotedOk.cons (rf.lt_ok h2) NotedOk.nil), fun q => by cases q⟩
      | false =>
        cases h3 : intLt 1073741824 n with
        | true => exact ⟨2, by simp, NotedOk.cons n4 (NotedOk.cons (rf.lt_ok h2) (NotedOk.cons (rf.lt_ok h3) NotedOk.nil)), fun q => by cases q⟩
        | false =>
          refine ⟨3, by simp, NotedOk.cons n4 (NotedOk.cons (rf.lt_ok h2) (NotedOk.cons (rf.lt_ok h3) NotedOk.nil)), fun _ => ⟨h1.1, h1.2, ?_⟩⟩
          rw [intLt_eq, decide_eq_false_iff_not] at h2 h3
          refine ⟨n.toNat, ?_, by omega⟩
          simp only [Int.ofNat_eq_natCast]
          omega
  obtain ⟨k, hk, hkn, h3⟩ := hnew
  have err : e = num.errV 1 ∨ e = num.errV 2 → Said l := by
    intro q
    have hm : (e, k) ∈ errs := by
      rcases q with rfl | rfl
      · simp only [errs, List.flatMap_cons, List.flatMap_nil, List.mem_append]
        exact .inl (List.mem_map.2 ⟨k, hk, rfl⟩)
      · simp only [errs, List.flatMap_cons, List.flatMap_nil, List.mem_append]
        exact .inr (.inl (List.mem_map.2 ⟨k, hk, rfl⟩))
    exact ⟨_, _, map_mem (run_err l sp r ch u f1 f2 n) _ hm, revN_ok _ _ (NotedOk.app (NotedOk.app (NotedOk.app hhd hcl) hkn) hbad) NotedOk.nil⟩
  rcases he with he | he | he
  · subst he
    by_cases hk3 : k = 3
    · subst hk3
      obtain ⟨s1, s2, m, rfl, hm⟩ := h3 rfl
      refine ⟨_, _, run_not l sp r ch u (sp ++ [47]) (sp ++ [47] ++ ch) (sp ++ [47] ++ ch ++ [64]) (itoa m) (textOf sp ch m) f1 f2 m, revN_ok _ _ (NotedOk.app (NotedOk.app (NotedOk.app (NotedOk.app hhd hkn) (crN_ok s1 s2 hm)) (NotedOk.cons ?_ NotedOk.nil)) hbad) NotedOk.nil⟩
      show Value.bool (notB (eqL (textOf sp ch m) l)) = _
      cases h4 : eqL (textOf sp ch m) l with
      | false => rfl
      | true =>
        rw [eqL_eq] at h4
        exact absurd ⟨sp, ch, m, s1, s2, hm, (by simpa using h4 : textOf sp ch m = l).symm⟩ h
    · have hk2 : k ∈ [0, 1, 2] := by
        simp only [List.mem_cons, List.not_mem_nil, or_false] at hk ⊢
        omega
      exact ⟨_, _, map_mem (run_new l sp r ch u f1 f2 n) k hk2, revN_ok _ _ (NotedOk.app (NotedOk.app hhd hkn) hbad) NotedOk.nil⟩
  · exact err (.inl he)
  · exact err (.inr he)
theorem law_ok {l : List UInt8} (hl : l.length < BIG) {W : World} (h5 : TblW Tryd.prog 8 5 tblO W) (h3 : TblW Tryd.prog 8 3 anyO W) (h4 : TblW Tryd.prog 8 4 anyO W) :
    Calls Tryd.prog 9 #[str l] W fun e w' => e = .returned Tr ∧ Below W.heap.size W w' := by
  by_cases h : ∃ sp ch n, plain.Good l sp ch n
  · obtain ⟨sp, ch, n, hg⟩ := h
    exact calls_of (hpRel h5 h3 h4) (good_said hl hg)
  · exact calls_of (hpRel h5 h3 h4) (bad_said hl h)
end Go.Proofs.YtbkgnlcjnimpcaaDoor.fanReads
