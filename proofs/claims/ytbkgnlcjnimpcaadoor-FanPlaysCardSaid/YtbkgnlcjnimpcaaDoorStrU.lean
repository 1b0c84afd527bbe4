/- Texts: the document's reading of a subscription's text: the walk. -/
import Derived.Test.YtbkgnlcjnimpcaaDoorStrT
namespace Go.Proofs.YtbkgnlcjnimpcaaDoor.strs.rf
open Go Go.Ab Go.RowKit Go.Proofs.YtbkgnlcjnimpcaaDoor.strs
open Go.Proofs.YtbkgnlcjnimpcaaDoor.strs.dig (tblO MT memoT' memoT_of)
open Go.Proofs.YtbkgnlcjnimpcaaDoor.strs.uin (NotedOk.app)
open Go.Proofs.YtbkgnlcjnimpcaaDoor.strs.cut (posOf)
set_option maxRecDepth 100000
noncomputable abbrev Q0 (v : Value) (W : World) : Exit → Act → World → Prop := Qb Tryd.f23 v W
noncomputable abbrev QL2 (v : Value) (W : World) : Exit → Act → World → Prop := Exit.inBlock 2 (Exit.then (rest2.wp Tryd.prog (Q0 v W)) (Q0 v W))
noncomputable abbrev QL1 (v : Value) (W : World) : Exit → Act → World → Prop := Exit.inBlock 0 (Exit.then (rest1.wp Tryd.prog (Q0 v W)) (Q0 v W))
theorem cat_ok {a b : List UInt8} (h : a.length + b.length < 9223372036854775808) : catP a b (a ++ b) := by
  show chk (Nat.blt (Nat.add (lenL a) (lenL b)) 9223372036854775808) (str (appL a b)) = some (str (a ++ b))
  rw [lenL_len, lenL_len, appL_eq, show Nat.blt (Nat.add a.length b.length) 9223372036854775808 = true from blt_t h]
  rfl
theorem veq_str (a : List UInt8) : veq 8 (str a) (str a) = true := by simp [veq, str]
theorem ck_ok (a b : List UInt8) : ckV a b := by
  unfold ckV
  rw [veq_str, veq_str]
  rfl
/-- The end, where the text is cut at 'i' and 'j'. -/
theorem ends2 {W : World} {l : List UInt8} {i j n k : Nat} (hl : l.length < BIG) (hij : i < j) (hj : j < l.length) (hk : l.length ≤ k) {j0 : Nat → Value} {m : Mu} {a : Act} {w : World} {Rn : Act → World → Prop} :
    TRel m 102 (SB l (.ofNat i) (.ofNat j) n k j0).1 a.tmps → Rel Tryd.prog (baseOf W) m (SB l (.ofNat i) (.ofNat j) n k j0).2 w → GRel 8 m → a.defers = [] →
    lp2.wp Tryd.prog (Exit.then Rn (QL2 (endV l (l.take i) ((l.drop (i + 1)).take (j - (i + 1))) n) W)) a w := by
  intro hT hr hG hd0
  have hl' : l.length < 140737488355328 := hl
  generalize hsp : l.take i = sp
  generalize hch : (l.drop (i + 1)).take (j - (i + 1)) = ch
  have lsp : sp.length < BIG := by rw [← hsp, List.length_take]; exact Nat.lt_of_le_of_lt (Nat.min_le_right _ _) hl
  have lch : ch.length < BIG := by rw [← hch, List.length_take, List.length_drop]; exact Nat.lt_of_le_of_lt (Nat.le_trans (Nat.min_le_right _ _) (Nat.sub_le _ _)) hl
  have lsp' : sp.length < 140737488355328 := lsp
  have lch' : ch.length < 140737488355328 := lch
  have hout : NotedOk [ltP (.ofNat k) (.ofNat (lenL l)) false] := NotedOk.cons (by rw [lenL_len]; exact ltn_ok (blt_f hk)) NotedOk.nil
  have hcut : NotedOk (cutN l sp ch (.ofNat i) (.ofNat j) (i + 1)) := by
    refine NotedOk.cons ?_ (NotedOk.cons (congrArg i64 (wadd (a := i) (b := 1) (by omega))) (NotedOk.cons ?_ NotedOk.nil))
    · have := cut.sl_ok (l := l) (lo := none) (hi := some (e24 i)) (x := 0) (y := i) (.inr ⟨rfl, rfl⟩) (.inl rfl) (Nat.zero_le _) (by omega)
      rw [List.drop_zero, Nat.sub_zero, hsp] at this
      exact this
    · have := cut.sl_ok (l := l) (lo := some (e24 (i + 1))) (hi := some (e24 j)) (x := i + 1) (y := j) (.inl rfl) (.inl rfl) (by omega) (by omega)
      rw [hch] at this
      exact this
  have fin : ∀ {tp : Ab.Tape} {lg : Noted} {v : Value}, vflat 8 v = true → (fun r => (isX r, isR Tryd.f23 (last l (.ofNat i) (.ofNat j) n k j0 tp))) (over2 l (.ofNat i) (.ofNat j) n k j0) = (some (2, [ltP (.ofNat k) (.ofNat (lenL l)) false]), some (v, revN lg [])) → NotedOk lg → v = endV l sp ch n → lp2.wp Tryd.prog (Exit.then Rn (QL2 (endV l sp ch n) W)) a w := by
    intro tp lg v hv hx hlg e
    obtain ⟨x1, x2⟩ := Prod.mk.inj hx
    refine exitK (n := 102) krok plL2 okL2 (R := over2 l (.ofNat i) (.ofNat j) n k j0) rfl x1 hout hT hr hG ?_
    intro m1 a1 w1 g1 t1 d1 q1
    show rest2.wp Tryd.prog (Q0 (endV l sp ch n) W) a1 w1
    rw [← e]
    exact retK (n := 102) krok plR2 okR2 (R := last l (.ofNat i) (.ofNat j) n k j0 tp) rfl x2 hv (revN_ok _ _ hlg NotedOk.nil) t1 q1 g1 (d1.trans hd0) (fun a' w' h => h)
  have bad := fun q hq => map_mem (l_bad l sp ch (.ofNat i) (.ofNat j) n k (i + 1) j0) q hq
  have isSp : ∀ b, lab sp = b → isK 38 [str sp] (bV b) := fun b hb => by have := is38 lsp; rw [hb] at this; exact this
  have isCh : ∀ b, lab ch = b → isK 38 [str ch] (bV b) := fun b hb => by have := is38 lch; rw [hb] at this; exact this
  have hn0 : ltP (.ofNat n) 0 false := lt_ok (lt_no (b := 0) (Nat.zero_le n))
  cases h1 : lab sp with
  | false =>
    have e : badV = endV l sp ch n := by unfold endV; rw [h1]
    exact fin rfl (bad 0 (by simp)) (NotedOk.app hcut (NotedOk.cons (isSp _ h1) NotedOk.nil)) e
  | true =>
    cases h2 : lab ch with
    | false =>
      have e : badV = endV l sp ch n := by unfold endV; rw [h1, h2]
      exact fin rfl (bad 1 (by simp)) (NotedOk.app hcut (NotedOk.cons (isSp _ h1) (NotedOk.cons (isCh _ h2) NotedOk.nil))) e
    | true =>
      cases h3 : Nat.blt 1073741824 n with
      | true =>
        have e : badV = endV l sp ch n := by unfold endV; rw [h1, h2, h3]
        exact fin rfl (bad 2 (by simp)) (NotedOk.app hcut (NotedOk.cons (isSp _ h1) (NotedOk.cons (isCh _ h2) (NotedOk.cons hn0 (NotedOk.cons (ltn_ok h3) NotedOk.nil))))) e
      | false =>
        have hn : n ≤ 1073741824 := by
          rcases Nat.lt_or_ge 1073741824 n with q | q
          · rw [blt_t q] at h3; cases h3
          · exact q
        have hit := (itoa_spec (lt32 hn)).1.len
        have hok : NotedOk (okN sp ch n) := NotedOk.cons (isSp _ h1) (NotedOk.cons (isCh _ h2) (NotedOk.cons hn0 (NotedOk.cons (ltn_ok h3) NotedOk.nil)))
        have hcr : NotedOk (crN sp ch n (sp ++ [47]) (sp ++ [47] ++ ch) (sp ++ [47] ++ ch ++ [64]) (itoa n) (textOf sp ch n)) := by
          refine NotedOk.cons (cat_ok ?_) (NotedOk.cons (cat_ok ?_) (NotedOk.cons (cat_ok ?_) (NotedOk.cons (is35 (lt32 hn)) (NotedOk.cons (cat_ok ?_) (NotedOk.cons (ck_ok sp ch) NotedOk.nil)))))
          all_goals simp only [List.length_append, List.length_cons, List.length_nil]
          all_goals omega
        cases h4 : eqL (textOf sp ch n) l with
        | false =>
          have e : badV = endV l sp ch n := by unfold endV; rw [h1, h2, h3, h4]
          refine fin rfl (l_not l sp ch (sp ++ [47]) (sp ++ [47] ++ ch) (sp ++ [47] ++ ch ++ [64]) (itoa n) (textOf sp ch n) (.ofNat i) (.ofNat j) n k (i + 1) j0) (NotedOk.app (NotedOk.app (NotedOk.app hcut hok) hcr) (NotedOk.cons ?_ NotedOk.nil)) e
          show Value.bool (notB (eqL (textOf sp ch n) l)) = _
          rw [h4]; rfl
        | true =>
          have e : tupR (resR sp ch n) 0 = endV l sp ch n := by unfold endV; rw [h1, h2, h3, h4]
          refine fin rfl (l_good l sp ch (sp ++ [47]) (sp ++ [47] ++ ch) (sp ++ [47] ++ ch ++ [64]) (itoa n) (textOf sp ch n) (.ofNat i) (.ofNat j) n k (i + 1) j0) (NotedOk.app (NotedOk.app (NotedOk.app hcut hok) hcr) (NotedOk.cons ?_ NotedOk.nil)) e
          show Value.bool (notB (eqL (textOf sp ch n) l)) = _
          rw [h4]; rfl
theorem sub48 {c : Nat} (h1 : 48 ≤ c) (h2 : c ≤ 57) : Value.int .u8 (wrapF .u8 (Int.sub (.ofNat c) 48)) = b8 (c - 48) := by
  have : Int.sub (.ofNat c) 48 = .ofNat (c - 48) := by
    show (Int.ofNat c) - 48 = _
    simp only [Int.ofNat_eq_natCast]
    omega
  rw [this, wrapF_eq, wrap_u (show c - 48 < topOf .u8 from Nat.lt_of_le_of_lt (show c - 48 ≤ 9 by omega) (by decide))]
  rfl
theorem rounds2 {W : World} {l : List UInt8} {i j : Nat} (hl : l.length < BIG) (hij : i < j) (hj : j < l.length) (V : Value) (hV : vflat 8 V = true) : ∀ (fuel k n : Nat) (j0 : Nat → Value) (m : Mu) (a : Act) (w : World), l.length - k < fuel → k ≤ l.length → n ≤ 10737418249 →
    midV l (l.take i) ((l.drop (i + 1)).take (j - (i + 1))) (digV (l.drop k) n) = V →
    TRel m 102 (SB l (.ofNat i) (.ofNat j) n k j0).1 a.tmps → Rel Tryd.prog (baseOf W) m (SB l (.ofNat i) (.ofNat j) n k j0).2 w → GRel 8 m → a.defers = [] → Code.rounds Tryd.prog lp2 (QL2 V W) fuel a w := by
  have hl' : l.length < 140737488355328 := hl
  intro fuel
  induction fuel with
  | zero => intro k n j0 m a w h; omega
  | succ fuel ih =>
    intro k n j0 m a w hf hk hn hpre hT hr hG hd0
    rw [rounds_succ]
    by_cases hlt : k < l.length
    · obtain ⟨x, hx⟩ : ∃ x, l[k]? = some x := ⟨_, List.getElem?_eq_getElem hlt⟩
      have hdr : l.drop k = x :: l.drop (k + 1) := by
        rw [List.drop_eq_getElem_cons hlt]
        rw [List.getElem?_eq_getElem hlt] at hx
        rw [Option.some.inj hx]
      rw [hdr] at hpre
      unfold digV at hpre
      have h0 : ltP (.ofNat k) (.ofNat (lenL l)) true := by rw [lenL_len]; exact ltn_ok (blt_t hlt)
      have ha : atP l k (u8n x) := ix_ok hx
      have bad : ∀ q, q ∈ [0, 1, 2] → NotedOk (dgN l n k (u8n x) q) → badV = V → lp2.wp Tryd.prog (Exit.then (Code.rounds Tryd.prog lp2 (QL2 V W) fuel) (QL2 V W)) a w := by
        intro q hq hlg e
        subst e
        exact retK (n := 102) krok plL2 okL2 (R := codeK kr mk 23 lp2 (SB l (.ofNat i) (.ofNat j) n k j0) (dgT (u8n x) q)) rfl (map_mem (r_bad l (.ofNat i) (.ofNat j) n k (u8n x) j0) q hq) rfl (revN_ok _ _ hlg NotedOk.nil) hT hr hG hd0 (fun a' w' h => h)
      cases h1 : Nat.blt (u8n x) 48 with
      | true =>
        rw [h1, Bool.true_or] at hpre
        exact bad 0 (by simp) (NotedOk.cons h0 (NotedOk.cons ha (NotedOk.cons (ltn_ok h1) NotedOk.nil))) hpre
      | false =>
        rw [h1, Bool.false_or] at hpre
        cases h2 : Nat.blt 57 (u8n x) with
        | true =>
          rw [h2, Bool.true_or] at hpre
          exact bad 1 (by simp) (NotedOk.cons h0 (NotedOk.cons ha (NotedOk.cons (ltn_ok h1) (NotedOk.cons ha (NotedOk.cons (ltn_ok h2) NotedOk.nil))))) hpre
        | false =>
          rw [h2, Bool.false_or] at hpre
          cases h3 : Nat.blt 1073741824 n with
          | true =>
            rw [h3] at hpre
            exact bad 2 (by simp) (NotedOk.cons h0 (NotedOk.cons ha (NotedOk.cons (ltn_ok h1) (NotedOk.cons ha (NotedOk.cons (ltn_ok h2) (NotedOk.cons (ltn_ok h3) NotedOk.nil)))))) hpre
          | false =>
            rw [h3] at hpre
            dsimp only at hpre
            have b1 : 48 ≤ u8n x := by
              rcases Nat.lt_or_ge (u8n x) 48 with q | q
              · rw [blt_t q] at h1; cases h1
              · exact q
            have b2 : u8n x ≤ 57 := by
              rcases Nat.lt_or_ge 57 (u8n x) with q | q
              · rw [blt_t q] at h2; cases h2
              · exact q
            have b3 : n ≤ 1073741824 := by
              rcases Nat.lt_or_ge 1073741824 n with q | q
              · rw [blt_t q] at h3; cases h3
              · exact q
            have hs2 := fun jt jh => round2 l (.ofNat i) (.ofNat j) n k (u8n x) (10 * n) (u8n x - 48) (10 * n + (u8n x - 48)) j0 jt jh
            refine normK (n := 102) krok plL2 okL2 rfl (Prod.mk.inj (hs2 j0 (fun _ _ => undef))).1 (revN_ok _ _ (NotedOk.cons h0 (NotedOk.cons ha (NotedOk.cons (ltn_ok h1) (NotedOk.cons ha (NotedOk.cons (ltn_ok h2) (NotedOk.cons (ltn_ok h3) (NotedOk.cons (congrArg i64 (wbig (n := 10 * n) (by omega))) (NotedOk.cons ha (NotedOk.cons (sub48 b1 b2) (NotedOk.cons (congrArg i64 (wbig (n := u8n x - 48) (by omega))) (NotedOk.cons (congrArg i64 (wadd (a := 10 * n) (b := u8n x - 48) (by omega))) (NotedOk.cons (inc_ok (by omega)) NotedOk.nil)))))))))))) NotedOk.nil) hT hr hG ?_
            intro m1 a1 w1 g1 t1 d1 q1
            obtain ⟨m2, j2, g2, t2, q2⟩ := reS (S2 := fun jt => SB l (.ofNat i) (.ofNat j) (10 * n + (u8n x - 48)) (k + 1) jt) rfl (at5B _ _ _ _ _) (fun jt jh => (Prod.mk.inj (hs2 jt jh)).2) t1 q1 g1
            exact ih (k + 1) _ j2 m2 a1 w1 (by omega) (by omega) (by omega) hpre t2 q2 g2 (d1.trans hd0)
    · have hk2 : l.drop k = [] := List.drop_of_length_le (by omega)
      rw [hk2] at hpre
      rw [← hpre]
      exact ends2 hl hij hj (by omega) hT hr hG hd0
end Go.Proofs.YtbkgnlcjnimpcaaDoor.strs.rf
