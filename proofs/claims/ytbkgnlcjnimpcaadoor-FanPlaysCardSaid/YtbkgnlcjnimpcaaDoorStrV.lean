/- Texts: the document's reading of a subscription's text, of any text. -/
import Derived.Test.YtbkgnlcjnimpcaaDoorStrU
namespace Go.Proofs.YtbkgnlcjnimpcaaDoor.strs.rf
open Go Go.Ab Go.RowKit Go.Proofs.YtbkgnlcjnimpcaaDoor.strs
open Go.Proofs.YtbkgnlcjnimpcaaDoor.strs.dig (tblO MT memoT' memoT_of)
open Go.Proofs.YtbkgnlcjnimpcaaDoor.strs.uin (NotedOk.app)
open Go.Proofs.YtbkgnlcjnimpcaaDoor.strs.cut (posOf)
set_option maxRecDepth 100000
theorem posI_some {c : UInt8} {l : List UInt8} {i : Nat} (h : posOf c l = some i) : posI c l = .ofNat i := by unfold posI; rw [h]
theorem posI_none {c : UInt8} {l : List UInt8} (h : posOf c l = none) : posI c l = .negSucc 0 := by unfold posI; rw [h]
/-- Where the first loop is left. -/
theorem ends1 {W : World} {l : List UInt8} (hl : l.length < BIG) {i : Nat} (hi : l.length ≤ i) {j0 : Nat → Value} {m : Mu} {a : Act} {w : World} {Rn : Act → World → Prop} (hT : TRel m 102 (SA l (posI 47 l) (posI 64 l) i j0).1 a.tmps) (hr : Rel Tryd.prog (baseOf W) m (SA l (posI 47 l) (posI 64 l) i j0).2 w) (hG : GRel 8 m) (hd0 : a.defers = []) :
    lp1.wp Tryd.prog (Exit.then Rn (QL1 (fromV l) W)) a w := by
  have hl' : l.length < 140737488355328 := hl
  have hout : NotedOk [ltP (.ofNat i) (.ofNat (lenL l)) false] := NotedOk.cons (by rw [lenL_len]; exact ltn_ok (blt_f hi)) NotedOk.nil
  have bad : ∀ q, q ∈ [0, 1, 2] → NotedOk (bdN l (posI 47 l) (posI 64 l) q) → badV = fromV l → lp1.wp Tryd.prog (Exit.then Rn (QL1 (fromV l) W)) a w := by
    intro q hq hlg e
    obtain ⟨x1, x2⟩ := Prod.mk.inj (map_mem (ends_bad l (posI 47 l) (posI 64 l) i j0) q hq)
    refine exitK (n := 102) krok plL1 okL1 (R := over1 l (posI 47 l) (posI 64 l) i j0) rfl x1 hout hT hr hG ?_
    intro m1 a1 w1 g1 t1 d1 q1
    show rest1.wp Tryd.prog (Q0 (fromV l) W) a1 w1
    rw [← e]
    exact retK (n := 102) krok plR1 okR1 (R := codeK kr mk 23 rest1 (stOf (over1 l (posI 47 l) (posI 64 l) i j0)) (bdT q)) rfl x2 rfl (revN_ok _ _ hlg NotedOk.nil) t1 q1 g1 (d1.trans hd0) (fun a' w' h => h)
  cases h1 : posOf 47 l with
  | none =>
    have e1 := posI_none h1
    refine bad 0 (by simp) (NotedOk.cons (by rw [e1]; exact lt_ok rfl) NotedOk.nil) ?_
    unfold fromV
    rw [h1]
  | some p =>
    have e1 := posI_some h1
    have hp0 : ltP (posI 47 l) 0 false := by rw [e1]; exact lt_ok (lt_no (b := 0) (Nat.zero_le p))
    cases h2 : posOf 64 l with
    | none =>
      have e2 := posI_none h2
      refine bad 1 (by simp) (NotedOk.cons hp0 (NotedOk.cons (by rw [e1, e2]; exact lt_ok rfl) NotedOk.nil)) ?_
      unfold fromV
      rw [h1, h2]
    | some q =>
      have e2 := posI_some h2
      cases h3 : Nat.blt q p with
      | true =>
        refine bad 1 (by simp) (NotedOk.cons hp0 (NotedOk.cons (by rw [e1, e2]; exact ltn_ok h3) NotedOk.nil)) ?_
        unfold fromV
        rw [h1, h2]
        dsimp only
        rw [h3]; rfl
      | false =>
        have hb : ltP (posI 64 l) (posI 47 l) false := by rw [e1, e2]; exact ltn_ok h3
        cases h4 : Nat.blt 60 l.length with
        | true =>
          refine bad 2 (by simp) (NotedOk.cons hp0 (NotedOk.cons hb (NotedOk.cons (by rw [lenL_len]; exact ltn_ok h4) NotedOk.nil))) ?_
          unfold fromV
          rw [h1, h2]
          dsimp only
          rw [h3, h4]; rfl
        | false =>
          have hne := pos_ne h1 h2
          have hqp : p < q := by
            rcases Nat.lt_or_ge q p with z | z
            · rw [blt_t z] at h3; cases h3
            · omega
          obtain ⟨hq, _⟩ := List.findIdx?_eq_some_iff_getElem.1 h2
          have ev : fromV l = midV l (l.take p) ((l.drop (p + 1)).take (q - (p + 1))) (digV (l.drop (q + 1)) 0) := by
            unfold fromV
            rw [h1, h2]
            dsimp only
            rw [h3, h4]; rfl
          have hs := fun jt jh => ends_ok l (.ofNat p) (.ofNat q) i (q + 1) j0 jt jh
          rw [e1, e2] at hT hr hb
          rw [e1] at hp0
          obtain ⟨x1, x⟩ := Prod.mk.inj (hs j0 (fun _ _ => undef))
          obtain ⟨x2, x⟩ := Prod.mk.inj x
          obtain ⟨x3, x⟩ := Prod.mk.inj x
          obtain ⟨x4, x⟩ := Prod.mk.inj x
          obtain ⟨x5, _⟩ := Prod.mk.inj x
          refine exitK (n := 102) krok plL1 okL1 (R := over1 l (.ofNat p) (.ofNat q) i j0) rfl x1 hout hT hr hG ?_
          intro m1 a1 w1 g1 t1 d1 q1
          show rest1.wp Tryd.prog (Q0 (fromV l) W) a1 w1
          refine partK (n := 102) krok k2 (y := z3 l (.ofNat p) (.ofNat q) i j0) rfl x2 (by rw [x3]; exact revN_ok _ _ (NotedOk.cons hp0 (NotedOk.cons hb (NotedOk.cons (by rw [lenL_len]; exact ltn_ok h4) NotedOk.nil))) NotedOk.nil) t1 q1 g1 ?_
          intro m2 a2 w2 g2 t2 d2 q2
          show c4.wp Tryd.prog _ a2 w2
          rw [e3]
          refine wp_seq (partK (n := 102) krok k3 (y := z4 l (.ofNat p) (.ofNat q) i (q + 1) j0) rfl x4 (by rw [x5]; exact NotedOk.cons (congrArg i64 (wadd (a := q) (b := 1) (by omega))) NotedOk.nil) t2 q2 g2 ?_)
          intro m3 a3 w3 g3 t3 d3 q3
          rw [e4]
          obtain ⟨m4, j4, g4, t4, q4⟩ := reS (S2 := fun jt => SB l (.ofNat p) (.ofNat q) 0 (q + 1) jt) rfl (at5B _ _ _ _ _) (fun jt jh => (Prod.mk.inj (Prod.mk.inj (Prod.mk.inj (Prod.mk.inj (Prod.mk.inj (hs jt jh)).2).2).2).2).2) t3 q3 g3
          exact wp_block (wp_loop_rounds (l.length + 1) (rounds2 hl hqp hq (fromV l) (fromV_flat l) (l.length + 1) (q + 1) 0 j4 m4 a3 w3 (by omega) (by omega) (by omega) ev.symm t4 q4 g4 (by rw [d3, d2, d1]; exact hd0)))
theorem rounds1 {W : World} {l : List UInt8} (hl : l.length < BIG) : ∀ (fuel i : Nat) (j0 : Nat → Value) (m : Mu) (a : Act) (w : World), l.length - i < fuel → i ≤ l.length →
    TRel m 102 (SA l (posI 47 (l.take i)) (posI 64 (l.take i)) i j0).1 a.tmps → Rel Tryd.prog (baseOf W) m (SA l (posI 47 (l.take i)) (posI 64 (l.take i)) i j0).2 w → GRel 8 m → a.defers = [] → Code.rounds Tryd.prog lp1 (QL1 (fromV l) W) fuel a w := by
  have hl' : l.length < 140737488355328 := hl
  intro fuel
  induction fuel with
  | zero => intro i j0 m a w h; omega
  | succ fuel ih =>
    intro i j0 m a w hf hi hT hr hG hd0
    rw [rounds_succ]
    by_cases hlt : i < l.length
    · obtain ⟨x, hx⟩ : ∃ x, l[i]? = some x := ⟨_, List.getElem?_eq_getElem hlt⟩
      have h47 := pos_step (c := 47) hx
      have h64 := pos_step (c := 64) hx
      generalize ea : posI 47 (l.take i) = A at hT hr h47
      generalize eb : posI 64 (l.take i) = B at hT hr h64
      have hs := fun jt jh => map_mem (round1 l A B i (u8n x) j0 jt jh) ⟨Nat.beq (u8n x) 47, intLt A 0, Nat.beq (u8n x) 64, intLt B 0⟩ (ways_all _)
      refine normK (n := 102) krok plL1 okL1 rfl (Prod.mk.inj (hs j0 (fun _ _ => undef))).1 (revN_ok _ _ (wN_ok hx hl) NotedOk.nil) hT hr hG ?_
      intro m1 a1 w1 g1 t1 d1 q1
      have e47 : (match Nat.beq (u8n x) 47 && intLt A 0 with | true => Int.ofNat i | false => A) = posI 47 (l.take (i + 1)) := h47.symm
      have e64 : (match Nat.beq (u8n x) 64 && intLt B 0 with | true => Int.ofNat i | false => B) = posI 64 (l.take (i + 1)) := h64.symm
      obtain ⟨m2, j2, g2, t2, q2⟩ := reS (S2 := fun jt => SA l (posI 47 (l.take (i + 1))) (posI 64 (l.take (i + 1))) (i + 1) jt) rfl (at5A _ _ _ _) (fun jt jh => by
        have := (Prod.mk.inj (hs jt jh)).2
        rw [← e47, ← e64]
        exact this) t1 q1 g1
      exact ih (i + 1) j2 m2 a1 w1 (by omega) (by omega) t2 q2 g2 (d1.trans hd0)
    · have ht : l.take i = l := List.take_of_length_le (by omega)
      rw [ht] at hT hr
      exact ends1 hl (by omega) hT hr hG hd0
theorem from_ok {l : List UInt8} (hl : l.length < BIG) : MT ⟨23, [str l], fromV l⟩ := by
  refine memoT_of_wp (n := 102) (show 5 < 8 by decide) dig.tbl_plain Tryd.func23 hasBody rfl (show 1 ≤ 102 by decide) rfl (fromV_flat l) fun W a hr hT hd0 => ?_
  have hah := ahead l
  obtain ⟨p1, p⟩ := Prod.mk.inj (hah (fun _ => undef) (fun _ _ => undef))
  obtain ⟨p2, p⟩ := Prod.mk.inj p
  obtain ⟨p3, p⟩ := Prod.mk.inj p
  obtain ⟨p4, _⟩ := Prod.mk.inj p
  refine partK (n := 102) krok k0 (y := z1 l) rfl p1 (by rw [p2]; exact NotedOk.nil) hT hr (muG_rel 8) ?_
  intro m1 a1 w1 g1 t1 d1 q1
  show c2.wp Tryd.prog _ a1 w1
  rw [e1]
  refine wp_seq (partK (n := 102) krok k1 (y := z2 l) rfl p3 (by rw [p4]; exact NotedOk.nil) t1 q1 g1 ?_)
  intro m2 a2 w2 g2 t2 d2 q2
  rw [e2]
  obtain ⟨m3, j3, g3, t3, q3⟩ := reS (S2 := fun jt => SA l (-1) (-1) 0 jt) rfl (at5A _ _ _ _) (fun jt jh => (Prod.mk.inj (Prod.mk.inj (Prod.mk.inj (Prod.mk.inj (hah jt jh)).2).2).2).2) t2 q2 g2
  exact wp_block (wp_loop_rounds (l.length + 1) (rounds1 hl (l.length + 1) 0 j3 m3 a2 w2 (by omega) (Nat.zero_le _) t3 q3 g3 (by rw [d2, d1]; exact hd0)))
end Go.Proofs.YtbkgnlcjnimpcaaDoor.strs.rf
