/- Texts: a number without a sign, of any text. -/
import Derived.Test.YtbkgnlcjnimpcaaDoorStrH
namespace Go.Proofs.YtbkgnlcjnimpcaaDoor.strs.uin
open Go Go.Ab Go.RowKit Go.Proofs.YtbkgnlcjnimpcaaDoor.strs
open Go.Proofs.YtbkgnlcjnimpcaaDoor.strs.num (slV rowV goP atP ldP dgI bigP)
set_option maxRecDepth 100000
theorem lett_ok (c : Nat) (y : Way) (h3 : A3 c = y.a3) (h4 : A4 c = y.a4) : NotedOk (lettN c y) := by
  obtain ⟨b, a1, a2, a3, a4⟩ := y
  cases a3 with
  | true => exact NotedOk.cons (congrArg Value.bool h3) (NotedOk.cons (congrArg Value.bool h4) NotedOk.nil)
  | false => exact NotedOk.cons (congrArg Value.bool h3) NotedOk.nil
noncomputable def wayOf (c : Nat) : Way := ⟨intEq (.ofNat c) 95, A1 c, A2 c, A3 c, A4 c⟩
theorem way_ok (c : Nat) : NotedOk (wayN c (wayOf c)) := by
  have hl := lett_ok c (wayOf c) rfl rfl
  have key : ∀ y : Way, NotedOk (lettN c y) → intEq (.ofNat c) 95 = y.b → A1 c = y.a1 → A2 c = y.a2 → NotedOk (wayN c y) := by
    rintro ⟨b, a1, a2, a3, a4⟩ hl h0 h1 h2
    cases a1 with
    | true => cases a2 with
      | true => exact NotedOk.cons (congrArg Value.bool h0) (NotedOk.cons (congrArg Value.bool h1) (NotedOk.cons (congrArg Value.bool h2) NotedOk.nil))
      | false => exact NotedOk.cons (congrArg Value.bool h0) (NotedOk.cons (congrArg Value.bool h1) (NotedOk.cons (congrArg Value.bool h2) hl))
    | false => exact NotedOk.cons (congrArg Value.bool h0) (NotedOk.cons (congrArg Value.bool h1) hl)
  exact key _ hl rfl rfl rfl
theorem NotedOk.app {a b : Noted} (ha : NotedOk a) (hb : NotedOk b) : NotedOk (a ++ b) := fun q hq => (List.mem_append.1 hq).elim (ha q) (hb q)
theorem good_of {y : Way} (h : sound y = true) : y ∈ good := List.mem_filter.2 ⟨ways_all y, h⟩
theorem bad_of {y : Way} (h : sound y = false) : y ∈ bad := List.mem_filter.2 ⟨ways_all y, by rw [h]; rfl⟩
/-- What comes of a text. -/
noncomputable def valU : List UInt8 → Int → Value
  | [], n => tupU n .nilIface
  | x :: r, n => match sound (wayOf (u8n x)) with
    | false => synV
    | true => match ge10 (dI (u8n x) (wayOf (u8n x))) with
      | true => synV
      | false => match geC n with
        | true => rngV
        | false => match intLt (sm (m10 n) (cv (dI (u8n x) (wayOf (u8n x))))) (m10 n) with
          | true => rngV
          | false => match big (sm (m10 n) (cv (dI (u8n x) (wayOf (u8n x))))) with
            | true => rngV
            | false => valU r (sm (m10 n) (cv (dI (u8n x) (wayOf (u8n x)))))
def okE (e : Value) : Prop := e = .nilIface ∨ e = num.errV 1 ∨ e = num.errV 2
theorem valU_form : ∀ (l : List UInt8) (n : Int), ∃ m e, okE e ∧ valU l n = tupU m e := by
  intro l
  induction l with
  | nil => exact fun n => ⟨n, .nilIface, .inl rfl, rfl⟩
  | cons x r ih =>
    intro n
    unfold valU
    repeat' split
    all_goals first
      | exact ⟨_, _, .inr (.inr rfl), rfl⟩
      | exact ⟨_, _, .inr (.inl rfl), rfl⟩
      | exact ih _
theorem valU_flat (l : List UInt8) (n : Int) : vflat 8 (valU l n) = true := by
  obtain ⟨m, e, he, h⟩ := valU_form l n
  rw [h]
  rcases he with rfl | rfl | rfl <;> rfl
theorem at8 (s : List UInt8) (n : Int) (i : Nat) (jt : Nat → Value) : (SU s n i jt).2.get 8 = rowV s := by kernel_rfl
theorem reU {b : Nat} {s : List UInt8} {n : Int} {i : Nat} {x : St} {B : Base} {m : Mu} {a : Act} {w : World} (hc : ∀ jt jh, canonS (sh b) 8 x jt jh = some (SU s n i jt)) (hT : TRel m 172 x.1 a.tmps) (hr : Rel Tryd.prog B m x.2 w) (hG : GRel 8 m) :
    ∃ m2 jt, GRel 8 m2 ∧ TRel m2 172 (SU s n i jt).1 a.tmps ∧ Rel Tryd.prog B m2 (SU s n i jt).2 w := by
  obtain ⟨m2, jt, _, h1, h2, h3⟩ := canonZ (S := sh b) (S2 := fun jt _ => SU s n i jt) (fun _ _ _ h => by cases h) (fun jt _ y h => by
    obtain rfl := Nat.eq_of_beq_eq_true (show Nat.beq y 8 = true from h)
    rw [at8]; exact num.bigRow s) (fun _ _ _ h => by cases h) hc hT hr hG
  exact ⟨m2, jt, h1, h2, h3⟩
noncomputable abbrev QL (v : Value) (W : World) : Exit → Act → World → Prop := Exit.inBlock 3 (Exit.then (rest.wp Tryd.prog (Qb Tryd.f73 v W)) (Qb Tryd.f73 v W))
theorem rounds {W : World} {s : List UInt8} (hs : s.length < 9223372036854775807) (v : Value) (hv : vflat 8 v = true) : ∀ (fuel i : Nat) (n : Int) (j0 : Nat → Value) (m : Mu) (a : Act) (w : World), s.length - i < fuel → i ≤ s.length → valU (s.drop i) n = v →
    TRel m 172 (SU s n i j0).1 a.tmps → Rel Tryd.prog (baseOf W) m (SU s n i j0).2 w → GRel 8 m → a.defers = [] → Code.rounds Tryd.prog lp (QL v W) fuel a w := by
  intro fuel
  induction fuel with
  | zero => intro i n j0 m a w h; omega
  | succ fuel ih =>
    intro i n j0 m a w hf hi hpre hT hr hG hd0
    rw [rounds_succ]
    by_cases hlt : i < s.length
    · obtain ⟨x, hx⟩ : ∃ x, s[i]? = some x := ⟨_, List.getElem?_eq_getElem hlt⟩
      have hdr : s.drop i = x :: s.drop (i + 1) := by
        rw [List.drop_eq_getElem_cons hlt]
        rw [List.getElem?_eq_getElem hlt] at hx
        rw [Option.some.inj hx]
      rw [hdr] at hpre
      unfold valU at hpre
      have hp : NotedOk (preN s i (u8n x) (wayOf (u8n x))) := NotedOk.app (NotedOk.cons (num.go_ok (blt_t hlt)) (NotedOk.cons (num.at_ok hlt) (NotedOk.cons (num.ld_ok hx) NotedOk.nil))) (way_ok _)
      have ret : ∀ {R : RCC} {lg : Noted} {u : Value} {tp : Ab.Tape}, codeK noneK mk 73 lp (SU s n i j0) tp = R → u = v → isR Tryd.f73 R = some (u, revN lg []) → NotedOk lg → lp.wp Tryd.prog (Exit.then (Code.rounds Tryd.prog lp (QL v W) fuel) (QL v W)) a w := by
        rintro R lg u tp hR rfl h1 h2
        exact retK (n := 172) noneK_sound plL okL hR h1 hv (revN_ok _ _ h2 NotedOk.nil) hT hr hG hd0 (fun a' w' h => h)
      generalize hy : wayOf (u8n x) = y at hpre hp
      cases h1 : sound y with
      | false =>
        rw [h1] at hpre
        exact ret rfl hpre (map_mem (r_syn s n i (u8n x) j0) y (bad_of h1)) hp
      | true =>
        rw [h1] at hpre
        dsimp only at hpre
        have hg := good_of h1
        generalize hdd : dI (u8n x) y = d at hpre
        have hd : ∀ b, ge10 d = b → NotedOk (dN (u8n x) y d b) := fun b hb => NotedOk.cons (congrArg (Value.int .u8) hdd) (NotedOk.cons (congrArg Value.bool hb) NotedOk.nil)
        cases h2 : ge10 d with
        | true =>
          rw [h2] at hpre
          exact ret rfl hpre (map_mem (r_ten s n d i (u8n x) j0) y hg) (NotedOk.app hp (hd _ h2))
        | false =>
          rw [h2] at hpre
          dsimp only at hpre
          have hp2 := NotedOk.app hp (hd _ h2)
          have hc : ∀ b, geC n = b → NotedOk (cN n b) := fun b hb => NotedOk.cons (congrArg Value.bool hb) NotedOk.nil
          cases h3 : geC n with
          | true =>
            rw [h3] at hpre
            exact ret rfl hpre (map_mem (r_cut s n d i (u8n x) j0) y hg) (NotedOk.app hp2 (hc _ h3))
          | false =>
            rw [h3] at hpre
            dsimp only at hpre
            have hp3 := NotedOk.app hp2 (hc _ h3)
            have hsn : ∀ b, intLt (sm (m10 n) (cv d)) (m10 n) = b → NotedOk (sN n d (m10 n) (cv d) (sm (m10 n) (cv d)) b) := fun b hb => NotedOk.cons rfl (NotedOk.cons rfl (NotedOk.cons rfl (NotedOk.cons (congrArg Value.bool hb) NotedOk.nil)))
            cases h4 : intLt (sm (m10 n) (cv d)) (m10 n) with
            | true =>
              rw [h4] at hpre
              exact ret rfl hpre (map_mem (r_sum s n d _ _ _ i (u8n x) j0) y hg) (NotedOk.app hp3 (hsn _ h4))
            | false =>
              rw [h4] at hpre
              dsimp only at hpre
              have hp4 := NotedOk.app hp3 (hsn _ h4)
              have hb : ∀ b, big (sm (m10 n) (cv d)) = b → NotedOk (bN (sm (m10 n) (cv d)) b) := fun b hb => NotedOk.cons (congrArg Value.bool hb) NotedOk.nil
              cases h5 : big (sm (m10 n) (cv d)) with
              | true =>
                rw [h5] at hpre
                exact ret rfl hpre (map_mem (r_big s n d _ _ _ i (u8n x) j0) y hg) (NotedOk.app hp4 (hb _ h5))
              | false =>
                rw [h5] at hpre
                dsimp only at hpre
                have hs2 := fun jt jh => map_mem (r_go s n d (m10 n) (cv d) (sm (m10 n) (cv d)) i (u8n x) j0 jt jh) y hg
                refine normK (n := 172) noneK_sound plL okL rfl (Prod.mk.inj (hs2 j0 (fun _ _ => undef))).1 (revN_ok _ _ (NotedOk.app (NotedOk.app hp4 (hb _ h5)) (NotedOk.cons (congrArg i64 (wadd (a := i) (b := 1) (by omega))) NotedOk.nil)) NotedOk.nil) hT hr hG ?_
                intro m1 a1 w1 g1 t1 d1 q1
                obtain ⟨m2, j2, g2, t2, q2⟩ := reU (fun jt jh => (Prod.mk.inj (hs2 jt jh)).2) t1 q1 g1
                exact ih (i + 1) _ j2 m2 a1 w1 (by omega) (by omega) hpre t2 q2 g2 (d1.trans hd0)
    · obtain rfl : i = s.length := by omega
      rw [List.drop_length] at hpre
      obtain ⟨x1, x2⟩ := Prod.mk.inj (ends s n s.length j0)
      refine exitK (n := 172) noneK_sound plL okL (R := over s n s.length j0) rfl x1 (NotedOk.cons (num.go_ok (blt_f (Nat.le_refl _))) NotedOk.nil) hT hr hG ?_
      intro m1 a1 w1 g1 t1 d1 q1
      show rest.wp Tryd.prog (Qb Tryd.f73 v W) a1 w1
      rw [← hpre]
      exact lastK (n := 172) noneK_sound plR okR rfl x2 NotedOk.nil t1 q1 g1 (d1.trans hd0)
noncomputable def uintV (l : List UInt8) : Value := match eqL l [] with
  | true => synV
  | false => valU l 0
theorem uint_ok (l : List UInt8) (hl : l.length < 140737488355328) : MemoOk Tryd.prog ⟨73, [str l, e24 10, e24 0], uintV l⟩ := by
  unfold uintV
  cases he : eqL l [] with
  | true => exact memoK' (kn := noneK) (mk := mk) noneK_sound rfl rfl (empty l) (NotedOk.cons (congrArg Value.bool he) NotedOk.nil)
  | false =>
    refine pure_of_wp (G := 8) (n := 172) Tryd.func73 hasBody rfl (show 3 ≤ 172 by decide) rfl (valU_flat _ _) fun W a hT hd0 => ?_
    have hah := ahead l
    obtain ⟨p1, p⟩ := Prod.mk.inj (hah (fun _ => undef) (fun _ _ => undef))
    obtain ⟨p2, p⟩ := Prod.mk.inj p
    obtain ⟨p3, p⟩ := Prod.mk.inj p
    obtain ⟨p4, _⟩ := Prod.mk.inj p
    refine partK (n := 172) noneK_sound k0 (y := z1 l) rfl p1 (by rw [p2]; exact NotedOk.cons (congrArg Value.bool he) NotedOk.nil) hT (initRel 8 W) (muG_rel 8) ?_
    intro m1 a1 w1 g1 t1 d1 q1
    show c11.wp Tryd.prog _ a1 w1
    rw [e1]
    refine wp_seq (partK (n := 172) noneK_sound k1 (y := z2 l) rfl p3 (by rw [p4]; exact NotedOk.cons (blt_t (show l.length < 140737488355328 from hl)) NotedOk.nil) t1 q1 g1 ?_)
    intro m2 a2 w2 g2 t2 d2 q2
    rw [e2]
    obtain ⟨m3, j3, g3, t3, q3⟩ := reU (fun jt jh => (Prod.mk.inj (Prod.mk.inj (Prod.mk.inj (Prod.mk.inj (hah jt jh)).2).2).2).2) t2 q2 g2
    exact wp_block (wp_loop_rounds (l.length + 1) (rounds (by omega) _ (valU_flat l 0) (l.length + 1) 0 0 j3 m3 a2 w2 (by omega) (Nat.zero_le _) (by rw [List.drop_zero]) t3 q3 g3 (by rw [d2, d1]; exact hd0)))
end Go.Proofs.YtbkgnlcjnimpcaaDoor.strs.uin
