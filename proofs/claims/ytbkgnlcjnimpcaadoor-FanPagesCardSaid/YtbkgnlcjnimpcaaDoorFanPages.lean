/- FanPages is proved: pages of whatever sizes are the channel, at any number and whatever the sizes; the package-level tables that the row lists are tied to the text by the card. -/
import Derived.Test.YtbkgnlcjnimpcaaDoorAbV
import Derived.Test.YtbkgnlcjnimpcaaDoorFanPagesB
import Derived.Test.YtbkgnlcjnimpcaaDoorFanPagesDa
import Derived.Test.YtbkgnlcjnimpcaaDoorFanPagesDd
import Derived.Test.YtbkgnlcjnimpcaaDoorFanPagesDf
import Derived.Test.YtbkgnlcjnimpcaaDoorFanPagesDh
import Derived.Test.YtbkgnlcjnimpcaaDoorFanPagesDj
import Derived.Test.YtbkgnlcjnimpcaaDoorFanPagesF
import Derived.Test.YtbkgnlcjnimpcaaDoorCards
import Derived.Test.YtbkgnlcjnimpcaaDoorTie
import Derived.WalkKit
namespace Go.Proofs.YtbkgnlcjnimpcaaDoor.fanPages
open Go Go.Ab Go.ChangeShapes Go.WideShapes Go.ChangeAt Go.RowKit
set_option maxRecDepth 100000
theorem full_of (VV : Value) (OO : AObj) (n a i k : Nat) (j0 jt : Nat → Value) (jh : Nat → Nat → Value) (c : Nat) (h : c < 64) : rndL VV OO n a i k true j0 jt jh c = rndR VV OO n a i k true jt c := by
  by_cases h0 : c < 17
  · exact upTo_eq _ _ (fulla VV OO n a i k j0 jt jh) c (by omega) (by omega)
  by_cases h1 : c < 25
  · exact upTo_eq _ _ (fullb VV OO n a i k j0 jt jh) c (by omega) (by omega)
  by_cases h2 : c < 31
  · exact upTo_eq _ _ (fullc VV OO n a i k j0 jt jh) c (by omega) (by omega)
  by_cases h3 : c < 37
  · exact upTo_eq _ _ (fulld VV OO n a i k j0 jt jh) c (by omega) (by omega)
  by_cases h4 : c < 42
  · exact upTo_eq _ _ (fulle VV OO n a i k j0 jt jh) c (by omega) (by omega)
  by_cases h5 : c < 47
  · exact upTo_eq _ _ (fullf VV OO n a i k j0 jt jh) c (by omega) (by omega)
  by_cases h6 : c < 51
  · exact upTo_eq _ _ (fullg VV OO n a i k j0 jt jh) c (by omega) (by omega)
  by_cases h7 : c < 55
  · exact upTo_eq _ _ (fullh VV OO n a i k j0 jt jh) c (by omega) (by omega)
  by_cases h8 : c < 58
  · exact upTo_eq _ _ (fulli VV OO n a i k j0 jt jh) c (by omega) (by omega)
  by_cases h9 : c < 61
  · exact upTo_eq _ _ (fullj VV OO n a i k j0 jt jh) c (by omega) (by omega)
  exact upTo_eq _ _ (fullk VV OO n a i k j0 jt jh) c (by omega) (by omega)
theorem last_of (VV : Value) (OO : AObj) (n a i k : Nat) (j0 jt : Nat → Value) (jh : Nat → Nat → Value) (c : Nat) (h : c < 64) : rndL VV OO n a i k false j0 jt jh c = rndR VV OO n a i k false jt c := by
  by_cases h0 : c < 17
  · exact upTo_eq _ _ (lasta VV OO n a i k j0 jt jh) c (by omega) (by omega)
  by_cases h1 : c < 25
  · exact upTo_eq _ _ (lastb VV OO n a i k j0 jt jh) c (by omega) (by omega)
  by_cases h2 : c < 31
  · exact upTo_eq _ _ (lastc VV OO n a i k j0 jt jh) c (by omega) (by omega)
  by_cases h3 : c < 37
  · exact upTo_eq _ _ (lastd VV OO n a i k j0 jt jh) c (by omega) (by omega)
  by_cases h4 : c < 42
  · exact upTo_eq _ _ (laste VV OO n a i k j0 jt jh) c (by omega) (by omega)
  by_cases h5 : c < 47
  · exact upTo_eq _ _ (lastf VV OO n a i k j0 jt jh) c (by omega) (by omega)
  by_cases h6 : c < 51
  · exact upTo_eq _ _ (lastg VV OO n a i k j0 jt jh) c (by omega) (by omega)
  by_cases h7 : c < 55
  · exact upTo_eq _ _ (lasth VV OO n a i k j0 jt jh) c (by omega) (by omega)
  by_cases h8 : c < 58
  · exact upTo_eq _ _ (lasti VV OO n a i k j0 jt jh) c (by omega) (by omega)
  by_cases h9 : c < 61
  · exact upTo_eq _ _ (lastj VV OO n a i k j0 jt jh) c (by omega) (by omega)
  exact upTo_eq _ _ (lastk VV OO n a i k j0 jt jh) c (by omega) (by omega)

/-! ### What stays where it is -/
def Fix16 (v : Value) : Prop := ∀ σ, atOf σ 16 = some 16 → FixV σ v
theorem fix_nil : Fix16 (.slice none 0 0) := by
  intro σ _ m m' v' _ h
  cases h
  exact .nilSlice 0 0
theorem fix_slice (n c : Nat) : Fix16 (.slice (some ⟨16, 0, none⟩) n c) := by
  intro σ hσ m m' v' hm h
  have e : m' 16 = m 16 := hm 16 hσ
  cases h with
  | slice _ _ _ _ l h1 h2 => exact .slice 16 0 n c l (by rw [e]; exact h1) h2
  | oslice _ _ _ k l h1 h2 h3 h4 => exact .oslice 16 0 n k l (by rw [e]; exact h1) h2 h3 h4
  | oslice0 _ _ k l a h1 h2 h3 => exact .oslice0 16 0 k l a (by rw [e]; exact h1) h2 h3
theorem fix_of (v : V) : Fix16 (sizesV v) := by
  cases v with
  | nil => exact fix_nil
  | empty c => exact fix_slice 0 c
  | some n c f => exact fix_slice (n + 1) c
/-- Every size is a number. -/
def okV : V → Prop
  | .some n _ f => ∀ i, i < n + 1 → ∃ z, f i = i64 z
  | _ => True
theorem one_of {v : V} (hv : okV v) : OneForm (roO v) := by
  cases v with
  | nil => exact .inl rfl
  | empty c => exact .inl rfl
  | some n c f =>
    refine .inr ⟨_, _, .inl rfl, fun i x hx => ?_⟩
    obtain ⟨hi, rfl⟩ := rowFn_lt hx
    obtain ⟨z, hz⟩ := hv i (by omega)
    rw [hz]; rfl
theorem one_posts (n : Nat) : OneForm (postsO n) := by
  cases n with
  | zero => exact .inl rfl
  | succ n =>
    refine .inr ⟨_, _, .inr rfl, fun i x hx => ?_⟩
    obtain ⟨hi, rfl⟩ := rowFn_lt hx
    exact fP_flat i
theorem at16 (OO : AObj) (n : Nat) (fo : AObj) : (heapOf OO n fo).get 16 = OO := by rfl
theorem at11 (OO : AObj) (n : Nat) (fo : AObj) : (heapOf OO n fo).get 11 = postsO n := by rfl
theorem one_at {OO : AObj} (hO : OneForm OO) (n : Nat) (fo : AObj) (z : Bool) (keep : List Nat) (s : St) (y : Nat) (h : (shOf z keep s).Z y = true) : OneForm ((heapOf OO n fo).get y) := by
  have h2 : y = 16 ∨ y = 11 := by
    cases z with
    | true =>
      have h3 : (Nat.beq y 16 || Nat.beq y 11) = true := h
      rcases Bool.or_eq_true _ _ ▸ h3 with h | h
      · exact .inl (Nat.eq_of_beq_eq_true h)
      · exact .inr (Nat.eq_of_beq_eq_true h)
    | false => exact .inl (Nat.eq_of_beq_eq_true (show Nat.beq y 16 = true from h))
  rcases h2 with rfl | rfl
  · rw [at16]; exact hO
  · rw [at11]; exact one_posts n
theorem fix_at {VV : Value} (hV : Fix16 VV) (z : Bool) (keep : List Nat) (s : St) {T : Tree Value} (hT : Tget T 1 = VV) (y : Nat) (h : (shOf z keep s).ZT y = true) : FixV (shOf z keep s).σ (Tget T y) := by
  obtain rfl : 1 = y := Nat.eq_of_beq_eq_true (show Nat.beq 1 y = true from h)
  rw [hT]
  exact hV _ rfl
theorem re_A {VV : Value} {OO : AObj} (hV : Fix16 VV) (hO : OneForm OO) {nn : Int} {i : Nat} {s : St} {B : Base} {m : Mu} {a : Act} {w : World} (hc : ∀ jt jh, canonS (shOf false keepA s) 8 s jt jh = some (SA VV OO nn i jt)) (hT : TRel m 161 s.1 a.tmps) (hr : Rel Tryd.prog B m s.2 w) (hG : GRel 8 m) :
    ∃ m2 jt, GRel 8 m2 ∧ TRel m2 161 (SA VV OO nn i jt).1 a.tmps ∧ Rel Tryd.prog B m2 (SA VV OO nn i jt).2 w := by
  obtain ⟨m2, jt, _, h1, h2, h3⟩ := canonZ (S := shOf false keepA s) (S2 := fun jt _ => SA VV OO nn i jt) (fun _ _ _ h => by cases h) (fun _ _ y h => one_at hO _ _ false keepA s y h) (fun jt _ y h => fix_at hV false keepA s (T := (SA VV OO nn i jt).1) rfl y h) hc hT hr hG
  exact ⟨m2, jt, h1, h2, h3⟩
theorem re_B {VV : Value} {OO : AObj} (hV : Fix16 VV) (hO : OneForm OO) {n b i : Nat} {z : Bool} {s : St} {B : Base} {m : Mu} {a : Act} {w : World} (hc : ∀ jt jh, canonS (shOf z keepB s) 8 s jt jh = some (SB VV OO n b i jt)) (hT : TRel m 161 s.1 a.tmps) (hr : Rel Tryd.prog B m s.2 w) (hG : GRel 8 m) :
    ∃ m2 jt, GRel 8 m2 ∧ TRel m2 161 (SB VV OO n b i jt).1 a.tmps ∧ Rel Tryd.prog B m2 (SB VV OO n b i jt).2 w := by
  obtain ⟨m2, jt, _, h1, h2, h3⟩ := canonZ (S := shOf z keepB s) (S2 := fun jt _ => SB VV OO n b i jt) (fun _ _ _ h => by cases h) (fun _ _ y h => one_at hO _ _ z keepB s y h) (fun jt _ y h => fix_at hV z keepB s (T := (SB VV OO n b i jt).1) rfl y h) hc hT hr hG
  exact ⟨m2, jt, h1, h2, h3⟩
theorem re_M {VV : Value} {OO : AObj} (hV : Fix16 VV) (hO : OneForm OO) {n b i k : Nat} {s : St} {B : Base} {m : Mu} {a : Act} {w : World} (hc : ∀ jt jh, canonS (shOf true keepM s) 8 s jt jh = some (SM VV OO n b i k jt)) (hT : TRel m 161 s.1 a.tmps) (hr : Rel Tryd.prog B m s.2 w) (hG : GRel 8 m) :
    ∃ m2 jt, GRel 8 m2 ∧ TRel m2 161 (SM VV OO n b i k jt).1 a.tmps ∧ Rel Tryd.prog B m2 (SM VV OO n b i k jt).2 w := by
  obtain ⟨m2, jt, _, h1, h2, h3⟩ := canonZ (S := shOf true keepM s) (S2 := fun jt _ => SM VV OO n b i k jt) (fun _ _ _ h => by cases h) (fun _ _ y h => one_at hO _ _ true keepM s y h) (fun jt _ y h => fix_at hV true keepM s (T := (SM VV OO n b i k jt).1) rfl y h) hc hT hr hG
  exact ⟨m2, jt, h1, h2, h3⟩

/-! ### The rounds -/
theorem sz_of {v : V} (hv : okV v) (N a i : Nat) (h0 : N = 0 → a = 0) (j0 : Nat → Value) : ∃ k tp lg, k ≤ 63 ∧ NotedOk lg ∧ ∀ jt jh, (isN (hd (sizesV v) (roO v) N a i j0), (sz v N a i tp j0).ok, (sz v N a i tp j0).lg, canonS (shOf true keepM (sz v N a i tp j0).s) 8 (sz v N a i tp j0).s jt jh) =
    (some (hdN i), true, revN lg [], some (SM (sizesV v) (roO v) N a i k jt)) := by
  cases v with
  | nil =>
    refine ⟨0, [], [], Nat.zero_le _, NotedOk.nil, fun jt jh => ?_⟩
    cases N with
    | zero => obtain rfl := h0 rfl; exact sz0_nil i j0 jt jh
    | succ n => exact sz_nil n a i j0 jt jh
  | empty c =>
    refine ⟨0, [], [], Nat.zero_le _, NotedOk.nil, fun jt jh => ?_⟩
    cases N with
    | zero => obtain rfl := h0 rfl; exact sz0_empty c i j0 jt jh
    | succ n => exact sz_empty c n a i j0 jt jh
  | some s c f =>
    obtain ⟨z, hz⟩ := hv (i % (s + 1)) (Nat.mod_lt _ (Nat.succ_pos _))
    obtain ⟨k, hk, ek⟩ := bandF_lt z (c := 63) (by decide)
    refine ⟨k, sizeT (i % (s + 1)) k z, sizeN s c f i (i % (s + 1)) k z, hk, sizeN_ok hz ek hk, fun jt jh => ?_⟩
    cases N with
    | zero => obtain rfl := h0 rfl; exact sz0_some s c f i _ k z j0 jt jh
    | succ n => exact sz_some s c f n a i _ k z j0 jt jh
theorem rnd_of (VV : Value) (OO : AObj) {N a i k : Nat} (hN : N ≤ 63) (hk : k ≤ 63) (ha : a ≤ N) (j0 : Nat → Value) : ∃ c e lg, c = min (k + 1) (N - a) ∧ NotedOk lg ∧ ∀ jt jh,
    (isN (rnd VV OO N a i k c e j0), isN (inc2 VV OO N a i k c e j0), canonS (shOf true keepB (stOf (inc2 VV OO N a i k c e j0))) 8 (stOf (inc2 VV OO N a i k c e j0)) jt jh) = (some (revN lg []), some (incN i), some (SB VV OO N (a + c) (i + 1) jt)) := by
  cases N with
  | zero =>
    obtain rfl : a = 0 := by omega
    exact ⟨0, false, rndN0 k, by omega, rndN0_ok hk, fun jt jh => rnd0 VV OO i k j0 jt jh⟩
  | succ n =>
    obtain ⟨c, hc⟩ : ∃ c, c = min (k + 1) (n + 1 - a) := ⟨_, rfl⟩
    by_cases e : c = k + 1
    · exact ⟨c, true, rndN n a k c true, hc, rndN_ok hN hk ha hc e, fun jt jh => full_of VV OO n a i k j0 jt jh c (by omega)⟩
    · exact ⟨c, false, rndN n a k c false, hc, rndN_ok hN hk ha hc ⟨by omega, by omega⟩, fun jt jh => last_of VV OO n a i k j0 jt jh c (by omega)⟩
abbrev Q0 (W : World) : Exit → Act → World → Prop := bodyPost Tryd.prog Tryd.f5 fun e w' => e = .returned (.bool true) ∧ Below W.heap.size W w'
abbrev QB (W : World) : Exit → Act → World → Prop := Exit.inBlock 2 (Exit.then (restB.wp Tryd.prog (Q0 W)) (Q0 W))
abbrev QA (W : World) : Exit → Act → World → Prop := Exit.inBlock 0 (Exit.then (restA.wp Tryd.prog (Q0 W)) (Q0 W))
theorem vb : vflat 8 (.bool true) = true := rfl
/-- The second loop. -/
theorem roundsB {W : World} {v : V} (hv : okV v) {N : Nat} (hN : N ≤ 63) : ∀ (fuel b i : Nat) (j0 : Nat → Value) (m : Mu) (a : Act) (w : World), 70 - i < fuel → i ≤ 70 → b ≤ N → min N i ≤ b →
    TRel m 161 (SB (sizesV v) (roO v) N b i j0).1 a.tmps → Rel Tryd.prog (baseOf W) m (SB (sizesV v) (roO v) N b i j0).2 w → GRel 8 m → a.defers = [] → Code.rounds Tryd.prog lpB (QB W) fuel a w := by
  intro fuel
  induction fuel with
  | zero => intro b i j0 m a w h; omega
  | succ fuel ih =>
    intro b i j0 m a w hf hi hb hm hT hr hG hdf
    rw [rounds_succ, e8]
    by_cases h70 : i < 70
    · obtain ⟨k, tp, lg, hk, hlg, hs⟩ := sz_of hv N b i (by omega) j0
      obtain ⟨p1, p⟩ := Prod.mk.inj (hs j0 (fun _ _ => undef))
      obtain ⟨p2, p⟩ := Prod.mk.inj p
      obtain ⟨p3, _⟩ := Prod.mk.inj p
      obtain ⟨tp1, hx⟩ := norm_of (r := hd (sizesV v) (roO v) N b i j0) p1
      refine wp_seq (oneC_wp (n := 161) (mk := mkR 5) (K := 1000) (e := .normal) (s := SB (sizesV v) (roO v) N b i j0) (s' := stOf (hd (sizesV v) (roO v) N b i j0)) entersOk zerosOk CBok CCok DCok DBok plHB okHB hx (hdN_ok h70) hT hr hG ?_)
      intro m1 a1 w1 g1 t1 d1 q1
      show lpB2.wp Tryd.prog _ a1 w1
      rw [e9]
      refine wp_seq (wp_block (goNC_wp (n := 161) (mk := mkR 5) (K := 1000) (k := 2) (x := ⟨stOf (hd (sizesV v) (roO v) N b i j0), tp, [], true⟩) (y := sz v N b i tp j0) entersOk zerosOk CBok CCok DCok DBok k4 rfl p2 (by rw [p3]; exact revN_ok _ _ hlg NotedOk.nil) t1 q1 g1 ?_))
      intro m2 a2 w2 g2 t2 d2 q2
      show c2.wp Tryd.prog _ a2 w2
      obtain ⟨m3, j3, g3, t3, q3⟩ := re_M (fix_of v) (one_of hv) (fun jt jh => (Prod.mk.inj (Prod.mk.inj (Prod.mk.inj (hs jt jh)).2).2).2) t2 q2 g2
      obtain ⟨c, e, lg2, hc, hlg2, hrd⟩ := rnd_of (sizesV v) (roO v) (i := i) hN hk hb j3
      obtain ⟨r1, r⟩ := Prod.mk.inj (hrd j0 (fun _ _ => undef))
      obtain ⟨r2, _⟩ := Prod.mk.inj r
      obtain ⟨tp2, hx2⟩ := norm_of (r := rnd (sizesV v) (roO v) N b i k c e j3) r1
      obtain ⟨tp3, hx3⟩ := norm_of (r := inc2 (sizesV v) (roO v) N b i k c e j3) r2
      refine oneC_wp (n := 161) (mk := mkR 5) (K := 1000) (e := .normal) (s := SM (sizesV v) (roO v) N b i k j3) (s' := stOf (rnd (sizesV v) (roO v) N b i k c e j3)) entersOk zerosOk CBok CCok DCok DBok plC okC hx2 (revN_ok _ _ hlg2 NotedOk.nil) t3 q3 g3 ?_
      intro m4 a4 w4 g4 t4 d4 q4
      show incB.wp Tryd.prog _ a4 w4
      refine oneC_wp (n := 161) (mk := mkR 5) (K := 1000) (e := .normal) (s := stOf (rnd (sizesV v) (roO v) N b i k c e j3)) (s' := stOf (inc2 (sizesV v) (roO v) N b i k c e j3)) entersOk zerosOk CBok CCok DCok DBok plI okI hx3 (incN_ok h70) t4 q4 g4 ?_
      intro m5 a5 w5 g5 t5 d5 q5
      obtain ⟨m6, j6, g6, t6, q6⟩ := re_B (z := true) (fix_of v) (one_of hv) (fun jt jh => (Prod.mk.inj (Prod.mk.inj (hrd jt jh)).2).2) t5 q5 g5
      exact ih (b + c) (i + 1) j6 m6 a5 w5 (by omega) (by omega) (by omega) (by omega) t6 q6 g6 (by rw [d5, d4, d2, d1]; exact hdf)
    · obtain rfl : i = 70 := by omega
      obtain rfl : b = N := by omega
      have he := upTo_eq _ _ (ends (sizesV v) (roO v) j0) b (Nat.zero_le _) (by omega)
      obtain ⟨x1, x2⟩ := Prod.mk.inj he
      obtain ⟨tp, hx⟩ := exit_of (r := outB (sizesV v) (roO v) b j0) x1
      refine wp_seq (oneC_wp (n := 161) (mk := mkR 5) (K := 1000) (e := .exit 2) (s := SB (sizesV v) (roO v) b b 70 j0) (s' := stOf (outB (sizesV v) (roO v) b j0)) entersOk zerosOk CBok CCok DCok DBok plHB okHB hx (NotedOk.cons rfl NotedOk.nil) hT hr hG ?_)
      intro m1 a1 w1 g1 t1 d1 q1
      unfold saidOf at x2
      split at x2
      · rename_i o ho2
        simp only [Option.some.injEq, Prod.mk.injEq] at x2
        exact lastC_wp (n := 161) entersOk zerosOk CBok CCok DCok DBok plR okR vb ho2 x2.1 (by rw [x2.2]; exact NotedOk.nil) t1 q1 g1 (d1.trans hdf)
      · cases x2
/-- The first loop. -/
theorem roundsA {W : World} {v : V} (hv : okV v) {n : Nat} (hn : n ≤ 63) : ∀ (fuel i : Nat) (j0 : Nat → Value) (m : Mu) (a : Act) (w : World), n - i < fuel → i ≤ n →
    TRel m 161 (SA (sizesV v) (roO v) (.ofNat n) i j0).1 a.tmps → Rel Tryd.prog (baseOf W) m (SA (sizesV v) (roO v) (.ofNat n) i j0).2 w → GRel 8 m → a.defers = [] → Code.rounds Tryd.prog lpA (QA W) fuel a w := by
  intro fuel
  induction fuel with
  | zero => intro i j0 m a w h; omega
  | succ fuel ih =>
    intro i j0 m a w hf hi hT hr hG hdf
    rw [rounds_succ]
    by_cases hlt : i < n
    · have hro : ∀ jt jh, (isN (rndA (sizesV v) (roO v) (.ofNat n) i j0), canonS (shOf false keepA (stOf (rndA (sizesV v) (roO v) (.ofNat n) i j0))) 8 (stOf (rndA (sizesV v) (roO v) (.ofNat n) i j0)) jt jh) = (some [pr (.bool (intLt (.ofNat i) (.ofNat n))) Tr], some (SA (sizesV v) (roO v) (.ofNat n) (i + 1) jt)) :=
        fun jt jh => upTo_eq _ _ (roundA (sizesV v) (roO v) (.ofNat n) j0 jt jh) i (Nat.zero_le _) (by omega)
      obtain ⟨tp, hx⟩ := norm_of (r := rndA (sizesV v) (roO v) (.ofNat n) i j0) (Prod.mk.inj (hro j0 (fun _ _ => undef))).1
      refine oneC_wp (n := 161) (mk := mkR 5) (K := 1000) (e := .normal) (s := SA (sizesV v) (roO v) (.ofNat n) i j0) (s' := stOf (rndA (sizesV v) (roO v) (.ofNat n) i j0)) entersOk zerosOk CBok CCok DCok DBok plA okA hx (NotedOk.cons (congrArg Value.bool (lt_yes hlt)) NotedOk.nil) hT hr hG ?_
      intro m1 a1 w1 g1 t1 d1 q1
      obtain ⟨m6, j6, g6, t6, q6⟩ := re_A (fix_of v) (one_of hv) (fun jt jh => (Prod.mk.inj (hro jt jh)).2) t1 q1 g1
      exact ih (i + 1) j6 m6 a1 w1 (by omega) (by omega) t6 q6 g6 (by rw [d1]; exact hdf)
    · obtain rfl : i = n := by omega
      have hm : ∀ jt jh, (isX (outA (sizesV v) (roO v) i j0), (y3 (sizesV v) (roO v) i j0).ok, (y3 (sizesV v) (roO v) i j0).lg, (y4 (sizesV v) (roO v) i j0).ok, (y4 (sizesV v) (roO v) i j0).lg, canonS (shOf false keepB (y4 (sizesV v) (roO v) i j0).s) 8 (y4 (sizesV v) (roO v) i j0).s jt jh) =
          (some (0, [pr (.bool (intLt (.ofNat i) (.ofNat i))) F]), true, [], true, [], some (SB (sizesV v) (roO v) i 0 0 jt)) :=
        fun jt jh => upTo_eq _ _ (mid (sizesV v) (roO v) j0 jt jh) i (Nat.zero_le _) (by omega)
      obtain ⟨p1, p⟩ := Prod.mk.inj (hm j0 (fun _ _ => undef))
      obtain ⟨p2, p⟩ := Prod.mk.inj p
      obtain ⟨p3, p⟩ := Prod.mk.inj p
      obtain ⟨p4, p⟩ := Prod.mk.inj p
      obtain ⟨p5, _⟩ := Prod.mk.inj p
      obtain ⟨tp, hx⟩ := exit_of (r := outA (sizesV v) (roO v) i j0) p1
      rw [e4]
      refine wp_seq (oneC_wp (n := 161) (mk := mkR 5) (K := 1000) (e := .exit 0) (s := SA (sizesV v) (roO v) (.ofNat i) i j0) (s' := stOf (outA (sizesV v) (roO v) i j0)) entersOk zerosOk CBok CCok DCok DBok plHA okHA hx (NotedOk.cons (congrArg Value.bool (lt_no (Nat.le_refl _))) NotedOk.nil) hT hr hG ?_)
      intro m1 a1 w1 g1 t1 d1 q1
      show restA.wp Tryd.prog (Q0 W) a1 w1
      refine goNC_wp (n := 161) (mk := mkR 5) (K := 1000) (k := 3) (x := ⟨stOf (outA (sizesV v) (roO v) i j0), [], [], true⟩) (y := y3 (sizesV v) (roO v) i j0) entersOk zerosOk CBok CCok DCok DBok k2 rfl p2 (by rw [p3]; exact NotedOk.nil) t1 q1 g1 ?_
      intro m2 a2 w2 g2 t2 d2 q2
      show d3.wp Tryd.prog (Q0 W) a2 w2
      rw [e5]
      refine wp_seq (goNC_wp (n := 161) (mk := mkR 5) (K := 1000) (k := 1) (x := ⟨(y3 (sizesV v) (roO v) i j0).s, [], [], true⟩) (y := y4 (sizesV v) (roO v) i j0) entersOk zerosOk CBok CCok DCok DBok k3 rfl p4 (by rw [p5]; exact NotedOk.nil) t2 q2 g2 ?_)
      intro m3 a3 w3 g3 t3 d3 q3
      rw [e6, e7]
      obtain ⟨m6, j6, g6, t6, q6⟩ := re_B (z := false) (fix_of v) (one_of hv) (fun jt jh => (Prod.mk.inj (Prod.mk.inj (Prod.mk.inj (Prod.mk.inj (Prod.mk.inj (hm jt jh)).2).2).2).2).2) t3 q3 g3
      exact wp_block (wp_loop_rounds 71 (roundsB hv hn 71 0 0 j6 m6 a3 w3 (by omega) (by omega) (by omega) (by omega) t6 q6 g6 (by rw [d3, d2, d1]; exact hdf)))
theorem walk0 (W : World) (many : Int) (v : V) (v1 : Value) (m0 : Mu) (hle : Mu.le (muG 8) m0) (hv1 : VRel m0 (sizesV v) v1) (hr0 : Rel Tryd.prog (baseOf W) m0 ((bareOf 8).push (roO v)) W) (hv : okV v) : Calls Tryd.prog 5 #[i64 many, v1] W fun e W' => e = .returned (.bool true) ∧ Below W.heap.size W W' := by
  obtain ⟨n, hn, en⟩ := bandF_lt many (c := 63) (by decide)
  have hah : ∀ jt jh, ((y1 many (sizesV v) (roO v)).ok, (y1 many (sizesV v) (roO v)).lg, (y2 many (sizesV v) (roO v)).ok, (y2 many (sizesV v) (roO v)).lg, canonS (shOf false keepA (y2 many (sizesV v) (roO v)).s) 8 (y2 many (sizesV v) (roO v)).s jt jh) = (true, [], true, [], some (SA (sizesV v) (roO v) (.ofNat n) 0 jt)) := by
    intro jt jh
    rw [← en]
    exact ahead many (sizesV v) (roO v) jt jh
  obtain ⟨p1, p⟩ := Prod.mk.inj (hah (fun _ => undef) (fun _ _ => undef))
  obtain ⟨p2, p⟩ := Prod.mk.inj p
  obtain ⟨p3, p⟩ := Prod.mk.inj p
  obtain ⟨p4, _⟩ := Prod.mk.inj p
  refine calls_of_wp Tryd.func5 hasBody ?_
  have hT : TRel m0 161 (s0 many (sizesV v) (roO v)).1 (#[i64 many, v1] ++ Array.replicate (Tryd.f5.ntmps - #[i64 many, v1].size) undef) :=
    initT_rel (args := #[i64 many, sizesV v]) (args' := #[i64 many, v1]) (n := 161) ⟨rfl, fun i h1 h2 => (match i, h1, h2 with
      | 0, _, _ => .int _ _
      | 1, _, _ => hv1)⟩ (show 2 ≤ 161 by decide)
  refine goNC_wp (n := 161) (mk := mkR 5) (K := 1000) (k := 5) (x := ⟨s0 many (sizesV v) (roO v), [], [], true⟩) (y := y1 many (sizesV v) (roO v)) entersOk zerosOk CBok CCok DCok DBok k0 rfl p1 (by rw [p2]; exact NotedOk.nil) hT hr0 ((muG_rel 8).mono hle) ?_
  intro m1 a1 w1 g1 t1 d1 q1
  show c5.wp Tryd.prog _ a1 w1
  rw [e1]
  refine wp_seq (goNC_wp (n := 161) (mk := mkR 5) (K := 1000) (k := 1) (x := ⟨(y1 many (sizesV v) (roO v)).s, [], [], true⟩) (y := y2 many (sizesV v) (roO v)) entersOk zerosOk CBok CCok DCok DBok k1 rfl p3 (by rw [p4]; exact NotedOk.nil) t1 q1 g1 ?_)
  intro m2 a2 w2 g2 t2 d2 q2
  rw [e2, e3]
  obtain ⟨m3, j3, g3, t3, q3⟩ := re_A (fix_of v) (one_of hv) (fun jt jh => (Prod.mk.inj (Prod.mk.inj (Prod.mk.inj (Prod.mk.inj (hah jt jh)).2).2).2).2) t2 q2 g2
  exact wp_block (wp_loop_rounds 64 (roundsA hv hn 64 0 j3 m3 a2 w2 (by omega) (Nat.zero_le _) t3 q3 g3 (by rw [d2, d1])))
theorem own : ownKnob Tryd.prog.godebug = none := by kernel_rfl
theorem laidOut : laidOutB Tryd.prog = true := by kernel_rfl
theorem rd5 : Tryd.f5.params.toList.all (fun t => Tryd.prog.readableRec t && Nat.blt t Tryd.prog.types.size) = true := by kernel_rfl
theorem int_of_ok {P : Program} {W : World} {r : Reach} {base : Nat} {t : TypeId} {k : IntKind} {v : Value} (ht : P.underlying t = some (.int k)) (h : Value.okWide P W r base t v) : ∃ n, v = .int k n := by
  unfold Value.okWide at h
  rw [ht] at h
  unfold Cell.okWide Cell.ok at h
  rw [ht] at h
  cases v <;> first | (obtain ⟨rfl, _⟩ := h; exact ⟨_, rfl⟩) | exact h.elim
theorem contract (H : Type) (enc : TypeId × Value → H) (W : World) (base : Nat) (args : Array Value) (ds gs : List (DataW H)) (before : List MemPlace)
    (hval : ∀ (j : Nat) t v, Tryd.f5.params[j]? = some t → args[j]? = some v → Value.okWide Tryd.prog W .any base t v)
    (hW : DataW.Whole enc Tryd.prog Tryd.f5.params.toList Rows.fanPagesSpec.vars false W args.toList ds gs before) :
    Calls Tryd.prog 5 args W fun e W' => ∃ v, e = .returned v ∧ Rows.fanPagesSpec.post enc Tryd.prog Tryd.f5 false true false false W args v W' := by
  have hW' := hW
  obtain ⟨p, q, hA0, hV, rfl, hfz, hnd⟩ := hW
  have hA : DataW.TrodAll enc Tryd.prog W 0 (fun _ => true) true Tryd.f5.params.toList args.toList ds p := hA0
  rw [Tryd.params5] at hA hval
  obtain ⟨v0, vs0, d0, ds0, p0, q0, hargs, rfl, rfl, h0, r0⟩ := trodAll_cons hA
  obtain ⟨v1, vs1, d1, ds1, p1, q1, rfl, rfl, rfl, h1, r1⟩ := trodAll_cons r0
  obtain ⟨rfl, rfl, rfl⟩ := trodAll_nil r1
  obtain rfl : args = #[v0, v1] := by cases args; simp_all
  obtain ⟨rfl, rfl⟩ := trodVars_none hV
  obtain ⟨many, rfl⟩ := int_of_ok Tryd.underlying3 (hval 0 3 v0 (by simp) (by simp))
  have key : Calls Tryd.prog 5 #[i64 many, v1] W fun e W' => e = .returned (.bool true) ∧ Below W.heap.size W W' := by
    have hlim : (bareOf 8).next < (bareOf 8).lim := by decide
    rcases sliceArg_of und22 (hval 1 22 v1 (by simp) (by simp)) h1 (by rw [cells3]; decide) (fun fuel cs x h v hv => (trod_leaves 30 3 [.i .i64] leaves3 fuel cs x h).flat v hv) with rfl | ⟨b, off, c, rfl, hc⟩ | ⟨f, n, c, hn, hs, hel⟩
    · exact walk0 W many .nil _ ((muG 8).add (bareOf 8).next ⟨0, 0, 0⟩) (Mu.le_add ((initRel (P := Tryd.prog) 8 W).fresh _ (Nat.le_refl _) hlim).2) (.nilSlice 0 0) ((initRel (P := Tryd.prog) 8 W).name hlim ⟨0, 0, 0⟩) trivial
    · exact walk0 W many (.empty c) _ ((muG 8).add (bareOf 8).next ⟨b, off, 0⟩) (Mu.le_add ((initRel (P := Tryd.prog) 8 W).fresh _ (Nat.le_refl _) hlim).2) (.slice 16 0 0 c ⟨b, off, 0⟩ (Mu.add_self _ _ _) hc) ((initRel (P := Tryd.prog) 8 W).name hlim ⟨b, off, 0⟩) trivial
    · rw [cells3] at hs hel
      obtain ⟨n, rfl⟩ : ∃ k, n = k + 1 := ⟨n - 1, by omega⟩
      obtain ⟨m0, hle, hv, hr0⟩ := hs.lay (initRel 8 W) hlim
      refine walk0 W many (.some n c f) v1 m0 hle hv hr0 fun i hi => ?_
      obtain ⟨fuel, x, hx⟩ := hel i hi
      have ha := trod_leaves 30 3 [.i .i64] leaves3 _ _ _ hx
      have hb : AllOk [.i .i64] [f (i * 1 + 0)] := ha
      obtain ⟨⟨z, hz⟩, _⟩ := hb
      rw [Nat.mul_one, Nat.add_zero] at hz
      exact ⟨z, hz⟩
  refine key.mono fun e W' ⟨he, hb⟩ => ?_
  subst he
  exact ⟨_, rfl, post_true laidOut rd5 hW' rfl rfl rfl rfl (by kernel_rfl) Tryd.underlying4 hb⟩

def dcells : Nat → DataW Unit → List Value
  | _, .lit (.int k n) => [.int k n]
  | f + 1, .agg l => l.flatMap (dcells f)
  | _, _ => []
/-- A WORLD FOR THE WITNESS. -/
noncomputable def laidWorld (os : Os) : World :=
  let w0 := World.holding Tryd.prog os ⟨#[], #[], []⟩
  let put (h : Array Obj) (g : Nat) (cs : List Value) : Array Obj := h.modify g fun
    | .cells _ t frozen => .cells cs.toArray t frozen
    | o => o
  { w0 with heap := put (put (put (put (put w0.heap 0 (dcells 3 Rows.laid_unicode_utf8_first)) 1 (dcells 3 Rows.laid_unicode_utf8_acceptRanges)) 5 (dcells 3 Rows.laid_internal_strconv_uint64pow10)) 6 (dcells 3 Rows.laid_math_bits_deBruijn32tab)) 7 (dcells 3 Rows.laid_math_bits_deBruijn64tab) }
noncomputable def wargs : Array Value := #[.int .i64 0, .slice none 0 0]
theorem laid_met (os : Os) : laidMet Tryd.prog Rows.fanPagesRow.laid ((laidWorld os).forCall (fun _ _ => 0) ⟨#[], wargs, []⟩).memory :=
  laidMet_of_run3 8 (by kernel_rfl) (by kernel_rfl) (by kernel_rfl)
theorem reads (os : Os) {H : Type} (enc : TypeId × Value → H) : ∃ places, DataW.whole enc Tryd.prog ((laidWorld os).forCall (fun _ _ => 0) ⟨#[], wargs, []⟩).memory Tryd.f5.params.toList Rows.fanPagesSpec.vars false wargs.toList 8 =
    some ([.lit (.int .i64 0), .nil], [], places) :=
  ⟨[], by kernel_rfl⟩
theorem lifted (os : Os) (started : os.Started) (H : Type) (enc : TypeId × Value → H) (F : Stop.Interp) :
    ReturnsInHanded {} Tryd.checked os 5 .any ((OpenSpec.ofChange Rows.fanPagesSpec).preRow enc Tryd.prog Tryd.f5 Rows.fanPagesRow.domain false Rows.fanPagesRow.laid) (((OpenSpec.ofChange Rows.fanPagesSpec).at F).post enc Tryd.prog Tryd.f5 false true false false) := by
  obtain ⟨places, hx⟩ := reads os enc
  refine returnsInHanded_of_row (C := Tryd.checked) (s := OpenSpec.ofChange Rows.fanPagesSpec) own started (by kernel_rfl) Tryd.func5
    (witness_row_at (enc := enc) (C := Tryd.checked) false (laidWorld os) wargs rfl (by kernel_rfl) (by kernel_rfl) (by kernel_rfl)
      (OpenSpec.preRow_of_cond 8 hx (by kernel_rfl) (fun k hk => by cases hk) (by kernel_rfl) (laid_met os))) ?_
  intro W base args ds gs before hval hW _ _ _ _ _ _
  exact contract H enc W base args ds gs before hval hW
theorem said : Rows.FanPagesSaid :=
  OpenClaim.holds_of_cond 5 Tryd.f5 rfl rfl rfl rfl rfl rfl rfl ⟨rfl, rfl, rfl, rfl, rfl⟩ rfl rfl rfl rfl rfl (by kernel_rfl) Tryd.func5 (by kernel_rfl)
    (of_decide_eq_true (by kernel_rfl)) (by unfold Func.isWrapper; first | (rw [if_pos (by decide +kernel)]; kernel_rfl) | (rw [if_neg (by decide +kernel)]; exact ⟨rfl, rfl⟩))
    (fun os started H enc _ F => by rw [OpenClaim.pre_eq_preRow]; exact lifted os started H enc F)
/-- No parameter wants a stand-in; the program's own looks are on: what both cards ask. -/
theorem plain (f : FuncId) (fn : Func) (hf : Tryd.pinned.checked.prog.funcNamed "rookery/rookerylaw19.FanPages" = some f) (hfn : Tryd.pinned.checked.prog.funcs[f]? = some fn) :
    true = Tryd.pinned.checked.prog.looks [] ∧ ∀ (j : Nat) t, fn.params[j]? = some t → Tryd.pinned.checked.prog.wantsStandIn t = false := by
  obtain rfl : f = 5 := Option.some.inj ((show Tryd.prog.funcNamed "rookery/rookerylaw19.FanPages" = some 5 by kernel_rfl).symm.trans hf) |>.symm
  obtain rfl : fn = Tryd.f5 := (Option.some.inj (Tryd.func5.symm.trans hfn)).symm
  refine ⟨by kernel_rfl, fun j t ht => ?_⟩
  rw [Tryd.params5] at ht
  have h2 : t = 3 ∨ t = 22 := by simpa using Array.mem_of_getElem? ht
  rcases h2 with rfl | rfl
  · exact (show Tryd.prog.wantsStandIn 3 = false by kernel_rfl)
  · exact (show Tryd.prog.wantsStandIn 22 = false by kernel_rfl)
/-- ████ THE CARD ████ -/
theorem card : Rows.FanPagesCardSaid :=
  Claim7.holds_tied_plain_at .later [] _ _ _ _ said (fun _ h => by cases h) (by kernel_rfl) (fun _ h => by cases h) fanPages_row_tie rfl ⟨rfl, rfl⟩ (by kernel_rfl) rfl plain (by kernel_rfl)
end Go.Proofs.YtbkgnlcjnimpcaaDoor.fanPages
