/- Texts: the number in a text, inside: the short ones. -/
import Derived.Test.YtbkgnlcjnimpcaaDoorStrF
namespace Go.Proofs.YtbkgnlcjnimpcaaDoor.strs.num
open Go Go.Ab Go.RowKit Go.Proofs.YtbkgnlcjnimpcaaDoor.strs
set_option maxRecDepth 100000
noncomputable def fastL : List UInt8 → Int → Option Int
  | [], n => some n
  | x :: r, n => match intLt 9 (dgI (u8n x)) with
    | true => none
    | false => fastL r (nxI n (dgI (u8n x)))
noncomputable def outV (c : Nat) : Option Int → Value
  | none => tupV 0 (errV 2)
  | some n => match Nat.beq c 45 with
    | true => tupV (ngI n) .nilIface
    | false => tupV n .nilIface
theorem outV_flat (c : Nat) (r : Option Int) : vflat 8 (outV c r) = true := by
  cases r with
  | none => rfl
  | some n => unfold outV; cases Nat.beq c 45 <;> rfl
theorem u41 : Tryd.prog.underlying 41 = some (.slice 5) := by kernel_rfl
theorem u5 : Tryd.prog.underlying 5 = some (.int .u8) := by kernel_rfl
theorem i5 : (Tryd.prog.info? 5).map (·.size) = some 1 := by kernel_rfl
theorem at_ok {s : List UInt8} {i : Nat} (h : i < s.length) : atP s i := by
  obtain ⟨ei, hi, hs⟩ : ∃ ei, Tryd.prog.info? 5 = some ei ∧ ei.size = 1 := by
    have := i5
    cases h : Tryd.prog.info? 5 with
    | none => rw [h] at this; cases this
    | some ei => rw [h] at this; exact ⟨ei, rfl, Option.some.inj this⟩
  have := ix_slice (P := Tryd.prog) (b := 8) (o := 0) (n := (⟨⟨s⟩⟩ : ByteArray).size) (c := OPEN) (i := i) (k := .i64) u41 hi h
  unfold atP slV
  refine this.trans ?_
  rw [hs]
  show some (Value.pointer (some ⟨8, Nat.add 0 (i * 1), none⟩)) = _
  rw [Nat.mul_one]
  show some (Value.pointer (some ⟨8, 0 + i, none⟩)) = _
  rw [Nat.zero_add]
  rfl
theorem row_get (s : List UInt8) (i : Nat) : (Row.ofList (bytesOf ⟨⟨s⟩⟩)).get? i = (s[i]?).map (fun x => b8 (u8n x)) := by
  rw [Row.ofList_get?]
  unfold bytesOf
  rw [List.getElem?_map]
  show Option.map _ (s[i]?) = _
  congr 1
theorem ld_ok {s : List UInt8} {i : Nat} {x : UInt8} (h : s[i]? = some x) : ldP s i (u8n x) := by
  obtain ⟨ei, hi, _⟩ : ∃ ei, Tryd.prog.info? 5 = some ei ∧ ei.size = 1 := by
    have := i5
    cases h : Tryd.prog.info? 5 with
    | none => rw [h] at this; cases this
    | some ei => rw [h] at this; exact ⟨ei, rfl, Option.some.inj this⟩
  unfold ldP ldO
  rw [u5, hi]
  show rowGet (Row.ofList (bytesOf ⟨⟨s⟩⟩)) i = _
  rw [rowGet_eq, row_get, h]
  rfl
theorem bigRow (s : List UInt8) : OneForm (rowV s) := by
  refine .inr ⟨_, _, .inr rfl, fun i v hv => ?_⟩
  rw [row_get] at hv
  cases h : s[i]? with
  | none => rw [h] at hv; cases hv
  | some x => rw [h] at hv; cases hv; rfl
theorem at8 (l s : List UInt8) (n : Int) (i : Nat) (jt : Nat → Value) : (SF l s n i jt).2.get 8 = rowV s := by kernel_rfl
theorem reF {b : Nat} {l s : List UInt8} {n : Int} {i : Nat} {x : St} {B : Base} {m : Mu} {a : Act} {w : World} (hc : ∀ jt jh, canonS (sh b) 8 x jt jh = some (SF l s n i jt)) (hT : TRel m 77 x.1 a.tmps) (hr : Rel Tryd.prog B m x.2 w) (hG : GRel 8 m) :
    ∃ m2 jt, GRel 8 m2 ∧ TRel m2 77 (SF l s n i jt).1 a.tmps ∧ Rel Tryd.prog B m2 (SF l s n i jt).2 w := by
  obtain ⟨m2, jt, _, h1, h2, h3⟩ := canonZ (S := sh b) (S2 := fun jt _ => SF l s n i jt) (fun _ _ _ h => by cases h) (fun jt _ y h => by
    obtain rfl := Nat.eq_of_beq_eq_true (show Nat.beq y 8 = true from h)
    rw [at8]; exact bigRow s) (fun _ _ _ h => by cases h) hc hT hr hG
  exact ⟨m2, jt, h1, h2, h3⟩
noncomputable abbrev Qr (v : Value) (W : World) : Exit → Act → World → Prop := Exit.then (tailC.wp Tryd.prog (Qb Tryd.f49 v W)) (Qb Tryd.f49 v W)
noncomputable abbrev QL (v : Value) (W : World) : Exit → Act → World → Prop := Exit.inBlock 0 (Exit.then (rest.wp Tryd.prog (Qr v W)) (Qr v W))
theorem head_ok {l : List UInt8} {x : UInt8} (h : l[0]? = some x) : ixP l (u8n x) := ix_ok h
theorem is_ok {c k : Nat} {b : Bool} (h : Nat.beq c k = b) : isP c k b := congrArg Value.bool h
theorem go_ok {s : List UInt8} {i : Nat} {b : Bool} (h : Nat.blt i s.length = b) : goP s i b := congrArg Value.bool h
theorem rounds {W : World} {l s : List UInt8} {x0 : UInt8} (h0 : l[0]? = some x0) (hs : s.length < 9223372036854775807) (R : Option Int) : ∀ (fuel i : Nat) (n : Int) (j0 : Nat → Value) (m : Mu) (a : Act) (w : World), s.length - i < fuel → i ≤ s.length → fastL (s.drop i) n = R →
    TRel m 77 (SF l s n i j0).1 a.tmps → Rel Tryd.prog (baseOf W) m (SF l s n i j0).2 w → GRel 8 m → a.defers = [] → Code.rounds Tryd.prog lp (QL (outV (u8n x0) R) W) fuel a w := by
  intro fuel
  induction fuel with
  | zero => intro i n j0 m a w h; omega
  | succ fuel ih =>
    intro i n j0 m a w hf hi hpre hT hr hG hd0
    rw [rounds_succ]
    by_cases hlt : i < s.length
    · obtain ⟨x, hx⟩ : ∃ x, s[i]? = some x := ⟨_, List.getElem?_eq_getElem hlt⟩
      have hdr : s.drop i = x :: s.drop (i + 1) := by
        rw [List.drop_eq_getElem_cons hlt]
        rw [List.getElem?_eq_getElem hlt] at hx
        rw [Option.some.inj hx]
      rw [hdr] at hpre
      unfold fastL at hpre
      have hn : ∀ b, intLt 9 (dgI (u8n x)) = b → NotedOk (rndN s i (u8n x) (dgI (u8n x)) b) := fun b hb => NotedOk.cons (go_ok (blt_t hlt)) (NotedOk.cons (at_ok hlt) (NotedOk.cons (ld_ok hx) (NotedOk.cons rfl (NotedOk.cons (congrArg Value.bool hb) NotedOk.nil))))
      cases hb : intLt 9 (dgI (u8n x)) with
      | false =>
        rw [hb] at hpre
        have hs2 := fun jt jh => round l s n (dgI (u8n x)) (wrapF .i64 (Int.mul n 10)) (wrapF .i64 (dgI (u8n x))) (nxI n (dgI (u8n x))) i (u8n x) j0 jt jh
        refine normK (n := 77) noneK_sound plL okL rfl (Prod.mk.inj (hs2 j0 (fun _ _ => undef))).1 (revN_ok _ _ (fun q hq => ?_) NotedOk.nil) hT hr hG ?_
        · rcases List.mem_append.1 hq with hq | hq
          · exact hn false hb q hq
          · exact (NotedOk.cons rfl (NotedOk.cons rfl (NotedOk.cons rfl (NotedOk.cons (congrArg i64 (wadd (a := i) (b := 1) (by omega))) NotedOk.nil))) : NotedOk (nxN i n (dgI (u8n x)) (wrapF .i64 (Int.mul n 10)) (wrapF .i64 (dgI (u8n x))) (nxI n (dgI (u8n x))))) q hq
        intro m1 a1 w1 g1 t1 d1 q1
        obtain ⟨m2, j2, g2, t2, q2⟩ := reF (fun jt jh => (Prod.mk.inj (hs2 jt jh)).2) t1 q1 g1
        exact ih (i + 1) _ j2 m2 a1 w1 (by omega) (by omega) hpre t2 q2 g2 (d1.trans hd0)
      | true =>
        rw [hb] at hpre
        rw [← hpre]
        exact retK (n := 77) noneK_sound plL okL (R := rnd l s n i (u8n x) j0 [.int .u8 (dgI (u8n x)), Tr]) rfl (bad l s n (dgI (u8n x)) i (u8n x) j0) rfl (revN_ok _ _ (hn true hb) NotedOk.nil) hT hr hG hd0 (fun a' w' h => h)
    · obtain rfl : i = s.length := by omega
      rw [List.drop_length] at hpre
      rw [← hpre]
      have hg : NotedOk [goP s s.length false] := NotedOk.cons (go_ok (blt_f (Nat.le_refl _))) NotedOk.nil
      cases h45 : Nat.beq (u8n x0) 45 with
      | false =>
        obtain ⟨x1, x2⟩ := Prod.mk.inj (ends l s n s.length (u8n x0) j0)
        refine exitK (n := 77) noneK_sound plL okL (R := over l s n s.length j0) rfl x1 hg hT hr hG ?_
        intro m1 a1 w1 g1 t1 d1 q1
        show rest.wp Tryd.prog (Qr _ W) a1 w1
        refine retK (n := 77) noneK_sound plR okR (R := last l s n s.length (u8n x0) j0 [F]) rfl x2 rfl (revN_ok _ _ (NotedOk.cons (head_ok h0) (NotedOk.cons (is_ok h45) NotedOk.nil)) NotedOk.nil) t1 q1 g1 (d1.trans hd0) (fun a' w' h => ?_)
        show Qb Tryd.f49 (outV (u8n x0) (some n)) W .ret a' w'
        unfold outV
        rw [h45]
        exact h
      | true =>
        obtain ⟨x1, x2⟩ := Prod.mk.inj (ends2 l s n (ngI n) s.length (u8n x0) j0)
        refine exitK (n := 77) noneK_sound plL okL (R := over l s n s.length j0) rfl x1 hg hT hr hG ?_
        intro m1 a1 w1 g1 t1 d1 q1
        show rest.wp Tryd.prog (Qr _ W) a1 w1
        refine retK (n := 77) noneK_sound plR okR (R := last l s n s.length (u8n x0) j0 [Tr, i64 (ngI n)]) rfl x2 rfl (revN_ok _ _ (NotedOk.cons (head_ok h0) (NotedOk.cons (is_ok h45) (NotedOk.cons rfl NotedOk.nil))) NotedOk.nil) t1 q1 g1 (d1.trans hd0) (fun a' w' h => ?_)
        show Qb Tryd.f49 (outV (u8n x0) (some n)) W .ret a' w'
        unfold outV
        rw [h45]
        exact h
/-! ### From the beginning -/
theorem cond30 {m : Mu} {T : Tree Value} {a : Act} (hT : TRel m 77 T a.tmps) (h : Tget T 30 = Tr) : a.eval (.tmp 30) = .bool true := by
  have := hT.rel 30
  rw [h] at this
  exact this.of_flat 8 rfl
theorem walk {l s : List UInt8} {x0 : UInt8} {lg : Noted} {c3 : Ab.Tape} (h0 : l[0]? = some x0) (hs : s.length < 140737488355328) (hl : l.length < 19)
    (hz : ∀ jt jh, (fun y z => (y.ok, y.lg, z.ok, z.lg, canonS (sh 16) 8 z.s jt jh)) (z3 l (u8n x0) c3) (z4 l (u8n x0) c3) = (true, revN lg [], true, [bigP s], some (SF l s 0 0 jt))) (hlg : NotedOk lg) : MemoOk Tryd.prog ⟨49, [str l], outV (u8n x0) (fastL s 0)⟩ := by
  refine pure_of_wp (G := 8) (n := 77) Tryd.func49 hasBody rfl (show 1 ≤ 77 by decide) rfl (outV_flat _ _) fun W a hT hd0 => ?_
  obtain ⟨p1, p⟩ := Prod.mk.inj (first l)
  obtain ⟨p2, p⟩ := Prod.mk.inj p
  obtain ⟨p3, p4⟩ := Prod.mk.inj p
  obtain ⟨r1, r⟩ := Prod.mk.inj (hz (fun _ => undef) (fun _ _ => undef))
  obtain ⟨r2, r⟩ := Prod.mk.inj r
  obtain ⟨r3, r⟩ := Prod.mk.inj r
  obtain ⟨r4, _⟩ := Prod.mk.inj r
  have hpos : 0 < l.length := by
    rcases Nat.lt_or_ge 0 l.length with h | h
    · exact h
    · rw [List.getElem?_eq_none h] at h0; cases h0
  refine partK (n := 77) noneK_sound k0 (y := z1 l) rfl p1 (by rw [p2]; exact NotedOk.nil) hT (initRel 8 W) (muG_rel 8) ?_
  intro m1 a1 w1 g1 t1 d1 q1
  show c2.wp Tryd.prog _ a1 w1
  rw [e1]
  refine wp_seq (wp_seq (normK (n := 77) noneK_sound plG okG (R := z2 l) rfl p3 (revN_ok _ _ (NotedOk.cons ?_ (NotedOk.cons ?_ NotedOk.nil)) NotedOk.nil) t1 q1 g1 ?_))
  · unfold lenP; rw [lenL_len]; exact congrArg Value.bool (lt_yes (a := 0) hpos)
  · unfold shortP; rw [lenL_len]; exact congrArg Value.bool (lt_yes (b := 19) hl)
  intro m2 a2 w2 g2 t2 d2 q2
  refine wp_cond_true (cond30 t2 p4) ?_
  refine partK (n := 77) noneK_sound k1 (y := z3 l (u8n x0) c3) rfl r1 (by rw [r2]; exact revN_ok _ _ hlg NotedOk.nil) t2 q2 g2 ?_
  intro m3 a3 w3 g3 t3 d3 q3
  show y3.wp Tryd.prog _ a3 w3
  rw [e2]
  refine wp_seq (partK (n := 77) noneK_sound k2 (y := z4 l (u8n x0) c3) rfl r3 (by rw [r4]; exact NotedOk.cons (blt_t (show s.length < 140737488355328 from hs)) NotedOk.nil) t3 q3 g3 ?_)
  intro m4 a4 w4 g4 t4 d4 q4
  rw [e3]
  obtain ⟨m5, j5, g5, t5, q5⟩ := reF (fun jt jh => (Prod.mk.inj (Prod.mk.inj (Prod.mk.inj (Prod.mk.inj (hz jt jh)).2).2).2).2) t4 q4 g4
  exact wp_block (wp_loop_rounds (s.length + 1) (rounds h0 (by omega) (fastL s 0) (s.length + 1) 0 0 j5 m5 a4 w4 (by omega) (Nat.zero_le _) (by rw [List.drop_zero]) t5 q5 g5 (by rw [d4, d3, d2, d1]; exact hd0)))
end Go.Proofs.YtbkgnlcjnimpcaaDoor.strs.num
