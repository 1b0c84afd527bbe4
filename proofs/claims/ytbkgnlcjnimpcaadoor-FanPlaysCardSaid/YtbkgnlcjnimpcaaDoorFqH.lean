/- FanPlays: the loop is left, and what stands behind it. -/
import Derived.Test.YtbkgnlcjnimpcaaDoorFqF
namespace Go.Proofs.YtbkgnlcjnimpcaaDoor.fanPlays
open Go Go.Ab Go.RowKit Go.Proofs.YtbkgnlcjnimpcaaDoor.strs
open Go.Proofs.YtbkgnlcjnimpcaaDoor.strs.rf (ltP)
open Go.Proofs.YtbkgnlcjnimpcaaDoor.fanPlays.tk (normX exitX)
open Go.Proofs.YtbkgnlcjnimpcaaDoor.fanReads (kl klok jK)
set_option maxRecDepth 100000
noncomputable def over (VV : Value) (f : Fd) (i : Nat) (j0 : Nat → Value) (tp : Ab.Tape) : RCC := codeK kl mk 8 lp (SP VV .dead .dead f i j0) tp
noncomputable def last (VV : Value) (f : Fd) (i : Nat) (j0 : Nat → Value) (tp tp2 : Ab.Tape) : RCC := codeK kl mk 8 rest (stOf (over VV f i j0 tp)) tp2
noncomputable def endN (td : Nat) : Noted := [pr (.bool (intEq (.ofNat td) (.ofNat td))) Tr, jK 15 [] Tr, tdQ td]
theorem out1 (A : Option Addr) (N c i nx td : Nat) (sp ch : List UInt8) (g : Bool) (j0 : Nat → Value) : (fun r p => (isX r, isR Tryd.f8 p)) (over (.slice A N c) ⟨sp, ch, nx, td, g⟩ i j0 [F]) (last (.slice A N c) ⟨sp, ch, nx, td, g⟩ i j0 [F] [Tr, Tr]) =
    (some (0, [ltP (.ofNat i) (.ofNat N) false]), some (Tr, revN (endN td) [])) := by kernel_rfl
theorem out2 (A : Option Addr) (N c i nx td : Nat) (sp ch : List UInt8) (g : Bool) (j0 : Nat → Value) : (fun r p => (isX r, isR Tryd.f8 p)) (over (.slice A N c) ⟨sp, ch, nx, td, g⟩ i j0 [Tr, F]) (last (.slice A N c) ⟨sp, ch, nx, td, g⟩ i j0 [Tr, F] [Tr, Tr]) =
    (some (0, [ltP (.ofNat i) 200 false, ltP (.ofNat i) (.ofNat N) true]), some (Tr, revN (endN td) [])) := by kernel_rfl
theorem end_ok (td : Nat) : NotedOk (endN td) := by
  refine NotedOk.cons (congrArg Value.bool (eq_yes td)) (NotedOk.cons fanReads.j15 (NotedOk.cons ?_ NotedOk.nil))
  show ((veq 8 (e24 td) (e24 td) && true) && true) = true
  simp [veq, e24]
abbrev Q0 (W : World) : Exit → Act → World → Prop := bodyPost Tryd.prog Tryd.f8 fun e w' => e = .returned Tr ∧ Below W.heap.size W w'
abbrev QA (W : World) : Exit → Act → World → Prop := Exit.inBlock 0 (Exit.then (rest.wp Tryd.prog (Q0 W)) (Q0 W))
theorem leaves {W : World} {A : Option Addr} {N c i : Nat} {f : Fd} {j0 : Nat → Value} {m : Mu} {a : Act} {w : World} {Rn : Act → World → Prop} (hx : N ≤ i ∨ 200 ≤ i) (hT : TRel m 178 (SP (.slice A N c) .dead .dead f i j0).1 a.tmps) (hr : Rel Tryd.prog (baseOf W) m (SP (.slice A N c) .dead .dead f i j0).2 w) (hG : GRel 8 m) (hd0 : a.defers = []) :
    lp.wp Tryd.prog (Exit.then Rn (QA W)) a w := by
  obtain ⟨sp, ch, nx, td, g⟩ := f
  have key : ∀ (tp : Ab.Tape) (lg : Noted), NotedOk lg → (fun r p => (isX r, isR Tryd.f8 p)) (over (.slice A N c) ⟨sp, ch, nx, td, g⟩ i j0 tp) (last (.slice A N c) ⟨sp, ch, nx, td, g⟩ i j0 tp [Tr, Tr]) = (some (0, lg), some (Tr, revN (endN td) [])) → lp.wp Tryd.prog (Exit.then Rn (QA W)) a w := by
    intro tp lg hl hs
    obtain ⟨p1, p2⟩ := Prod.mk.inj hs
    refine exitX (n := 178) (k := 0) klok plL okL (R := over (.slice A N c) ⟨sp, ch, nx, td, g⟩ i j0 tp) rfl p1 hl hT hr hG (Nat.zero_le _) ?_
    intro m1 a1 w1 x1 g1 t1 d1 q1
    show rest.wp Tryd.prog (Q0 W) a1 w1
    exact retK (n := 178) klok plR okR (R := last (.slice A N c) ⟨sp, ch, nx, td, g⟩ i j0 tp [Tr, Tr]) rfl p2 rfl (revN_ok _ _ (end_ok td) NotedOk.nil) t1 q1 g1 (d1.trans hd0) fun a' w' h => h
  by_cases hN : N ≤ i
  · exact key [F] _ (NotedOk.cons (rf.ltn_ok (blt_f hN)) NotedOk.nil) (out1 ..)
  · have h200 : 200 ≤ i := by omega
    exact key [Tr, F] _ (NotedOk.cons (rf.ltn_ok (b := 200) (blt_f h200)) (NotedOk.cons (rf.ltn_ok (blt_t (show i < N by omega))) NotedOk.nil)) (out2 ..)
theorem nextY (k mo : Int) (n : Nat) (s1 s2 s3 s4 s5 s6 : List UInt8) (VV : Value) : 17 ≤ (y1 (opV k s1 s2 s3 s4 s5 s6 (.ofNat n) mo) VV (newT 3 ++ refT 4)).s.2.next := Nat.le_of_ble_eq_true (by kernel_rfl)
end Go.Proofs.YtbkgnlcjnimpcaaDoor.fanPlays
/- FanPlays: the loop, whole; the beginning. -/
namespace Go.Proofs.YtbkgnlcjnimpcaaDoor.fanPlays
open Go Go.Ab Go.RowKit Go.Proofs.YtbkgnlcjnimpcaaDoor.strs
open Go.Proofs.YtbkgnlcjnimpcaaDoor.strs.dig (tblO)
open Go.Proofs.YtbkgnlcjnimpcaaDoor.strs.rf (ltP)
open Go.Proofs.YtbkgnlcjnimpcaaDoor.strs.uin (NotedOk.app)
open Go.Proofs.YtbkgnlcjnimpcaaDoor.fanReads (kl klok jK)
set_option maxRecDepth 100000
/-- The loop. -/
theorem rounds {H : Type} {enc : TypeId × Value → H} {W : World} {base : Nat} {held : Bool} {N c b off : Nat} {C : Array Value} (hs : Scr enc W base held b off N C) : ∀ (fuel i : Nat) (f : Fd) (a : Act) (w : World), 200 - i < fuel → Inv W N c b off f i a w → a.defers = [] → Code.rounds Tryd.prog lp (QA W) fuel a w := by
  intro fuel
  induction fuel with
  | zero => intro i f a w h; omega
  | succ fuel ih =>
    intro i f a w hf hI hd0
    rw [rounds_succ]
    by_cases hx : i < N ∧ i < 200
    · exact turn hs hx.1 hx.2 hI fun f' a' w' hd' hI' => ih _ _ a' w' (by omega) hI' (hd'.trans hd0)
    · obtain ⟨hb, m, jt, cap, _, _, hG, hT, hr⟩ := hI
      exact leaves (by omega) hT hr hG hd0
theorem j38 {l : List UInt8} (hl : l.length < BIG) : jK 38 [str l] (.bool (lab l)) := knM (g := g38) rfl (by
  show (if l.length < BIG then some (Value.bool (lab l)) else none) = _
  rw [if_pos hl])
/-- How it begins: badly, or well. -/
inductive Begins (s1 s2 : List UInt8) (fr : Int) : Prop
  | bad (k q : Nat) (h : (k, q) ∈ [(0, 0), (0, 1), (1, 2), (2, 3)]) (h1 : NotedOk (newN s1 s2 fr k)) (h2 : NotedOk (refN s1 s2 fr q))
  | good (n : Nat) (hn : n ≤ 1073741824) (hf : fr = .ofNat n) (l1 : lab s1 = true) (l2 : lab s2 = true) (h1 : NotedOk (newN s1 s2 fr 3)) (h2 : NotedOk (refN s1 s2 fr 4))
theorem begins {s1 s2 : List UInt8} (b1 : s1.length < BIG) (b2 : s2.length < BIG) (fr : Int) : Begins s1 s2 fr := by
  have n32 := fanReads.j32 b1 b2
  have n1 := j38 b1
  have n2 := j38 b2
  cases l1 : lab s1 with
  | false =>
    rw [l1] at n32 n1
    exact .bad 0 0 (by simp) (NotedOk.cons n32 NotedOk.nil) (NotedOk.cons n1 NotedOk.nil)
  | true =>
    rw [l1] at n32 n1
    cases l2 : lab s2 with
    | false =>
      rw [l2] at n32 n2
      exact .bad 0 1 (by simp) (NotedOk.cons n32 NotedOk.nil) (NotedOk.cons n1 (NotedOk.cons n2 NotedOk.nil))
    | true =>
      rw [l2] at n32 n2
      by_cases h0 : fr < 0
      · exact .bad 1 2 (by simp) (NotedOk.cons n32 (NotedOk.cons (lt_t h0) NotedOk.nil)) (NotedOk.cons n1 (NotedOk.cons n2 (NotedOk.cons (lt_t h0) NotedOk.nil)))
      have z0 : ltP fr 0 false := lt_f (by omega)
      by_cases h1 : 1073741824 < fr
      · exact .bad 2 3 (by simp) (NotedOk.cons n32 (NotedOk.cons z0 (NotedOk.cons (lt_t h1) NotedOk.nil))) (NotedOk.cons n1 (NotedOk.cons n2 (NotedOk.cons z0 (NotedOk.cons (lt_t h1) NotedOk.nil))))
      have z1 : ltP 1073741824 fr false := lt_f (by omega)
      exact .good fr.toNat (by omega) (by rw [ofN]; omega) l1 l2 (NotedOk.cons n32 (NotedOk.cons z0 (NotedOk.cons z1 NotedOk.nil))) (NotedOk.cons n1 (NotedOk.cons n2 (NotedOk.cons z0 (NotedOk.cons z1 NotedOk.nil))))
/-- What the script is. -/
inductive Arg {H : Type} (enc : TypeId × Value → H) (W : World) (base : Nat) (held : Bool) : Value → Prop
  | nil : Arg enc W base held (.slice none 0 0)
  | room0 (a : Addr) : Arg enc W base held (.slice (some a) 0 0)
  | row (b off N c : Nat) (C : Array Value) (hc : c ≤ HALF) (h : Scr enc W base held b off N C) : Arg enc W base held (.slice (some ⟨b, off, none⟩) N c)
theorem hp0_eq : hp0.next = 18 ∧ hp0.lim = 1099511627776 ∧ (tblOf 8 5 tblO).next = 16 ∧ (tblOf 8 5 tblO).lim = 1099511627776 := by
  refine ⟨?_, ?_, ?_, ?_⟩ <;> kernel_rfl
theorem fnOf : Tryd.prog.funcs[8]? = some Tryd.f8 := by kernel_rfl
theorem tmpsOf : Tryd.f8.ntmps = 178 := by kernel_rfl
theorem d5 : dropN 5 body = c5 := by kernel_rfl
/-- The law's function, walked. -/
theorem walk {H : Type} {enc : TypeId × Value → H} {W : World} {base : Nat} {held : Bool} (h5 : TblW Tryd.prog 8 5 tblO W) (k fr mo : Int) (s1 s2 s3 s4 s5 s6 : List UInt8) (b1 : s1.length < BIG) (b2 : s2.length < BIG) {v1 : Value} (hv : Arg enc W base held v1) :
    Calls Tryd.prog 8 #[opV k s1 s2 s3 s4 s5 s6 fr mo, v1] W fun e w' => e = .returned Tr ∧ Below W.heap.size W w' := by
  have r5 : Rel Tryd.prog (baseOf W) (muG 8) (tblOf 8 5 tblO) W := tblRel (P := Tryd.prog) (G := 8) (k := 5) (show 5 < 8 by decide) dig.tbl_plain h5 (tblW_lt dig.tbl_plain h5)
  obtain ⟨e1', e2', e3', e4'⟩ := hp0_eq
  -- from what is named under 16
  have fin : ∀ (b off cap : Nat) (VV : Value), VRel (((muG 8).add 16 ⟨b, off, cap⟩).add 17 ⟨0, 0, 0⟩) VV v1 → (VV = .slice none 0 0 ∨ ∃ N c, VV = VS N c) → (∀ N c, VV = VS N c → N = 0 ∨ ∃ C, Scr enc W base held b off N C) →
      Calls Tryd.prog 8 #[opV k s1 s2 s3 s4 s5 s6 fr mo, v1] W fun e w' => e = .returned Tr ∧ Below W.heap.size W w' := by
    intro b off cap VV hvv hform hscr
    have r6 := r5.name (by rw [e3', e4']; omega) ⟨b, off, cap⟩
    rw [e3'] at r6
    have r7 := r6.name (by show 16 + 1 < _; rw [show ((tblOf 8 5 tblO).push .dead).lim = 1099511627776 from e4']; omega) ⟨0, 0, 0⟩
    rw [show ((tblOf 8 5 tblO).push .dead).next = 17 by show (tblOf 8 5 tblO).next + 1 = 17; rw [e3']] at r7
    have r8 : Rel Tryd.prog (baseOf W) (((muG 8).add 16 ⟨b, off, cap⟩).add 17 ⟨0, 0, 0⟩) hp0 W := r7
    have hle1 : Mu.le (muG 8) ((muG 8).add 16 ⟨b, off, cap⟩) := Mu.le_add (by have := (r5.fresh 16 (by omega) (by omega)).2; exact this)
    have hle2 : Mu.le ((muG 8).add 16 ⟨b, off, cap⟩) (((muG 8).add 16 ⟨b, off, cap⟩).add 17 ⟨0, 0, 0⟩) := Mu.le_add (by have := (r6.fresh 17 (by show 16 + 1 ≤ 17; omega) (by rw [show ((tblOf 8 5 tblO).push .dead).lim = 1099511627776 from e4']; omega)).2; exact this)
    have hG0 : GRel 8 (((muG 8).add 16 ⟨b, off, cap⟩).add 17 ⟨0, 0, 0⟩) := (muG_rel 8).mono (Mu.le_trans hle1 hle2)
    have ha : ARel (((muG 8).add 16 ⟨b, off, cap⟩).add 17 ⟨0, 0, 0⟩) #[opV k s1 s2 s3 s4 s5 s6 fr mo, VV] #[opV k s1 s2 s3 s4 s5 s6 fr mo, v1] := ⟨rfl, fun i h1 h2 => (match i, h1, h2 with
      | 0, _, _ => vflat_rel _ 8 _ rfl
      | 1, _, _ => hvv)⟩
    have h16 : (((muG 8).add 16 ⟨b, off, cap⟩).add 17 ⟨0, 0, 0⟩) 16 = some ⟨b, off, cap⟩ := by
      unfold Mu.add; rw [if_neg (by omega), if_pos rfl]
    generalize (((muG 8).add 16 ⟨b, off, cap⟩).add 17 ⟨0, 0, 0⟩) = m0 at r8 hG0 ha h16
    refine calls_of_wp fnOf hasBody ?_
    have hT0 : TRel m0 178 (s0 (opV k s1 s2 s3 s4 s5 s6 fr mo) VV).1 (#[opV k s1 s2 s3 s4 s5 s6 fr mo, v1] ++ Array.replicate (Tryd.f8.ntmps - #[opV k s1 s2 s3 s4 s5 s6 fr mo, v1].size) undef) := initT_rel (n := 178) ha (show 2 ≤ 178 by decide)
    cases begins b1 b2 fr with
    | bad p q h hn1 hn2 =>
      exact retK klok plB okB rfl (map_mem (begin_bad k fr mo s1 s2 s3 s4 s5 s6 VV) (p, q) h) rfl (revN_ok _ _ (NotedOk.app (NotedOk.app hn1 hn2) (NotedOk.cons fanReads.j15 NotedOk.nil)) NotedOk.nil) hT0 r8 hG0 rfl fun a' w' h => h
    | good n hn hf l1 l2 hn1 hn2 =>
      subst hf
      have hah := fun jt jh => begin_good k mo n s1 s2 s3 s4 s5 s6 VV jt jh
      obtain ⟨p1, p⟩ := Prod.mk.inj (hah (fun _ => undef) (fun _ _ => undef))
      obtain ⟨p2, p⟩ := Prod.mk.inj p
      obtain ⟨p3, p⟩ := Prod.mk.inj p
      obtain ⟨p4, _⟩ := Prod.mk.inj p
      have hs2 := fun jt jh => (Prod.mk.inj (Prod.mk.inj (Prod.mk.inj (Prod.mk.inj (hah jt jh)).2).2).2).2
      refine partX (n := 178) (k0 := 17) klok k0 (y := y1 (opV k s1 s2 s3 s4 s5 s6 (.ofNat n) mo) VV (newT 3 ++ refT 4)) rfl p1 (by rw [p2]; exact revN_ok _ _ (NotedOk.app hn1 hn2) NotedOk.nil) hT0 r8 hG0 (by show 17 ≤ hp0.next; rw [e1']; omega) ?_
      intro m1 a1 w1 x1 g1 t1 d1 q1
      rw [d5, e1]
      refine wp_seq (partX (n := 178) (k0 := 17) klok k1 (y := y2 (opV k s1 s2 s3 s4 s5 s6 (.ofNat n) mo) VV (newT 3 ++ refT 4)) rfl p3 (by rw [p4]; exact NotedOk.nil) t1 q1 g1 (nextY _ _ _ _ _ _ _ _ _ _) ?_)
      intro m2 a2 w2 x2 g2 t2 d2 q2
      rw [e2]
      have hvx : FixV (sh 19 21).σ VV := by
        rcases hform with rfl | ⟨N, c, rfl⟩
        · exact FixV.flat rfl
        · exact ev.vs_fix rfl
      obtain ⟨m3, j3, _, g3, t3, q3, x3⟩ := canonW (S := sh 19 21) (S2 := fun jt _ => SP VV .dead .dead ⟨s1, s2, n, 0, false⟩ 0 jt) (fun _ => rfl) (fun jt _ y h => by
        have hy : (Nat.beq y 5 || (Nat.beq y 16 || Nat.beq y 17)) = true := h
        simp only [Bool.or_eq_true, Nat.beq_eq] at hy
        obtain ⟨q5, r⟩ := Prod.mk.inj (atP VV .dead .dead ⟨s1, s2, n, 0, false⟩ 0 jt)
        obtain ⟨q16, r⟩ := Prod.mk.inj r
        obtain ⟨q17, _⟩ := Prod.mk.inj r
        rcases hy with rfl | rfl | rfl
        · rw [q5]; exact ev.tbl_fix
        · rw [q16]; exact FixO.of_one (.inl rfl)
        · rw [q17]; exact FixO.of_one (.inl rfl)) (fun jt _ y h => by
        obtain rfl := Nat.eq_of_beq_eq_true (show Nat.beq y 1 = true from h)
        obtain ⟨_, r⟩ := Prod.mk.inj (atP VV .dead .dead ⟨s1, s2, n, 0, false⟩ 0 jt)
        obtain ⟨_, r⟩ := Prod.mk.inj r
        obtain ⟨_, q1⟩ := Prod.mk.inj r
        rw [q1]; exact hvx) hs2 t2 q2 g2
      have h16' : m3 16 = some ⟨b, off, cap⟩ := (x3 16 16 rfl).trans ((x2 16 (by omega)).trans ((x1 16 (by omega)).trans h16))
      have hd : a2.defers = [] := by rw [d2, d1]
      have hb : Bd ⟨s1, s2, n, 0, false⟩ 0 := ⟨l1, l2, by dsimp only; omega, Nat.zero_le _⟩
      rcases hform with rfl | ⟨N, c, rfl⟩
      · exact wp_block (wp_loop_rounds 1 (by
          rw [rounds_succ]
          exact leaves (A := none) (.inl (Nat.zero_le 0)) t3 q3 g3 hd))
      · rcases hscr N c rfl with rfl | ⟨C, hs⟩
        · exact wp_block (wp_loop_rounds 1 (by
            rw [rounds_succ]
            exact leaves (.inl (Nat.zero_le 0)) t3 q3 g3 hd))
        · exact wp_block (wp_loop_rounds 201 (rounds hs 201 0 _ a2 w2 (by omega) (inv_of hb h16' g3 t3 q3) hd))
  cases hv with
  | nil => exact fin 0 0 0 (.slice none 0 0) (.nilSlice 0 0) (.inl rfl) (fun N c h => by cases h)
  | room0 ad => exact fin 0 0 0 (VS 0 0) (.slice0 16 0 ad) (.inr ⟨0, 0, rfl⟩) (fun N c h => by cases h; exact .inl rfl)
  | row b off N c C hc hs =>
    refine fin b off 0 (VS N c) (VRel.slice 16 0 N c ⟨b, off, 0⟩ ?_ hc) (.inr ⟨N, c, rfl⟩) (fun N' c' h => by cases h; exact .inr ⟨C, hs⟩)
    unfold Mu.add; rw [if_neg (by omega), if_pos rfl]
end Go.Proofs.YtbkgnlcjnimpcaaDoor.fanPlays
