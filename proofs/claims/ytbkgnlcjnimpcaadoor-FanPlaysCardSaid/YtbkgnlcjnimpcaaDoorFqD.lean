/- FanPlays: what is looked at of a call of the script: which way it goes. -/
import Derived.Test.YtbkgnlcjnimpcaaDoorFqB
namespace Go.Proofs.YtbkgnlcjnimpcaaDoor.fanPlays
open Go Go.Ab Go.RowKit Go.Proofs.YtbkgnlcjnimpcaaDoor.strs
open Go.Proofs.YtbkgnlcjnimpcaaDoor.strs.rf (ltP)
open Go.Proofs.YtbkgnlcjnimpcaaDoor.strs.uin (NotedOk.app)
set_option maxRecDepth 100000
theorem isI_t {a b : Int} (h : a = b) : isI a b true := congrArg Value.bool (by rw [intEq_eq, h]; exact beq_self_eq_true b)
theorem isI_f {a b : Int} (h : a ≠ b) : isI a b false := congrArg Value.bool (by rw [intEq_eq]; exact beq_eq_false_iff_ne.2 h)
theorem lt_t {a b : Int} (h : a < b) : ltP a b true := rf.lt_ok (by rw [intLt_eq]; exact decide_eq_true h)
theorem lt_f {a b : Int} (h : b ≤ a) : ltP a b false := rf.lt_ok (by rw [intLt_eq]; exact decide_eq_false (by omega))
theorem ge_t {a b : Int} (h : b ≤ a) : geP a b true := congrArg Value.bool (by rw [intLt_eq, decide_eq_false (by omega)]; rfl)
theorem ge_f {a b : Int} (h : a < b) : geP a b false := congrArg Value.bool (by rw [intLt_eq, decide_eq_true h]; rfl)
theorem intEq_self (a : Int) : intEq a a = true := by rw [intEq_eq]; exact beq_self_eq_true a
theorem ofN (n : Nat) : (Int.ofNat n : Int) = (n : Int) := rfl
theorem noSp_ok {sp : List UInt8} (h : lab sp = true) : noSp sp := congrArg Value.bool (fanReads.eq_nil (plain.lab_len h).1)
/-- What is asked fits, or where it does not. -/
theorem q_ways (e : El) (sp ch : List UInt8) : (∃ k, k < 5 ∧ NotedOk (qN e sp ch k)) ∨ ((∀ k, NotedOk (qN e sp ch (k + 5))) ∧ 0 ≤ e.fr ∧ e.fr ≤ 1073741824 ∧ 1 ≤ e.mo ∧ e.mo ≤ 64) := by
  cases ha : asked e sp ch with
  | false => exact .inl ⟨0, by omega, NotedOk.cons (congrArg Value.bool (by rw [ha]; rfl)) NotedOk.nil⟩
  | true =>
    have n0 : neP e sp ch false := congrArg Value.bool (by rw [ha]; rfl)
    by_cases h1 : e.fr < 0
    · exact .inl ⟨1, by omega, NotedOk.cons n0 (NotedOk.cons (lt_t h1) NotedOk.nil)⟩
    have n1 : ltP e.fr 0 false := lt_f (by omega)
    by_cases h2 : 1073741824 < e.fr
    · exact .inl ⟨2, by omega, NotedOk.cons n0 (NotedOk.cons n1 (NotedOk.cons (lt_t h2) NotedOk.nil))⟩
    have n2 : ltP 1073741824 e.fr false := lt_f (by omega)
    by_cases h3 : e.mo < 1
    · exact .inl ⟨3, by omega, NotedOk.cons n0 (NotedOk.cons n1 (NotedOk.cons n2 (NotedOk.cons (lt_t h3) NotedOk.nil)))⟩
    have n3 : ltP e.mo 1 false := lt_f (by omega)
    by_cases h4 : 64 < e.mo
    · exact .inl ⟨4, by omega, NotedOk.cons n0 (NotedOk.cons n1 (NotedOk.cons n2 (NotedOk.cons n3 (NotedOk.cons (lt_t h4) NotedOk.nil))))⟩
    have n4 : ltP 64 e.mo false := lt_f (by omega)
    exact .inr ⟨fun k => NotedOk.cons n0 (NotedOk.cons n1 (NotedOk.cons n2 (NotedOk.cons n3 (NotedOk.cons n4 NotedOk.nil)))), by omega, by omega, by omega, by omega⟩
noncomputable def smOf (e : El) : Int := wrapF .i64 (Int.add e.fr (.ofNat e.pn))
/-- What is answered fits, or where it does not. -/
theorem a_ways (e : El) : ∃ k, (k = 5 ∨ k = 6 ∨ k = 7 ∨ k = 8 ∨ k = 9 ∨ k = 10 ∨ k = 11 ∨ k = 12 ∨ k = 13) ∧ NotedOk (aN e (smOf e) k) ∧ NotedOk (dN e (smOf e) k) ∧ (k = 5 → e.er = 3) ∧ (k = 6 → e.er = 120) ∧ (k = 10 ∨ k = 13 → e.er = 0 ∧ (e.pn : Int) ≤ e.mo) := by
  by_cases h5 : e.er = 3
  · exact ⟨5, by omega, NotedOk.cons (isI_t h5) NotedOk.nil, NotedOk.cons (isI_t h5) NotedOk.nil, fun _ => h5, by omega, by omega⟩
  have n5 : isI e.er 3 false := isI_f h5
  by_cases h6 : e.er = 120
  · exact ⟨6, by omega, NotedOk.cons n5 (NotedOk.cons (isI_t h6) NotedOk.nil), NotedOk.cons n5 (NotedOk.cons (isI_t h6) NotedOk.nil), by omega, fun _ => h6, by omega⟩
  have n6 : isI e.er 120 false := isI_f h6
  by_cases h7 : e.er ≠ 0
  · exact ⟨7, by omega, NotedOk.cons n5 (NotedOk.cons n6 (NotedOk.cons (isI_f h7) NotedOk.nil)), NotedOk.cons n5 (NotedOk.cons n6 (NotedOk.cons (congrArg Value.bool (by rw [intEq_eq, beq_eq_false_iff_ne.2 h7]; rfl)) NotedOk.nil)), by omega, by omega, by omega⟩
  have h7 : e.er = 0 := by omega
  have n7 : isI e.er 0 true := isI_t h7
  have m7 : erP e false := congrArg Value.bool (by rw [h7]; rfl)
  by_cases h8 : e.mo < (e.pn : Int)
  · exact ⟨8, by omega, NotedOk.cons n5 (NotedOk.cons n6 (NotedOk.cons n7 (NotedOk.cons (ge_f h8) NotedOk.nil))), NotedOk.cons n5 (NotedOk.cons n6 (NotedOk.cons m7 (NotedOk.cons (lt_t h8) NotedOk.nil))), by omega, by omega, by omega⟩
  have n8 : geP e.mo (.ofNat e.pn) true := ge_t (by rw [ofN]; omega)
  have m8 : ltP e.mo (.ofNat e.pn) false := lt_f (by rw [ofN]; omega)
  by_cases h9 : 0 < e.pn
  · have n9 : ltP 0 (.ofNat e.pn) true := lt_t (by rw [ofN]; omega)
    have m9 : isI (.ofNat e.pn) 0 false := isI_f (by rw [ofN]; omega)
    by_cases h10 : e.rat = smOf e
    · exact ⟨10, by omega, NotedOk.cons n5 (NotedOk.cons n6 (NotedOk.cons n7 (NotedOk.cons n8 (NotedOk.cons n9 (NotedOk.cons rfl (NotedOk.cons (isI_t h10) NotedOk.nil)))))), NotedOk.cons n5 (NotedOk.cons n6 (NotedOk.cons m7 (NotedOk.cons m8 (NotedOk.cons m9 (NotedOk.cons rfl (NotedOk.cons (isI_t h10) NotedOk.nil)))))), by omega, by omega, fun _ => ⟨h7, by omega⟩⟩
    · exact ⟨9, by omega, NotedOk.cons n5 (NotedOk.cons n6 (NotedOk.cons n7 (NotedOk.cons n8 (NotedOk.cons n9 (NotedOk.cons rfl (NotedOk.cons (isI_f h10) (NotedOk.cons m9 NotedOk.nil))))))), NotedOk.cons n5 (NotedOk.cons n6 (NotedOk.cons m7 (NotedOk.cons m8 (NotedOk.cons m9 (NotedOk.cons rfl (NotedOk.cons (isI_f h10) NotedOk.nil)))))), by omega, by omega, by omega⟩
  · have n9 : ltP 0 (.ofNat e.pn) false := lt_f (by rw [ofN]; omega)
    have m9 : isI (.ofNat e.pn) 0 true := isI_t (by rw [ofN]; omega)
    by_cases h11 : e.rat < 0
    · exact ⟨11, by omega, NotedOk.cons n5 (NotedOk.cons n6 (NotedOk.cons n7 (NotedOk.cons n8 (NotedOk.cons n9 (NotedOk.cons m9 (NotedOk.cons (ge_f h11) NotedOk.nil)))))), NotedOk.cons n5 (NotedOk.cons n6 (NotedOk.cons m7 (NotedOk.cons m8 (NotedOk.cons m9 (NotedOk.cons (ge_f h11) NotedOk.nil))))), by omega, by omega, by omega⟩
    have n11 : geP e.rat 0 true := ge_t (by omega)
    by_cases h12 : e.fr < e.rat
    · exact ⟨12, by omega, NotedOk.cons n5 (NotedOk.cons n6 (NotedOk.cons n7 (NotedOk.cons n8 (NotedOk.cons n9 (NotedOk.cons m9 (NotedOk.cons n11 (NotedOk.cons (ge_f h12) NotedOk.nil))))))), NotedOk.cons n5 (NotedOk.cons n6 (NotedOk.cons m7 (NotedOk.cons m8 (NotedOk.cons m9 (NotedOk.cons n11 (NotedOk.cons (ge_f h12) NotedOk.nil)))))), by omega, by omega, by omega⟩
    have n12 : geP e.fr e.rat true := ge_t (by omega)
    exact ⟨13, by omega, NotedOk.cons n5 (NotedOk.cons n6 (NotedOk.cons n7 (NotedOk.cons n8 (NotedOk.cons n9 (NotedOk.cons m9 (NotedOk.cons n11 (NotedOk.cons n12 NotedOk.nil))))))), NotedOk.cons n5 (NotedOk.cons n6 (NotedOk.cons m7 (NotedOk.cons m8 (NotedOk.cons m9 (NotedOk.cons n11 (NotedOk.cons n12 NotedOk.nil)))))), by omega, by omega, fun _ => ⟨h7, by omega⟩⟩
theorem take_ok {e : El} {sp ch : List UInt8} {nx : Nat} {sm : Int} {k : Nat} (hs : lab sp = true) (hq : NotedOk (qN e sp ch k)) (ha : NotedOk (aN e sm k)) (hd : NotedOk (dN e sm k)) (hb : NotedOk (bN e nx k)) : NotedOk (takeN e sp ch nx sm k) :=
  NotedOk.app (NotedOk.app (NotedOk.app (NotedOk.app (NotedOk.app (NotedOk.cons (noSp_ok hs) hq) ha) hb) hq) hd) hb
/-- Where a call that takes goes. -/
inductive TakeWay (e : El) (sp ch : List UInt8) (nx : Nat) : Prop
  | plain (k : Nat) (sm : Int) (h : k ∈ plainK) (hl : NotedOk (takeN e sp ch nx sm k))
  | gone (hl : NotedOk (takeN e sp ch nx 0 5))
  | takes (k fr : Nat) (sm : Int) (h : k ∈ [10, 13]) (hf : e.fr = .ofNat fr) (hle : fr ≤ nx) (hpn : e.pn ≤ 64) (h1 : NotedOk (tk.hdN e sp ch nx k sm (min e.pn (nx - fr)))) (h2 : NotedOk (dk.hdN e sp ch nx k sm))
theorem min_ok {e : El} {nx fr : Nat} (hf : e.fr = .ofNat fr) (hle : fr ≤ nx) (hnx : nx < 8000000000) : pr (i64 (tk.minI e nx)) (e24 (min e.pn (nx - fr))) := by
  have hw : wrapF .i64 (Int.sub (.ofNat nx) e.fr) = .ofNat (nx - fr) := by
    have : Int.sub (.ofNat nx) e.fr = .ofNat (nx - fr) := by
      rw [hf]
      show (nx : Int) - (fr : Int) = ((nx - fr : Nat) : Int)
      omega
    rw [this, wbig (by omega)]
  show i64 _ = i64 _
  congr 1
  unfold tk.minI
  rw [hw]
  by_cases h : e.pn < nx - fr
  · rw [if_pos (by show (e.pn : Int) < ((nx - fr : Nat) : Int); omega), Nat.min_eq_left (by omega)]
  · rw [if_neg (by show ¬ (e.pn : Int) < ((nx - fr : Nat) : Int); omega), Nat.min_eq_right (by omega)]
theorem take_way (e : El) {sp ch : List UInt8} {nx : Nat} (hs : lab sp = true) (hnx : nx < 8000000000) : TakeWay e sp ch nx := by
  rcases q_ways e sp ch with ⟨k, hk, hq⟩ | ⟨hq, f0, f1, m0, m1⟩
  · have hk2 : k = 0 ∨ k = 1 ∨ k = 2 ∨ k = 3 ∨ k = 4 := by omega
    rcases hk2 with rfl | rfl | rfl | rfl | rfl
    all_goals exact .plain _ 0 (by unfold plainK; simp) (take_ok hs hq NotedOk.nil NotedOk.nil NotedOk.nil)
  obtain ⟨k, hk, ha, hd, e5, e6, e10⟩ := a_ways e
  obtain ⟨fr, hfr⟩ : ∃ fr : Nat, e.fr = .ofNat fr := ⟨e.fr.toNat, by rw [ofN]; omega⟩
  have last : ∀ k, (k = 10 ∨ k = 13) → NotedOk (aN e (smOf e) k) → NotedOk (dN e (smOf e) k) → (∀ h : nx < fr, NotedOk (bN e nx k)) → NotedOk (qN e sp ch k) → e.er = 0 → (e.pn : Int) ≤ e.mo → TakeWay e sp ch nx := by
    intro k hk ha hd hb hq h0 hp
    by_cases hlt : nx < fr
    · refine .plain k (smOf e) ?_ (take_ok hs hq ha hd (hb hlt))
      rcases hk with rfl | rfl <;> (unfold plainK; simp)
    · have n1 : isI e.er 3 false := isI_f (by rw [h0]; decide)
      have n2 : isI e.er 120 false := isI_f (by rw [h0]; decide)
      have n3 : ltP (.ofNat nx) e.fr false := lt_f (by rw [hfr, ofN, ofN]; omega)
      refine .takes k fr (smOf e) (by simp; omega) hfr (by omega) (by omega) ?_ ?_
      · exact NotedOk.app (NotedOk.app (NotedOk.cons (noSp_ok hs) hq) ha) (NotedOk.cons n1 (NotedOk.cons n2 (NotedOk.cons n3 (NotedOk.cons (min_ok hfr (by omega) hnx) NotedOk.nil))))
      · exact NotedOk.app (NotedOk.app hq hd) (NotedOk.cons n1 (NotedOk.cons n2 (NotedOk.cons n3 NotedOk.nil)))
  rcases hk with rfl | rfl | rfl | rfl | rfl | rfl | rfl | rfl | rfl
  · refine .gone (take_ok hs (hq 0) (NotedOk.cons (isI_t (e5 rfl)) NotedOk.nil) (NotedOk.cons (isI_t (e5 rfl)) NotedOk.nil) (NotedOk.cons (isI_t (e5 rfl)) NotedOk.nil))
  · have h := e6 rfl
    exact .plain 6 (smOf e) (by unfold plainK; simp) (take_ok hs (hq 1) ha hd (NotedOk.cons (isI_f (by rw [h]; decide)) (NotedOk.cons (isI_t h) NotedOk.nil)))
  · exact .plain 7 (smOf e) (by unfold plainK; simp) (take_ok hs (hq 2) ha hd NotedOk.nil)
  · exact .plain 8 (smOf e) (by unfold plainK; simp) (take_ok hs (hq 3) ha hd NotedOk.nil)
  · exact .plain 9 (smOf e) (by unfold plainK; simp) (take_ok hs (hq 4) ha hd NotedOk.nil)
  · obtain ⟨h0, hp⟩ := e10 (.inl rfl)
    exact last 10 (.inl rfl) ha hd (fun h => NotedOk.cons (isI_f (by rw [h0]; decide)) (NotedOk.cons (isI_f (by rw [h0]; decide)) (NotedOk.cons (lt_t (by rw [hfr, ofN, ofN]; omega)) NotedOk.nil))) (hq 5) h0 hp
  · exact .plain 11 (smOf e) (by unfold plainK; simp) (take_ok hs (hq 6) ha hd NotedOk.nil)
  · exact .plain 12 (smOf e) (by unfold plainK; simp) (take_ok hs (hq 7) ha hd NotedOk.nil)
  · obtain ⟨h0, hp⟩ := e10 (.inr rfl)
    exact last 13 (.inr rfl) ha hd (fun h => NotedOk.cons (isI_f (by rw [h0]; decide)) (NotedOk.cons (isI_f (by rw [h0]; decide)) (NotedOk.cons (lt_t (by rw [hfr, ofN, ofN]; omega)) NotedOk.nil))) (hq 8) h0 hp
end Go.Proofs.YtbkgnlcjnimpcaaDoor.fanPlays
/- FanPlays: a round, whatever the call is. -/
namespace Go.Proofs.YtbkgnlcjnimpcaaDoor.fanPlays
open Go Go.Ab Go.RowKit Go.Proofs.YtbkgnlcjnimpcaaDoor.strs
open Go.Proofs.YtbkgnlcjnimpcaaDoor.strs.rf (ltP textOf)
open Go.Proofs.YtbkgnlcjnimpcaaDoor.strs.uin (NotedOk.app)
open Go.Proofs.YtbkgnlcjnimpcaaDoor.fanPlays.tk (pP slP PostsAt normX)
open Go.Proofs.YtbkgnlcjnimpcaaDoor.fanPlays.dk (PostsAll inc_ok)
open Go.Proofs.YtbkgnlcjnimpcaaDoor.fanPlays.ev (HdOk Tk)
open Go.Proofs.YtbkgnlcjnimpcaaDoor.fanReads (kl klok crN eq_nil j35 jK)
set_option maxRecDepth 100000
theorem stepP {mkx : Marks} {p q N c i : Nat} {OS OP : AObj} {f f' : Fd} {j0 : Nat → Value} {tp : Ab.Tape} {lg : Noted} {R : RCC} {B : Base} {m : Mu} {a : Act} {w : World} {Q : Exit → Act → World → Prop} (hR : codeK kl mkx 8 lp (SP (VS N c) OS OP f i j0) tp = R)
    (hs : ∀ jt jh, (isN R, canonS (sh p q) 8 (stOf R) jt jh) = (some lg, some (SP (VS N c) OS OP f' (i + 1) jt))) (hl : NotedOk lg) (hos : FixO Tryd.prog (sh p q).σ OS) (hop : FixO Tryd.prog (sh p q).σ OP)
    (hT : TRel m 178 (SP (VS N c) OS OP f i j0).1 a.tmps) (hr : Rel Tryd.prog B m (SP (VS N c) OS OP f i j0).2 w) (hG : GRel 8 m)
    (hk : ∀ m' jt a' w', m' 16 = m 16 → GRel 8 m' → TRel m' 178 (SP (VS N c) OS OP f' (i + 1) jt).1 a'.tmps → a'.defers = a.defers → Rel Tryd.prog B m' (SP (VS N c) OS OP f' (i + 1) jt).2 w' → Q .normal a' w') : lp.wp Tryd.prog Q a w := by
  refine normX (n := 178) (k := 18) klok plL okL hR (Prod.mk.inj (hs j0 (fun _ _ => undef))).1 hl hT hr hG (Nat.le_refl 18) ?_
  intro m1 a1 w1 x1 g1 t1 d1 q1
  obtain ⟨m2, j2, g2, t2, q2, x2⟩ := reP hos hop (fun jt jh => (Prod.mk.inj (hs jt jh)).2) t1 q1 g1
  exact hk m2 j2 a1 w1 (x2.trans (x1 16 (by omega))) g2 t2 d1 q2
/-- What is known of the element. -/
structure HdE (N c : Nat) (OS : AObj) (i : Nat) (e : El) : Prop where
  lt : i < N
  most : i < 200
  at' : atS N c i
  ld : ldS OS i e
theorem hdN_ok {N c i : Nat} {OS : AObj} {e : El} (h : HdE N c OS i e) : NotedOk (hdN N c OS i e) :=
  NotedOk.cons (rf.ltn_ok (blt_t h.lt)) (NotedOk.cons (rf.ltn_ok (blt_t h.most)) (NotedOk.cons h.at' (NotedOk.cons h.ld NotedOk.nil)))
/-- What is known of its posts. -/
structure Po (OP : AObj) (e : El) : Prop where
  ex : ∃ (P : Nat → Nat) (us ts : Nat → List UInt8), (∀ i, i < e.pn → (iaB Tryd.prog 28).un (.slice e.pa e.pn e.pc) (e24 i) = some (pP (P i)) ∧ (ldO Tryd.prog 48).un OP (P i) = some (.agg ⟨[str (us i), str (ts i)]⟩)) ∧
    ∀ mm, mm ≤ e.pn → ∃ A d, slP e mm A (e.pn - mm) d ∧ (∀ σ, atOf σ 17 = some 17 → FixV σ (.slice A (e.pn - mm) d)) ∧ ∀ i, i < e.pn - mm → (iaB Tryd.prog 28).un (.slice A (e.pn - mm) d) (e24 i) = some (pP (P (mm + i)))
/-- The bounds. -/
structure Bd (f : Fd) (i : Nat) : Prop where
  hsp : lab f.sp = true
  hch : lab f.ch = true
  nx : f.nx ≤ 1073741824 + 64 * i
  td : f.td ≤ 64 * i
theorem ask_way {sp ch : List UInt8} (h : lab sp = true) (nx : Nat) (n : Int) : ∃ k, k ∈ [0, 1, 2] ∧ NotedOk (askN sp ch nx n k) := by
  have z := noSp_ok h
  by_cases h1 : n < 1
  · exact ⟨0, by simp, NotedOk.cons z (NotedOk.cons (lt_t h1) (NotedOk.cons (lt_t h1) (NotedOk.cons rfl NotedOk.nil)))⟩
  have n1 : ltP n 1 false := lt_f (by omega)
  by_cases h2 : 64 < n
  · exact ⟨1, by simp, NotedOk.cons z (NotedOk.cons n1 (NotedOk.cons (lt_t h2) (NotedOk.cons n1 (NotedOk.cons (lt_t h2) (NotedOk.cons rfl NotedOk.nil)))))⟩
  have n2 : ltP 64 n false := lt_f (by omega)
  refine ⟨2, by simp, NotedOk.cons z (NotedOk.cons n1 (NotedOk.cons n2 (NotedOk.cons n1 (NotedOk.cons n2 (NotedOk.cons ?_ NotedOk.nil)))))⟩
  have : sameOp sp ch nx n = true := by
    unfold sameOp
    rw [eqL_refl, eqL_refl, eq_yes, intEq_self n]
    rfl
  exact congrArg Value.bool (by rw [this]; rfl)
theorem cr_ok {sp ch : List UInt8} {n : Nat} (h1 : lab sp = true) (h2 : lab ch = true) (hn : n < 4294967296) : NotedOk (crN sp ch n (sp ++ [47]) (sp ++ [47] ++ ch) (sp ++ [47] ++ ch ++ [64]) (itoa n) (textOf sp ch n)) := by
  have b1 := plain.lab_len h1
  have b2 := plain.lab_len h2
  have b3 := (itoa_spec hn).1.len
  refine NotedOk.cons (congrArg Value.bool (eq_nil b1.1)) (NotedOk.cons (rf.cat_ok ?_) (NotedOk.cons (rf.cat_ok ?_) (NotedOk.cons (rf.cat_ok ?_) (NotedOk.cons (j35 hn) (NotedOk.cons (rf.cat_ok ?_) (NotedOk.cons (fanReads.ck_ok sp ch) NotedOk.nil))))))
  all_goals simp only [List.length_append, List.length_cons, List.length_nil]
  all_goals omega
theorem dc_ok {sp ch : List UInt8} {n : Nat} (h1 : lab sp = true) (h2 : lab ch = true) (hn : n < 4294967296) : NotedOk (dcN sp ch n (sp ++ [47]) (sp ++ [47] ++ ch) (sp ++ [47] ++ ch ++ [64]) (itoa n) (textOf sp ch n)) := by
  have b1 := plain.lab_len h1
  have b2 := plain.lab_len h2
  have b3 := (itoa_spec hn).1.len
  refine NotedOk.cons (rf.cat_ok ?_) (NotedOk.cons (rf.cat_ok ?_) (NotedOk.cons (rf.cat_ok ?_) (NotedOk.cons (j35 hn) (NotedOk.cons (rf.cat_ok ?_) (NotedOk.cons (rf.ck_ok sp ch) NotedOk.nil)))))
  all_goals simp only [List.length_append, List.length_cons, List.length_nil]
  all_goals omega
theorem eqs_ok (a : List UInt8) : rf.eqP a a false := congrArg Value.bool (by rw [eqL_refl]; rfl)
theorem cmp_ok (x : List UInt8) (td : Nat) : NotedOk (cmpN x td) := by
  refine NotedOk.cons (eqs_ok x) (NotedOk.cons (congrArg Value.bool (by rw [eq_yes]; rfl)) (NotedOk.cons ?_ NotedOk.nil))
  show ((veq 8 (e24 td) (e24 td) && true) && true) = true
  simp [veq, e24]
theorem cur_ok {N c i : Nat} {OS : AObj} {e : El} {sp ch : List UInt8} {nx td : Nat} (he : HdE N c OS i e) (h3 : e.kd = 3) (h1 : lab sp = true) (h2 : lab ch = true) (hn : nx < 4294967296) :
    NotedOk (curN N c OS i e sp ch nx td (sp ++ [47]) (sp ++ [47] ++ ch) (sp ++ [47] ++ ch ++ [64]) (itoa nx) (textOf sp ch nx)) :=
  NotedOk.app (NotedOk.app (NotedOk.app (NotedOk.app (hdN_ok he) (NotedOk.cons (isI_f (by rw [h3]; decide)) (NotedOk.cons (isI_f (by rw [h3]; decide)) (NotedOk.cons (isI_t h3) NotedOk.nil)))) (cr_ok h1 h2 hn)) (dc_ok h1 h2 hn)) (cmp_ok _ _)
theorem on_ok {sp ch : List UInt8} {nx : Nat} (h1 : lab sp = true) (h2 : lab ch = true) (hn : nx ≤ 1073741824) : NotedOk (onN sp (ch ++ [64] ++ itoa nx) ch (itoa nx) (sp ++ [47]) (sp ++ [47] ++ ch) (sp ++ [47] ++ ch ++ [64]) (itoa nx) (textOf sp ch nx) nx) := by
  have b1 := plain.lab_len h1
  have b2 := plain.lab_len h2
  have b3 := (itoa_spec (lt32 hn)).1.len
  have hg : plain.Good (textOf sp ch nx) sp ch nx := ⟨h1, h2, hn, rfl⟩
  have tlen : (textOf sp ch nx).length < BIG := by
    unfold textOf
    simp only [List.length_append, List.length_cons, List.length_nil]
    unfold BIG; omega
  have rlen : (ch ++ [64] ++ itoa nx).length < BIG := by
    simp only [List.length_append, List.length_cons, List.length_nil]
    unfold BIG; omega
  have c1 := plain.good_cut hg
  have c2 : cut.cutV 64 (ch ++ [64] ++ itoa nx) = cut.tupV ch (itoa nx) true := plain.cut_at (plain.lab_no h2).2
  have m36 : (47 : UInt8) ∈ [(47 : UInt8), 64] := by simp
  have m64 : (64 : UInt8) ∈ [(47 : UInt8), 64] := by simp
  have n1 := fanReads.j36 m36 tlen
  rw [c1] at n1
  have n2 := fanReads.j36 m64 rlen
  rw [c2] at n2
  have n3 := fanReads.j49 (l := itoa nx) (by unfold BIG; omega)
  rw [plain.atoi_itoa hn] at n3
  have n4 := fanReads.j32 (a := sp) (b := ch) (by unfold BIG; omega) (by unfold BIG; omega)
  rw [h1, h2] at n4
  exact NotedOk.app (NotedOk.app (NotedOk.app (NotedOk.app (NotedOk.cons (rf.ltn_ok (blt_f hn)) NotedOk.nil) (NotedOk.cons n1 (NotedOk.cons n2 (NotedOk.cons n3 NotedOk.nil)))) (NotedOk.cons n4 (NotedOk.cons (rf.lt_ok (lt_no (b := 0) (Nat.zero_le nx))) (NotedOk.cons (rf.ltn_ok (blt_f hn)) NotedOk.nil)))) (cr_ok h1 h2 (lt32 hn))) (NotedOk.cons (eqs_ok _) NotedOk.nil)
/-- A round. -/
theorem step {N c i : Nat} {OS OP : AObj} {f : Fd} {e : El} (hb : Bd f i) (he : HdE N c OS i e) (hx : Fx OS OP e) (hp : Po OP e) {j0 : Nat → Value} {B : Base} {m : Mu} {a : Act} {w : World} {Q : Exit → Act → World → Prop}
    (hT : TRel m 178 (SP (VS N c) OS OP f i j0).1 a.tmps) (hr : Rel Tryd.prog B m (SP (VS N c) OS OP f i j0).2 w) (hG : GRel 8 m)
    (hk : ∀ f' m' jt a' w', Bd f' (i + 1) → m' 16 = m 16 → GRel 8 m' → TRel m' 178 (SP (VS N c) OS OP f' (i + 1) jt).1 a'.tmps → a'.defers = a.defers → Rel Tryd.prog B m' (SP (VS N c) OS OP f' (i + 1) jt).2 w' → Q .normal a' w') : lp.wp Tryd.prog Q a w := by
  obtain ⟨sp, ch, nx, td, gone⟩ := f
  obtain ⟨hsp, hch, hnx, htd⟩ := hb
  have h200 := he.most
  dsimp only at hsp hch hnx htd
  have hin : NotedOk [incP i] := NotedOk.cons (inc_ok (by omega)) NotedOk.nil
  have b1 : ∀ g, Bd ⟨sp, ch, nx, td, g⟩ (i + 1) := fun g => ⟨hsp, hch, by dsimp only; omega, by dsimp only; omega⟩
  have fos : ∀ p q, FixO Tryd.prog (sh p q).σ OS := fun p q => hx.os _ rfl
  have fop : ∀ p q, FixO Tryd.prog (sh p q).σ OP := fun p q => hx.op _
  by_cases h1 : e.kd = 1
  · have n1 : NotedOk (hdN N c OS i e ++ [isI e.kd 1 true]) := NotedOk.app (hdN_ok he) (NotedOk.cons (isI_t h1) NotedOk.nil)
    cases gone with
    | true =>
      exact stepP (R := rndT N c OS OP ⟨sp, ch, nx, td, true⟩ i j0 e [F, e24 (i + 1)]) rfl (fun jt jh => r_was N c OS OP sp ch nx td i j0 jt jh e) (revN_ok _ _ (NotedOk.app (hdN_ok he) (NotedOk.cons (isI_t h1) (NotedOk.cons (noSp_ok hsp) hin))) NotedOk.nil) (fos 8 9) (fop 8 9) hT hr hG fun m' jt a' w' => hk _ m' jt a' w' (b1 true)
    | false =>
      cases take_way e (sp := sp) (ch := ch) (nx := nx) hsp (by omega) with
      | plain k sm h hl =>
        exact stepP (R := rndT N c OS OP ⟨sp, ch, nx, td, false⟩ i j0 e (takeT sm k ++ [e24 (i + 1)])) rfl (fun jt jh => map_mem (r_take N c OS OP sp ch nx td i j0 jt jh e sm) k h) (revN_ok _ _ (NotedOk.app (NotedOk.app n1 hl) hin) NotedOk.nil) (fos 8 9) (fop 8 9) hT hr hG fun m' jt a' w' => hk _ m' jt a' w' (b1 false)
      | gone hl =>
        exact stepP (R := rndT N c OS OP ⟨sp, ch, nx, td, false⟩ i j0 e (takeT 0 5 ++ [e24 (i + 1)])) rfl (fun jt jh => r_gone N c OS OP sp ch nx td i j0 jt jh e) (revN_ok _ _ (NotedOk.app (NotedOk.app n1 hl) hin) NotedOk.nil) (fos 8 9) (fop 8 9) hT hr hG fun m' jt a' w' => hk _ m' jt a' w' (b1 true)
      | takes k fr sm h hf hle hpn n2 n3 =>
        obtain ⟨P, us, ts, hp1, hp2⟩ := hp.ex
        obtain ⟨A, d, s1, s2, s3⟩ := hp2 (min e.pn (nx - fr)) (Nat.min_le_left _ _)
        have emm : e.pn - min e.pn (nx - fr) = e.pn - (nx - fr) := by omega
        rw [emm] at s1 s2 s3
        have tk : Tk N c OS OP i e sp ch nx td fr (nx - fr) k (min e.pn (nx - fr)) sm A d P us ts := by
          refine ⟨⟨he.lt, he.most, he.at', he.ld, h1⟩, hx, ⟨hpn, fun i hi => (hp1 i hi).1, fun i hi => (hp1 i hi).2⟩, ⟨by omega, fun i hi => ?_, fun i hi => (hp1 _ (by omega)).2⟩, s1, s2, hf, by omega, h, n2, n3, by omega, by omega⟩
          have := s3 i hi
          rw [show min e.pn (nx - fr) = nx - fr by omega] at this
          exact this
        exact ev.walk tk hT hr hG fun m' jt a' w' => hk _ m' jt a' w' ⟨hsp, hch, by dsimp only; omega, by dsimp only; omega⟩
  have i1 : isI e.kd 1 false := isI_f h1
  by_cases h2 : e.kd = 2
  · have i2 : isI e.kd 2 true := isI_t h2
    cases gone with
    | true =>
      exact stepP (R := rnd N c OS OP ⟨sp, ch, nx, td, true⟩ i j0 e [F, Tr, F, F, e24 (i + 1)]) rfl (fun jt jh => r_askG N c OS OP sp ch nx td i j0 jt jh e) (revN_ok _ _ (NotedOk.app (hdN_ok he) (NotedOk.cons i1 (NotedOk.cons i2 (NotedOk.cons (noSp_ok hsp) (NotedOk.cons rfl hin))))) NotedOk.nil) (fos 8 9) (fop 8 9) hT hr hG fun m' jt a' w' => hk _ m' jt a' w' (b1 true)
    | false =>
      obtain ⟨k, hk3, hl⟩ := ask_way (ch := ch) hsp nx e.nn
      exact stepP (R := rnd N c OS OP ⟨sp, ch, nx, td, false⟩ i j0 e (F :: Tr :: askT k ++ [e24 (i + 1)])) rfl (fun jt jh => map_mem (r_ask N c OS OP sp ch nx td i j0 jt jh e) k hk3) (revN_ok _ _ (NotedOk.app (NotedOk.app (NotedOk.app (hdN_ok he) (NotedOk.cons i1 (NotedOk.cons i2 NotedOk.nil))) hl) hin) NotedOk.nil) (fos 8 9) (fop 8 9) hT hr hG fun m' jt a' w' => hk _ m' jt a' w' (b1 false)
  have i2 : isI e.kd 2 false := isI_f h2
  by_cases h3 : e.kd ≠ 3
  · exact stepP (R := rnd N c OS OP ⟨sp, ch, nx, td, gone⟩ i j0 e [F, F, F, e24 (i + 1)]) rfl (fun jt jh => r_none N c OS OP ⟨sp, ch, nx, td, gone⟩ i j0 jt jh e) (revN_ok _ _ (NotedOk.app (hdN_ok he) (NotedOk.cons i1 (NotedOk.cons i2 (NotedOk.cons (isI_f h3) hin)))) NotedOk.nil) (fos 8 9) (fop 8 9) hT hr hG fun m' jt a' w' => hk _ m' jt a' w' (b1 gone)
  have h3 : e.kd = 3 := by omega
  have hc := cur_ok (td := td) he h3 hsp hch (show nx < 4294967296 by omega)
  cases gone with
  | true =>
    exact stepP (R := rnd N c OS OP ⟨sp, ch, nx, td, true⟩ i j0 e (curT (sp ++ [47]) (sp ++ [47] ++ ch) (sp ++ [47] ++ ch ++ [64]) (itoa nx) (textOf sp ch nx) ++ [e24 (i + 1)])) rfl (fun jt jh => r_curG N c OS OP sp ch _ _ _ _ _ nx td i j0 jt jh e) (revN_ok _ _ (NotedOk.app hc hin) NotedOk.nil) (fos 8 9) (fop 8 9) hT hr hG fun m' jt a' w' => hk _ m' jt a' w' (b1 true)
  | false =>
    by_cases hle : nx ≤ 1073741824
    · refine stepP (R := rC N c OS OP sp (ch ++ [64] ++ itoa nx) ch (itoa nx) (sp ++ [47]) (sp ++ [47] ++ ch) (sp ++ [47] ++ ch ++ [64]) (itoa nx) (textOf sp ch nx) nx td i j0 e) rfl (fun jt jh => r_cur N c OS OP sp _ ch _ _ _ _ _ _ nx td i j0 jt jh e) (revN_ok _ _ (NotedOk.app (NotedOk.app hc (on_ok hsp hch hle)) hin) NotedOk.nil) (fos _ 9) (fop _ 9) hT hr hG fun m' jt a' w' => hk _ m' jt a' w' ⟨hsp, hch, by dsimp only; omega, by dsimp only; omega⟩
    · exact stepP (R := rnd N c OS OP ⟨sp, ch, nx, td, false⟩ i j0 e (curT (sp ++ [47]) (sp ++ [47] ++ ch) (sp ++ [47] ++ ch ++ [64]) (itoa nx) (textOf sp ch nx) ++ [Tr, e24 (i + 1)])) rfl (fun jt jh => r_curB N c OS OP sp ch _ _ _ _ _ nx td i j0 jt jh e) (revN_ok _ _ (NotedOk.app hc (NotedOk.cons (rf.ltn_ok (a := 1073741824) (blt_t (show 1073741824 < nx by omega))) hin)) NotedOk.nil) (fos 8 9) (fop 8 9) hT hr hG fun m' jt a' w' => hk _ m' jt a' w' (b1 false)
end Go.Proofs.YtbkgnlcjnimpcaaDoor.fanPlays
