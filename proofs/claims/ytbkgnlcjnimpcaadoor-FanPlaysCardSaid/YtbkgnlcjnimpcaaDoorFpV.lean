/- FanPlays: the document's Take, walked. -/
import Derived.Test.YtbkgnlcjnimpcaaDoorFpS
namespace Go.Proofs.YtbkgnlcjnimpcaaDoor.fanPlays.dk
open Go Go.Ab Go.RowKit Go.Proofs.YtbkgnlcjnimpcaaDoor.strs Go.Proofs.YtbkgnlcjnimpcaaDoor.fanPlays
open Go.Proofs.YtbkgnlcjnimpcaaDoor.strs.dig (tblO)
open Go.Proofs.YtbkgnlcjnimpcaaDoor.fanPlays.tk (opE reE elO pP h2 evC stR normX exitX evs)
open Go.Proofs.YtbkgnlcjnimpcaaDoor.fanReads (kl klok)
set_option maxRecDepth 100000
theorem at5 (OS OP E1 : AObj) (g f0 f : Fd) (e : El) (i : Nat) (EV : Value) (EO : AObj) (jt : Nat → Value) : (US OS OP E1 g f0 f e i EV EO jt).2.get 5 = tblO := by kernel_rfl
theorem at16 (OS OP E1 : AObj) (g f0 f : Fd) (e : El) (i : Nat) (EV : Value) (EO : AObj) (jt : Nat → Value) : (US OS OP E1 g f0 f e i EV EO jt).2.get 16 = OS := by kernel_rfl
theorem at17 (OS OP E1 : AObj) (g f0 f : Fd) (e : El) (i : Nat) (EV : Value) (EO : AObj) (jt : Nat → Value) : (US OS OP E1 g f0 f e i EV EO jt).2.get 17 = OP := by kernel_rfl
theorem at18 (OS OP E1 : AObj) (g f0 f : Fd) (e : El) (i : Nat) (EV : Value) (EO : AObj) (jt : Nat → Value) : (US OS OP E1 g f0 f e i EV EO jt).2.get 18 = elO e := by kernel_rfl
theorem at19 (OS OP E1 : AObj) (g f0 f : Fd) (e : El) (i : Nat) (EV : Value) (EO : AObj) (jt : Nat → Value) : (US OS OP E1 g f0 f e i EV EO jt).2.get 19 = E1 := by kernel_rfl
theorem at22 (OS OP E1 : AObj) (g f0 f : Fd) (e : El) (i : Nat) (EV : Value) (EO : AObj) (jt : Nat → Value) : (US OS OP E1 g f0 f e i EV EO jt).2.get 22 = reO e := by kernel_rfl
theorem at24 (OS OP E1 : AObj) (g f0 f : Fd) (e : El) (i : Nat) (EV : Value) (EO : AObj) (jt : Nat → Value) : (US OS OP E1 g f0 f e i EV EO jt).2.get 24 = EO := by kernel_rfl
theorem reU {r o p z q : Nat} {OS OP E1 : AObj} {g f0 f : Fd} {e : El} {i : Nat} {EV : Value} {EO : AObj} {x : St} {B : Base} {m : Mu} {a : Act} {w : World}
    (h16 : FixO Tryd.prog (shD r o p z q).σ OS) (h17 : FixO Tryd.prog (shD r o p z q).σ OP) (h18 : FixO Tryd.prog (shD r o p z q).σ (elO e)) (h19 : FixO Tryd.prog (shD r o p z q).σ E1) (h22 : FixO Tryd.prog (shD r o p z q).σ (reO e)) (h24 : FixO Tryd.prog (shD r o p z q).σ EO)
    (hc : ∀ jt jh, canonS (shD r o p z q) 8 x jt jh = some (US OS OP E1 g f0 f e i EV EO jt)) (hT : TRel m 70 x.1 a.tmps) (hr : Rel Tryd.prog B m x.2 w) (hG : GRel 8 m) :
    ∃ m2 jt, GRel 8 m2 ∧ TRel m2 70 (US OS OP E1 g f0 f e i EV EO jt).1 a.tmps ∧ Rel Tryd.prog B m2 (US OS OP E1 g f0 f e i EV EO jt).2 w ∧ ∀ b, b < 20 → m2 b = m b := by
  obtain ⟨m2, jt, _, h1, h2, h3, h4⟩ := canonW (S := shD r o p z q) (S2 := fun jt _ => US OS OP E1 g f0 f e i EV EO jt) (fun _ => rfl) (fun jt _ y h => by
    have hy : (Nat.beq y 5 || (Nat.beq y 16 || (Nat.beq y 17 || (Nat.beq y 18 || (Nat.beq y 19 || (Nat.beq y 22 || Nat.beq y 24)))))) = true := h
    simp only [Bool.or_eq_true, Nat.beq_eq] at hy
    rcases hy with rfl | rfl | rfl | rfl | rfl | rfl | rfl
    · rw [at5]; exact FixO.of_one (.inr ⟨_, _, .inl rfl, fun i v hv => dig.tbl_plain.flat _ _ rfl i v hv⟩)
    · rw [at16]; exact h16
    · rw [at17]; exact h17
    · rw [at18]; exact h18
    · rw [at19]; exact h19
    · rw [at22]; exact h22
    · rw [at24]; exact h24) (fun jt _ i h => by cases (show false = true from h)) hc hT hr hG
  refine ⟨m2, jt, h1, h2, h3, fun b hb => h4 b b ?_⟩
  have : b = 0 ∨ b = 1 ∨ b = 2 ∨ b = 3 ∨ b = 4 ∨ b = 5 ∨ b = 6 ∨ b = 7 ∨ b = 8 ∨ b = 9 ∨ b = 10 ∨ b = 11 ∨ b = 12 ∨ b = 13 ∨ b = 14 ∨ b = 15 ∨ b = 16 ∨ b = 17 ∨ b = 18 ∨ b = 19 := by omega
  rcases this with rfl | rfl | rfl | rfl | rfl | rfl | rfl | rfl | rfl | rfl | rfl | rfl | rfl | rfl | rfl | rfl | rfl | rfl | rfl | rfl <;> rfl
theorem okL : codeOk 8 70 lp = true := by kernel_rfl
theorem okR : codeOk 8 70 rest = true := by kernel_rfl
theorem plL : plansOk Tryd.prog lp = true := by kernel_rfl
theorem plR : plansOk Tryd.prog rest = true := by kernel_rfl
def EVd : Nat → Value
  | 0 => .slice none 0 0
  | j + 1 => evD (j + 1)
def EOd (nx : Nat) (us ts : Nat → List UInt8) : Nat → AObj
  | 0 => .dead
  | j + 1 => .cells (evRow (evs nx us ts) j) 98
theorem fixE (nx : Nat) (us ts : Nat → List UInt8) (r o p z q : Nat) : ∀ j, FixO Tryd.prog (shD r o p z q).σ (EOd nx us ts j)
  | 0 => FixO.of_one (.inl rfl)
  | j + 1 => FixO.of_one (.inr ⟨_, _, .inr rfl, evRow_flat (fun _ => evC_flat _ _ _) j⟩)
/-- What is known of the posts. -/
structure PostsAll (OP : AObj) (e : El) (P : Nat → Nat) (us ts : Nat → List UInt8) : Prop where
  len : e.pn ≤ 64
  ix : ∀ i, i < e.pn → (iaB Tryd.prog 28).un (.slice e.pa e.pn e.pc) (e24 i) = some (pP (P i))
  ld : ∀ i, i < e.pn → (ldO Tryd.prog 48).un OP (P i) = some (.agg ⟨[str (us i), str (ts i)]⟩)
theorem inc_ok {i : Nat} (h : i < 1000) : incP i := congrArg i64 (wadd (a := i) (b := 1) (by omega))
theorem goN_ok {e : El} {fr i nx : Nat} {q : Bool} (he : e.fr = .ofNat fr) (hi : i < e.pn) (hf : fr + i < 9000000000) (hq : Nat.beq (fr + i) nx = q) : NotedOk (goN e i (.ofNat (fr + i)) nx q) := by
  refine NotedOk.cons (rf.ltn_ok (blt_t hi)) (NotedOk.cons ?_ (NotedOk.cons (congrArg Value.bool hq) NotedOk.nil))
  rw [he]
  exact congrArg i64 (wadd (by omega))
theorem evN_ok {OP : AObj} {e : El} {P : Nat → Nat} {us ts : Nat → List UInt8} (hp : PostsAll OP e P us ts) {i nx td : Nat} (hi : i < e.pn) (hnx : nx < 9000000000) (htd : td < 9000000000) {q : Noted} (hq : NotedOk q) : NotedOk (evN OP e i (P i) nx td (us i) (ts i) q) :=
  uin.NotedOk.app (uin.NotedOk.app (NotedOk.cons (hp.ix i hi) (NotedOk.cons (hp.ld i hi) NotedOk.nil)) hq) (NotedOk.cons (congrArg i64 (wadd (a := nx) (b := 1) (by omega))) (NotedOk.cons (congrArg i64 (wadd (a := td) (b := 1) (by omega))) NotedOk.nil))
noncomputable abbrev QG (B : Base) (m0 : Mu) (h' : AHeap) (v : Value) : Exit → Act → World → Prop := bodyPost Tryd.prog Tryd.f19 (Gave Tryd.prog B m0 20 h' 8 v)
noncomputable abbrev QL (B : Base) (m0 : Mu) (h' : AHeap) (v : Value) : Exit → Act → World → Prop := Exit.inBlock 0 (Exit.then (rest.wp Tryd.prog (QG B m0 h' v)) (QG B m0 h' v))
/-- So many events behind so many posts; 's': how many of them were told before. -/
theorem rounds {B : Base} {m0 : Mu} {OS OP E1 : AObj} {sp ch : List UInt8} {nx td fr s : Nat} {g f0 : Fd} {e : El} {P : Nat → Nat} {us ts : Nat → List UInt8} (hp : PostsAll OP e P us ts) (hnx : nx < 8000000000) (htd : td < 8000000000) (he : e.fr = .ofNat fr) (hs : nx = fr + s)
    (h16 : ∀ r o p z q, FixO Tryd.prog (shD r o p z q).σ OS) (h17 : ∀ r o p z q, FixO Tryd.prog (shD r o p z q).σ OP) (h18 : ∀ r o p z q, FixO Tryd.prog (shD r o p z q).σ (elO e)) (h19 : ∀ r o p z q, FixO Tryd.prog (shD r o p z q).σ E1) (h22 : ∀ r o p z q, FixO Tryd.prog (shD r o p z q).σ (reO e)) : ∀ (fuel i : Nat) (j0 : Nat → Value) (m : Mu) (a : Act) (w : World), e.pn - i < fuel → i ≤ e.pn → (∀ b, b < 20 → m b = m0 b) →
    TRel m 70 (US OS OP E1 g f0 ⟨sp, ch, nx + (i - s), td + (i - s), false⟩ e i (EVd (i - s)) (EOd nx (fun j => us (s + j)) (fun j => ts (s + j)) (i - s)) j0).1 a.tmps → Rel Tryd.prog B m (US OS OP E1 g f0 ⟨sp, ch, nx + (i - s), td + (i - s), false⟩ e i (EVd (i - s)) (EOd nx (fun j => us (s + j)) (fun j => ts (s + j)) (i - s)) j0).2 w → GRel 8 m → a.defers = [] →
    Code.rounds Tryd.prog lp (QL B m0 (h3 OS OP E1 g f0 ⟨sp, ch, nx + (e.pn - s), td + (e.pn - s), false⟩ e (EOd nx (fun j => us (s + j)) (fun j => ts (s + j)) (e.pn - s))) (.tuple ⟨[refV ⟨sp, ch, nx + (e.pn - s), td + (e.pn - s), false⟩, EVd (e.pn - s), e24 0]⟩)) fuel a w := by
  have h64 := hp.len
  intro fuel
  induction fuel with
  | zero => intro i j0 m a w h; omega
  | succ fuel ih =>
    intro i j0 m a w hf hi hm hT hr hG hd0
    rw [rounds_succ]
    by_cases hlt : i < e.pn
    · by_cases hsi : i < s
      · have e0 : i - s = 0 := by omega
        have e1 : i + 1 - s = 0 := by omega
        rw [e0] at hT hr
        have hr2 := fun jt jh => roundN OS OP E1 g f0 sp ch nx td i e (.ofNat (fr + i)) j0 jt jh
        refine normX (n := 70) (k := 20) klok plL okL rfl (Prod.mk.inj (hr2 j0 (fun _ _ => undef))).1 (revN_ok _ _ (uin.NotedOk.app (goN_ok he hlt (by omega) (by rw [Bool.eq_false_iff]; intro q; have := Nat.eq_of_beq_eq_true q; omega)) (NotedOk.cons (inc_ok (by omega)) NotedOk.nil)) NotedOk.nil) hT hr hG (by show 20 ≤ 25; omega) ?_
        intro m1 a1 w1 x1 g1 t1 d1 q1
        obtain ⟨m2, j2, g2, t2, q2, x2⟩ := reU (h16 _ _ _ _ _) (h17 _ _ _ _ _) (h18 _ _ _ _ _) (h19 _ _ _ _ _) (h22 _ _ _ _ _) (FixO.of_one (.inl rfl)) (fun jt jh => (Prod.mk.inj (hr2 jt jh)).2) t1 q1 g1
        refine ih (i + 1) j2 m2 a1 w1 (by omega) (by omega) (fun b hb => (x2 b hb).trans ((x1 b hb).trans (hm b hb))) ?_ ?_ g2 (d1.trans hd0)
        · rw [e1]; exact t2
        · rw [e1]; exact q2
      · obtain ⟨j, rfl⟩ : ∃ j, i = s + j := ⟨i - s, by omega⟩
        rw [show s + j - s = j by omega] at hT hr
        have e1 : s + j + 1 - s = j + 1 := by omega
        have hb : Nat.beq (fr + (s + j)) (nx + j) = true := by
          rw [show nx + j = fr + (s + j) by omega]; exact Nat.beq_refl _
        cases j with
        | zero =>
          have hr2 := fun jt jh => round0 OS OP E1 g f0 sp ch (us (s + 0)) (ts (s + 0)) nx td (s + 0) (P (s + 0)) e (.ofNat (fr + (s + 0))) j0 jt jh
          refine normX (n := 70) (k := 20) klok plL okL rfl (Prod.mk.inj (hr2 j0 (fun _ _ => undef))).1 (revN_ok _ _ (uin.NotedOk.app (uin.NotedOk.app (goN_ok he hlt (by omega) hb) (evN_ok hp hlt (by omega) (by omega) (NotedOk.cons ⟨rfl, rfl, rfl⟩ NotedOk.nil))) (NotedOk.cons (inc_ok (by omega)) NotedOk.nil)) NotedOk.nil) hT hr hG (by show 20 ≤ 25; omega) ?_
          intro m1 a1 w1 x1 g1 t1 d1 q1
          obtain ⟨m2, j2, g2, t2, q2, x2⟩ := reU (h16 _ _ _ _ _) (h17 _ _ _ _ _) (h18 _ _ _ _ _) (h19 _ _ _ _ _) (h22 _ _ _ _ _) (fixE nx (fun j => us (s + j)) (fun j => ts (s + j)) _ _ _ _ _ 1) (fun jt jh => (Prod.mk.inj (hr2 jt jh)).2) t1 q1 g1
          refine ih (s + 0 + 1) j2 m2 a1 w1 (by omega) (by omega) (fun b hb => (x2 b hb).trans ((x1 b hb).trans (hm b hb))) ?_ ?_ g2 (d1.trans hd0)
          · rw [e1]; exact t2
          · rw [e1]; exact q2
        | succ j =>
          have hr2 := fun jt jh => roundS OS OP E1 g f0 sp ch (us (s + (j + 1))) (ts (s + (j + 1))) (nx + (j + 1)) (td + (j + 1)) (s + (j + 1)) (P (s + (j + 1))) j e (.ofNat (fr + (s + (j + 1)))) (evRow (evs nx (fun j => us (s + j)) (fun j => ts (s + j))) j) j0 jt jh
          refine normX (n := 70) (k := 20) klok plL okL rfl (Prod.mk.inj (hr2 j0 (fun _ _ => undef))).1 (revN_ok _ _ (uin.NotedOk.app (uin.NotedOk.app (goN_ok he hlt (by omega) hb) (evN_ok hp hlt (by omega) (by omega) (NotedOk.cons (app_ok (fun _ => rfl) (by omega)) NotedOk.nil))) (NotedOk.cons (inc_ok (by omega)) NotedOk.nil)) NotedOk.nil) hT hr hG (by show 20 ≤ 25; omega) ?_
          intro m1 a1 w1 x1 g1 t1 d1 q1
          obtain ⟨m2, j2, g2, t2, q2, x2⟩ := reU (h16 _ _ _ _ _) (h17 _ _ _ _ _) (h18 _ _ _ _ _) (h19 _ _ _ _ _) (h22 _ _ _ _ _) (fixE nx (fun j => us (s + j)) (fun j => ts (s + j)) _ _ _ _ _ (j + 2)) (fun jt jh => (Prod.mk.inj (hr2 jt jh)).2) t1 q1 g1
          refine ih (s + (j + 1) + 1) j2 m2 a1 w1 (by omega) (by omega) (fun b hb => (x2 b hb).trans ((x1 b hb).trans (hm b hb))) ?_ ?_ g2 (d1.trans hd0)
          · rw [e1]; exact t2
          · rw [e1]; exact q2
    · obtain rfl : i = e.pn := by omega
      have fin : ∀ (n c : Nat) (A : Option Addr) (EO : AObj) (nx' td' : Nat), TRel m 70 (US OS OP E1 g f0 ⟨sp, ch, nx', td', false⟩ e e.pn (.slice A n c) EO j0).1 a.tmps → Rel Tryd.prog B m (US OS OP E1 g f0 ⟨sp, ch, nx', td', false⟩ e e.pn (.slice A n c) EO j0).2 w →
          lp.wp Tryd.prog (Exit.then (Code.rounds Tryd.prog lp (QL B m0 (h3 OS OP E1 g f0 ⟨sp, ch, nx', td', false⟩ e EO) (.tuple ⟨[refV ⟨sp, ch, nx', td', false⟩, .slice A n c, e24 0]⟩)) fuel) (QL B m0 (h3 OS OP E1 g f0 ⟨sp, ch, nx', td', false⟩ e EO) (.tuple ⟨[refV ⟨sp, ch, nx', td', false⟩, .slice A n c, e24 0]⟩))) a w := by
        intro n c A EO nx' td' hT hr
        obtain ⟨p1, p⟩ := Prod.mk.inj (ends OS OP E1 g f0 sp ch nx' td' e.pn n c A e EO j0)
        obtain ⟨p2, p3⟩ := Prod.mk.inj p
        refine exitX (n := 70) (k := 20) klok plL okL (R := over OS OP E1 g f0 ⟨sp, ch, nx', td', false⟩ e e.pn (.slice A n c) EO j0) rfl p1 (NotedOk.cons (rf.ltn_ok (blt_f (Nat.le_refl _))) NotedOk.nil) hT hr hG (by show 20 ≤ 25; omega) ?_
        intro m1 a1 w1 x1 g1 t1 d1 q1
        show rest.wp Tryd.prog (QG B m0 _ _) a1 w1
        exact retG (n := 70) (k := 20) klok plR okR (R := last OS OP E1 g f0 ⟨sp, ch, nx', td', false⟩ e e.pn (.slice A n c) EO j0) rfl p2 p3 NotedOk.nil t1 q1 g1 (d1.trans hd0) (fun b hb => (x1 b hb).trans (hm b hb)) (by show 20 ≤ 25; omega) (fun a' w' h => h)
      revert hT hr
      generalize e.pn - s = j
      intro hT hr
      cases j with
      | zero => exact fin 0 0 none .dead _ _ hT hr
      | succ j => exact fin (j + 1) OPEN _ _ _ _ hT hr
theorem hasFn : Tryd.prog.funcs[19]? = some Tryd.f19 := by kernel_rfl
theorem hasTmps : Tryd.f19.ntmps = 70 := by kernel_rfl
theorem k0 : partsOk Tryd.prog 8 70 7 body = true := by kernel_rfl
theorem k1 : partsOk Tryd.prog 8 70 1 ini = true := by kernel_rfl
theorem e1 : c7 = .seq ini rest := by kernel_rfl
theorem e2 : dropN 1 ini = .block 0 (.loop lp) := by kernel_rfl
theorem d7 : dropN 7 body = c7 := by kernel_rfl
theorem nextOk (OS OP E1 : AObj) (g : Fd) (sp ch : List UInt8) (nx td : Nat) (sm : Int) (e : El) : [10, 13].map (fun k => Nat.ble 20 (w1 OS OP E1 g ⟨sp, ch, nx, td, false⟩ e (hdT k sm)).s.2.next) = [10, 13].map (fun _ => true) := by kernel_rfl
theorem walk {B : Base} {m : Mu} {w : World} {args : Array Value} {OS OP E1 : AObj} {sp ch : List UInt8} {nx td fr s k : Nat} {sm : Int} {g : Fd} {e : El} {P : Nat → Nat} {us ts : Nat → List UInt8} (hp : PostsAll OP e P us ts) (hnx : nx < 8000000000) (htd : td < 8000000000) (he : e.fr = .ofNat fr) (hs : nx = fr + s)
    (h16 : ∀ r o p z q, FixO Tryd.prog (shD r o p z q).σ OS) (h17 : ∀ r o p z q, FixO Tryd.prog (shD r o p z q).σ OP) (h18 : ∀ r o p z q, FixO Tryd.prog (shD r o p z q).σ (elO e)) (h19 : ∀ r o p z q, FixO Tryd.prog (shD r o p z q).σ E1) (h22 : ∀ r o p z q, FixO Tryd.prog (shD r o p z q).σ (reO e))
    (hk : k ∈ [10, 13]) (hl : NotedOk (hdN e sp ch nx k sm))
    (ha : ARel m ⟨[refV ⟨sp, ch, nx, td, false⟩, opE e, reE e]⟩ args) (hr : Rel Tryd.prog B m (h2 OS OP g ⟨sp, ch, nx, td, false⟩ e E1) w) (hG : GRel 8 m) :
    Calls Tryd.prog 19 args w (Gave Tryd.prog B m 20 (h3 OS OP E1 g ⟨sp, ch, nx, td, false⟩ ⟨sp, ch, nx + (e.pn - s), td + (e.pn - s), false⟩ e (EOd nx (fun j => us (s + j)) (fun j => ts (s + j)) (e.pn - s))) 8 (.tuple ⟨[refV ⟨sp, ch, nx + (e.pn - s), td + (e.pn - s), false⟩, EVd (e.pn - s), e24 0]⟩)) := by
  refine calls_of_wp hasFn hasBody ?_
  rw [hasTmps]
  have hT0 := initT_rel (n := 70) ha (by show 3 ≤ 70; omega)
  have hah := fun jt jh => map_mem (ahead OS OP E1 g sp ch nx td sm e jt jh) k hk
  obtain ⟨p1, p⟩ := Prod.mk.inj (hah (fun _ => undef) (fun _ _ => undef))
  obtain ⟨p2, p⟩ := Prod.mk.inj p
  obtain ⟨p3, p⟩ := Prod.mk.inj p
  obtain ⟨p4, _⟩ := Prod.mk.inj p
  refine partX (n := 70) (k0 := 20) klok k0 (y := w1 OS OP E1 g ⟨sp, ch, nx, td, false⟩ e (hdT k sm)) rfl p1 (by rw [p2]; exact revN_ok _ _ hl NotedOk.nil) hT0 hr hG (Nat.le_refl 20) ?_
  intro m1 a1 w1' x1 g1 t1 d1 q1
  rw [d7, e1]
  refine wp_seq (partX (n := 70) (k0 := 20) klok k1 (y := w2 OS OP E1 g ⟨sp, ch, nx, td, false⟩ e (hdT k sm)) rfl p3 (by rw [p4]; exact NotedOk.nil) t1 q1 g1 (Nat.le_of_ble_eq_true (map_mem (nextOk OS OP E1 g sp ch nx td sm e) k hk)) ?_)
  intro m2 a2 w2' x2 g2 t2 d2 q2
  rw [e2]
  obtain ⟨m3, j3, g3, t3, q3, x3⟩ := reU (h16 _ _ _ _ _) (h17 _ _ _ _ _) (h18 _ _ _ _ _) (h19 _ _ _ _ _) (h22 _ _ _ _ _) (FixO.of_one (.inl rfl)) (fun jt jh => (Prod.mk.inj (Prod.mk.inj (Prod.mk.inj (Prod.mk.inj (hah jt jh)).2).2).2).2) t2 q2 g2
  refine wp_block (wp_loop_rounds (e.pn + 1) (rounds hp hnx htd he hs h16 h17 h18 h19 h22 (e.pn + 1) 0 j3 m3 a2 w2' (by omega) (Nat.zero_le _) (fun b hb => (x3 b hb).trans ((x2 b hb).trans (x1 b hb))) ?_ ?_ g3 (by rw [d2, d1])))
  · rw [Nat.zero_sub]; exact t3
  · rw [Nat.zero_sub]; exact q3
end Go.Proofs.YtbkgnlcjnimpcaaDoor.fanPlays.dk
