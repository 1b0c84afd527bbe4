/- FanPlays: the program's Take: its loop, walked to its end. -/
import Derived.Test.YtbkgnlcjnimpcaaDoorFpP
namespace Go.Proofs.YtbkgnlcjnimpcaaDoor.fanPlays.tk
open Go Go.Ab Go.RowKit Go.Proofs.YtbkgnlcjnimpcaaDoor.strs Go.Proofs.YtbkgnlcjnimpcaaDoor.fanPlays
open Go.Proofs.YtbkgnlcjnimpcaaDoor.fanReads (kl klok)
set_option maxRecDepth 100000
noncomputable abbrev QG (B : Base) (m0 : Mu) (h' : AHeap) (v : Value) : Exit → Act → World → Prop := bodyPost Tryd.prog Tryd.f13 (Gave Tryd.prog B m0 19 h' 8 v)
noncomputable abbrev QL (B : Base) (m0 : Mu) (h' : AHeap) (v : Value) : Exit → Act → World → Prop := Exit.inBlock 1 (Exit.then (rest.wp Tryd.prog (QG B m0 h' v)) (QG B m0 h' v))
theorem normX {kn : Known} {mk : Marks} {f n k : Nat} {c : Code} {s : St} {tp : Ab.Tape} {lg : Noted} {B : Base} {m : Mu} {a : Act} {w : World} {Q : Exit → Act → World → Prop} (hk : Kok kn) (hp : plansOk Tryd.prog c = true) (hok : codeOk 8 n c = true) {R : RCC} (hR : codeK kn mk f c s tp = R) (hx : isN R = some lg) (hl : NotedOk lg) (hT : TRel m n s.1 a.tmps) (hr : Rel Tryd.prog B m s.2 w) (hG : GRel 8 m) (hkn : k ≤ s.2.next)
    (hQ : ∀ m' a' w', (∀ b, b < k → m' b = m b) → GRel 8 m' → TRel m' n (stOf R).1 a'.tmps → a'.defers = a.defers → Rel Tryd.prog B m' (stOf R).2 w' → Q .normal a' w') : c.wp Tryd.prog Q a w := by
  obtain ⟨tp', hx'⟩ := norm_of hx
  exact oneE_wp (n := n) (mk := mk f) (K := 1000) (e := .normal) (s := s) (s' := stOf R) entersOk zerosOk (CBkok hk) (CCkok kn mk) (DCkok kn mk) (DBkok hk) hp hok (hR.trans hx') hl hT hr hG fun m' a' w' x g t d q => hQ m' a' w' (fun b hb => x.2 b (.inl (by omega))) g t d q
theorem exitX {kn : Known} {mk : Marks} {f n k : Nat} {c : Code} {s : St} {tp : Ab.Tape} {lg : Noted} {B : Base} {m : Mu} {a : Act} {w : World} {Q : Exit → Act → World → Prop} (hk : Kok kn) (hp : plansOk Tryd.prog c = true) (hok : codeOk 8 n c = true) {R : RCC} {id : Nat} (hR : codeK kn mk f c s tp = R) (hx : isX R = some (id, lg)) (hl : NotedOk lg) (hT : TRel m n s.1 a.tmps) (hr : Rel Tryd.prog B m s.2 w) (hG : GRel 8 m) (hkn : k ≤ s.2.next)
    (hQ : ∀ m' a' w', (∀ b, b < k → m' b = m b) → GRel 8 m' → TRel m' n (stOf R).1 a'.tmps → a'.defers = a.defers → Rel Tryd.prog B m' (stOf R).2 w' → Q (.exit id) a' w') : c.wp Tryd.prog Q a w := by
  obtain ⟨tp', hx'⟩ := exit_of hx
  exact oneE_wp (n := n) (mk := mk f) (K := 1000) (e := .exit id) (s := s) (s' := stOf R) entersOk zerosOk (CBkok hk) (CCkok kn mk) (DCkok kn mk) (DBkok hk) hp hok (hR.trans hx') hl hT hr hG fun m' a' w' x g t d q => hQ m' a' w' (fun b hb => x.2 b (.inl (by omega))) g t d q
end Go.Proofs.YtbkgnlcjnimpcaaDoor.fanPlays.tk
/- FanPlays: the program's Take: its loop, walked to its end. -/
namespace Go.Proofs.YtbkgnlcjnimpcaaDoor.fanPlays.tk
open Go Go.Ab Go.RowKit Go.Proofs.YtbkgnlcjnimpcaaDoor.strs Go.Proofs.YtbkgnlcjnimpcaaDoor.fanPlays
open Go.Proofs.YtbkgnlcjnimpcaaDoor.fanReads (kl klok)
set_option maxRecDepth 100000
theorem rounds {B : Base} {m0 : Mu} {OS OP : AObj} {sp ch : List UInt8} {nx td n c : Nat} {f0 : Fd} {e : El} {A : Option Addr} {P : Nat → Nat} {us ts : Nat → List UInt8} (hp : PostsAt OP A n c P us ts) (hnx : nx < 8000000000) (htd : td < 8000000000)
    (h16 : ∀ q, FixO Tryd.prog (shT q).σ OS) (h17 : ∀ q, FixO Tryd.prog (shT q).σ OP) (h18 : ∀ q, FixO Tryd.prog (shT q).σ (elO e)) (h63 : ∀ q, FixV (shT q).σ (.slice A n c)) : ∀ (fuel j : Nat) (j0 : Nat → Value) (m : Mu) (a : Act) (w : World), n - j < fuel → j ≤ n → (∀ b, b < 19 → m b = m0 b) →
    TRel m 96 (TS OS OP ⟨sp, ch, nx + j, td, false⟩ f0 e A n c j (EVj j) (EOj nx us ts j) j0).1 a.tmps → Rel Tryd.prog B m (TS OS OP ⟨sp, ch, nx + j, td, false⟩ f0 e A n c j (EVj j) (EOj nx us ts j) j0).2 w → GRel 8 m → a.defers = [] →
    Code.rounds Tryd.prog lp (QL B m0 (h2 OS OP ⟨sp, ch, nx + n, td + n, false⟩ f0 e (EOj nx us ts n)) (.tuple ⟨[EVj n, e24 0]⟩)) fuel a w := by
  have h64 := hp.len
  intro fuel
  induction fuel with
  | zero => intro j j0 m a w h; omega
  | succ fuel ih =>
    intro j j0 m a w hf hj hm hT hr hG hd0
    rw [rounds_succ]
    by_cases hlt : j < n
    · cases j with
      | zero =>
        have hs := fun jt jh => round0 OS OP sp ch (us 0) (ts 0) nx td (P 0) f0 e A n c j0 jt jh
        refine normX (n := 96) (k := 19) klok plL okL rfl (Prod.mk.inj (hs j0 (fun _ _ => undef))).1 (revN_ok _ _ (rdN_ok hp hlt (by omega) (NotedOk.cons ⟨rfl, rfl, rfl⟩ NotedOk.nil)) NotedOk.nil) hT hr hG (by show 19 ≤ 20; omega) ?_
        intro m1 a1 w1 x1 g1 t1 d1 q1
        obtain ⟨m2, j2, g2, t2, q2, x2⟩ := reT (h16 _) (h17 _) (h18 _) (fixE nx us ts _ 1) (h63 _) (fun jt jh => (Prod.mk.inj (hs jt jh)).2) t1 q1 g1
        exact ih 1 j2 m2 a1 w1 (by omega) (by omega) (fun b hb => (x2 b hb).trans ((x1 b hb).trans (hm b hb))) t2 q2 g2 (d1.trans hd0)
      | succ j =>
        have hs := fun jt jh => roundS OS OP sp ch (us (j + 1)) (ts (j + 1)) (nx + (j + 1)) td j (P (j + 1)) f0 e A n c (evRow (evs nx us ts) j) j0 jt jh
        refine normX (n := 96) (k := 19) klok plL okL rfl (Prod.mk.inj (hs j0 (fun _ _ => undef))).1 (revN_ok _ _ (rdN_ok hp hlt (by omega) (NotedOk.cons (app_ok (fun _ => rfl) (by omega)) NotedOk.nil)) NotedOk.nil) hT hr hG (by show 19 ≤ 20; omega) ?_
        intro m1 a1 w1 x1 g1 t1 d1 q1
        obtain ⟨m2, j2, g2, t2, q2, x2⟩ := reT (h16 _) (h17 _) (h18 _) (fixE nx us ts _ (j + 2)) (h63 _) (fun jt jh => (Prod.mk.inj (hs jt jh)).2) t1 q1 g1
        exact ih (j + 2) j2 m2 a1 w1 (by omega) (by omega) (fun b hb => (x2 b hb).trans ((x1 b hb).trans (hm b hb))) t2 q2 g2 (d1.trans hd0)
    · obtain rfl : j = n := by omega
      cases j with
      | zero =>
        obtain ⟨p1, p⟩ := Prod.mk.inj (ends0 OS OP sp ch nx td f0 e A 0 c j0)
        obtain ⟨p2, p3⟩ := Prod.mk.inj p
        refine exitX (n := 96) (k := 19) klok plL okL (R := over OS OP ⟨sp, ch, nx, td, false⟩ f0 e A 0 c 0 (.slice none 0 0) .dead j0) rfl p1 (NotedOk.cons (rf.ltn_ok (blt_f (Nat.le_refl _))) NotedOk.nil) hT hr hG (by show 19 ≤ 20; omega) ?_
        intro m1 a1 w1 x1 g1 t1 d1 q1
        show rest.wp Tryd.prog (QG B m0 _ _) a1 w1
        exact retG (n := 96) (k := 19) klok plR okR (R := last OS OP ⟨sp, ch, nx, td, false⟩ f0 e A 0 c 0 (.slice none 0 0) .dead j0) rfl p2 p3 (NotedOk.cons (congrArg i64 (wadd (a := td) (b := 0) (by omega))) NotedOk.nil) t1 q1 g1 (d1.trans hd0) (fun b hb => (x1 b hb).trans (hm b hb)) (by show 19 ≤ 20; omega) (fun a' w' h => h)
      | succ j =>
        obtain ⟨p1, p⟩ := Prod.mk.inj (endsS OS OP sp ch (nx + (j + 1)) td j f0 e A (j + 1) c (evRow (evs nx us ts) j) j0)
        obtain ⟨p2, p3⟩ := Prod.mk.inj p
        refine exitX (n := 96) (k := 19) klok plL okL (R := over OS OP ⟨sp, ch, nx + (j + 1), td, false⟩ f0 e A (j + 1) c (j + 1) (evV (j + 1)) (.cells (evRow (evs nx us ts) j) 50) j0) rfl p1 (NotedOk.cons (rf.ltn_ok (blt_f (Nat.le_refl _))) NotedOk.nil) hT hr hG (by show 19 ≤ 20; omega) ?_
        intro m1 a1 w1 x1 g1 t1 d1 q1
        show rest.wp Tryd.prog (QG B m0 _ _) a1 w1
        exact retG (n := 96) (k := 19) klok plR okR (R := last OS OP ⟨sp, ch, nx + (j + 1), td, false⟩ f0 e A (j + 1) c (j + 1) (evV (j + 1)) (.cells (evRow (evs nx us ts) j) 50) j0) rfl p2 p3 (NotedOk.cons (congrArg i64 (wadd (a := td) (b := j + 1) (by omega))) NotedOk.nil) t1 q1 g1 (d1.trans hd0) (fun b hb => (x1 b hb).trans (hm b hb)) (by show 19 ≤ 20; omega) (fun a' w' h => h)
end Go.Proofs.YtbkgnlcjnimpcaaDoor.fanPlays.tk
/- FanPlays: the first parts of a body, where it is told which numbers stay; the program's Take, walked. -/
namespace Go.Ab
open Go Go.RowKit
section
variable {P : Program} {G n : Nat} {enters : FuncId → FKind} {CB : CallB} {CC : CallC} {DB : DrawB} {DC : DrawC}
theorem goNX_wp (hE : Enters P enters) (hz : ZF P) (hC : CallSound P G (callOf CB)) (hCC : CallEq CB CC) (hDC : DrawEq DB DC) (hD : DrawGood P G (fun ops T h => (DB ops).un T h)) {mk : Mk} {K : Nat} {B : Base} {Q : Exit → Act → World → Prop} {k0 : Nat} : ∀ {k : Nat} {c : Code} {x y : SC} {m : Mu} {a : Act} {w : World},
    partsOk P G n k c = true → goNC P enters CB CC DC mk K k c x = y → y.ok = true → NotedOk y.lg → TRel m n x.s.1 a.tmps → Rel P B m x.s.2 w → GRel G m → k0 ≤ x.s.2.next →
    (∀ m' a' w', (∀ b, b < k0 → m' b = m b) → GRel G m' → TRel m' n y.s.1 a'.tmps → a'.defers = a.defers → Rel P B m' y.s.2 w' → (dropN k c).wp P Q a' w') → c.wp P Q a w := by
  intro k
  induction k with
  | zero => intro c x y m a w _ hx _ _ hT hr hG _ hk; subst hx; exact hk m a w (fun _ _ => rfl) hG hT rfl hr
  | succ k ih =>
    intro c x y m a w hp hx hok hl hT hr hG hn hk
    cases c with
    | seq c1 c2 =>
      simp only [partsOk, Bool.and_eq_true] at hp
      simp only [goNC] at hx
      have q := codeC_eq (P := P) (enters := enters) (DB := DB) hCC hDC mk K c1 x.s.1 x.s.2 x.tp x.lg
      revert hx q
      cases (codeC P enters CB CC DC mk K c1).un x.s.1 x.s.2 x.tp x.lg with
      | normal T h tp lg =>
        intro hx q
        have hlg := goNC_noted (P := P) (enters := enters) hCC hDC _ _ _ _ hx hok hl
        obtain ⟨q1, q2⟩ := codeB_sound (n := n) hE hz hC hD K c1 hp.1.1 _ _ .normal _ _ (q hlg).2
        refine wp_seq (q2 B m a w _ hp.1.2 hT hr hG ?_)
        intro m' a' w' d1 d2 d3 d4
        exact ih hp.2 hx hok hl d2 d4 (hG.mono d1.1) (Nat.le_trans hn q1.1) fun m2 a2 w2 e0 e1 e2 e3 e4 => hk m2 a2 w2 (fun b hb => (e0 b hb).trans (d1.2 b (.inl (by omega)))) e1 e2 (e3.trans d3) e4
      | _ => intro hx q; subst hx; cases hok
    | _ => simp only [goNC] at hx; subst hx; cases hok
end
end Go.Ab
namespace Go.Proofs.YtbkgnlcjnimpcaaDoor.fanPlays
open Go Go.Ab Go.RowKit Go.Proofs.YtbkgnlcjnimpcaaDoor.strs
set_option maxRecDepth 100000
theorem partX {kn : Known} {mk : Marks} {f n : Nat} {c : Code} {s : St} {tp : Ab.Tape} {B : Base} {m : Mu} {a : Act} {w : World} {Q : Exit → Act → World → Prop} (hk : Kok kn) {k k0 : Nat} (hp : partsOk Tryd.prog 8 n k c = true) {y : SC} (hy : partsK kn mk f k c s tp = y) (h1 : y.ok = true) (hl : NotedOk y.lg) (hT : TRel m n s.1 a.tmps) (hr : Rel Tryd.prog B m s.2 w) (hG : GRel 8 m) (hkn : k0 ≤ s.2.next)
    (hQ : ∀ m' a' w', (∀ b, b < k0 → m' b = m b) → GRel 8 m' → TRel m' n y.s.1 a'.tmps → a'.defers = a.defers → Rel Tryd.prog B m' y.s.2 w' → (dropN k c).wp Tryd.prog Q a' w') : c.wp Tryd.prog Q a w :=
  goNX_wp (n := n) (mk := mk f) (K := 1000) (k := k) (x := ⟨s, tp, [], true⟩) (y := y) entersOk zerosOk (CBkok hk) (CCkok kn mk) (DCkok kn mk) (DBkok hk) hp hy h1 hl hT hr hG hkn hQ
end Go.Proofs.YtbkgnlcjnimpcaaDoor.fanPlays
namespace Go.Proofs.YtbkgnlcjnimpcaaDoor.fanPlays.tk
open Go Go.Ab Go.RowKit Go.Proofs.YtbkgnlcjnimpcaaDoor.strs Go.Proofs.YtbkgnlcjnimpcaaDoor.fanPlays
open Go.Proofs.YtbkgnlcjnimpcaaDoor.fanReads (kl klok)
set_option maxRecDepth 100000
theorem hasBody : Tryd.f13.body = some body := by kernel_rfl
theorem hasFn : Tryd.prog.funcs[13]? = some Tryd.f13 := by kernel_rfl
theorem hasTmps : Tryd.f13.ntmps = 96 := by kernel_rfl
theorem k0 : partsOk Tryd.prog 8 96 5 body = true := by kernel_rfl
theorem k1 : partsOk Tryd.prog 8 96 1 ini = true := by kernel_rfl
theorem e1 : c5 = .seq ini rest := by kernel_rfl
theorem e2 : dropN 1 ini = .block 1 (.loop lp) := by kernel_rfl
theorem d5 : dropN 5 body = c5 := by kernel_rfl
theorem nextOk (OS OP : AObj) (sp ch : List UInt8) (nx td m : Nat) (sm : Int) (e : El) : [10, 13].map (fun k => Nat.ble 19 (w1 OS OP ⟨sp, ch, nx, td, false⟩ e (hdT k sm m)).s.2.next) = [10, 13].map (fun _ => true) := by kernel_rfl
theorem walk {B : Base} {m : Mu} {w : World} {args : Array Value} {OS OP : AObj} {sp ch : List UInt8} {nx td k n c mm : Nat} {sm : Int} {e : El} {A : Option Addr} {P : Nat → Nat} {us ts : Nat → List UInt8} (hp : PostsAt OP A n c P us ts) (hnx : nx < 8000000000) (htd : td < 8000000000)
    (h16 : ∀ q, FixO Tryd.prog (shT q).σ OS) (h17 : ∀ q, FixO Tryd.prog (shT q).σ OP) (h18 : ∀ q, FixO Tryd.prog (shT q).σ (elO e)) (h63 : ∀ q, FixV (shT q).σ (.slice A n c)) (hk : k ∈ [10, 13]) (hl : NotedOk (hdN e sp ch nx k sm mm)) (hs : slP e mm A n c)
    (ha : ARel m ⟨[ptrTo 8, opE e, reE e]⟩ args) (hr : Rel Tryd.prog B m (h1 OS OP ⟨sp, ch, nx, td, false⟩ e) w) (hG : GRel 8 m) :
    Calls Tryd.prog 13 args w (Gave Tryd.prog B m 19 (h2 OS OP ⟨sp, ch, nx + n, td + n, false⟩ ⟨sp, ch, nx, td, false⟩ e (EOj nx us ts n)) 8 (.tuple ⟨[EVj n, e24 0]⟩)) := by
  refine calls_of_wp hasFn hasBody ?_
  rw [hasTmps]
  have hT0 := initT_rel (n := 96) ha (by show 3 ≤ 96; omega)
  have hah := fun jt jh => map_mem (ahead OS OP sp ch nx td mm n c sm e A jt jh) k hk
  obtain ⟨p1, p⟩ := Prod.mk.inj (hah (fun _ => undef) (fun _ _ => undef))
  obtain ⟨p2, p⟩ := Prod.mk.inj p
  obtain ⟨p3, p⟩ := Prod.mk.inj p
  obtain ⟨p4, _⟩ := Prod.mk.inj p
  refine partX (n := 96) (k0 := 19) klok k0 (y := w1 OS OP ⟨sp, ch, nx, td, false⟩ e (hdT k sm mm)) rfl p1 (by rw [p2]; exact revN_ok _ _ hl NotedOk.nil) hT0 hr hG (Nat.le_refl 19) ?_
  intro m1 a1 w1' x1 g1 t1 d1 q1
  rw [d5, e1]
  refine wp_seq (partX (n := 96) (k0 := 19) klok k1 (y := w2 OS OP ⟨sp, ch, nx, td, false⟩ e (hdT k sm mm) [.slice A n c]) rfl p3 (by rw [p4]; exact NotedOk.cons hs NotedOk.nil) t1 q1 g1 (Nat.le_of_ble_eq_true (map_mem (nextOk OS OP sp ch nx td mm sm e) k hk)) ?_)
  intro m2 a2 w2' x2 g2 t2 d2 q2
  rw [e2]
  obtain ⟨m3, j3, g3, t3, q3, x3⟩ := reT (h16 _) (h17 _) (h18 _) (fixE nx us ts _ 0) (h63 _) (fun jt jh => (Prod.mk.inj (Prod.mk.inj (Prod.mk.inj (Prod.mk.inj (hah jt jh)).2).2).2).2) t2 q2 g2
  exact wp_block (wp_loop_rounds (n + 1) (rounds hp hnx htd h16 h17 h18 h63 (n + 1) 0 j3 m3 a2 w2' (by omega) (Nat.zero_le _) (fun b hb => (x3 b hb).trans ((x2 b hb).trans (x1 b hb))) t3 q3 g3 (by rw [d2, d1])))
end Go.Proofs.YtbkgnlcjnimpcaaDoor.fanPlays.tk
