/- FanPlays: a round that takes posts, walked: behind the program's. -/
import Derived.Test.YtbkgnlcjnimpcaaDoorFpZ
namespace Go.Proofs.YtbkgnlcjnimpcaaDoor.fanPlays.ev
open Go Go.Ab Go.RowKit Go.Proofs.YtbkgnlcjnimpcaaDoor.strs Go.Proofs.YtbkgnlcjnimpcaaDoor.fanPlays
open Go.Proofs.YtbkgnlcjnimpcaaDoor.strs.dig (tblO)
open Go.Proofs.YtbkgnlcjnimpcaaDoor.fanPlays.tk (opE reE elO h1 h2 normX PostsAt EVj EOj slP shT evC)
open Go.Proofs.YtbkgnlcjnimpcaaDoor.fanPlays.dk (refV h3 PostsAll EVd EOd reO inc_ok shD)
open Go.Proofs.YtbkgnlcjnimpcaaDoor.fanPlays.sm (h4 aOf bOf cOf shS)
open Go.Proofs.YtbkgnlcjnimpcaaDoor.strs.rf (ltP)
open Go.Proofs.YtbkgnlcjnimpcaaDoor.fanReads (kl klok)
set_option maxRecDepth 100000
/-- What is known of an answer that is taken. -/
structure Tk (N c : Nat) (OS OP : AObj) (i : Nat) (e : El) (sp ch : List UInt8) (nx td fr s k mm : Nat) (sm : Int) (A : Option Addr) (d : Nat) (P : Nat → Nat) (us ts : Nat → List UInt8) : Prop where
  hd : HdOk N c OS i e
  fx : Fx OS OP e
  all : PostsAll OP e P us ts
  at' : PostsAt OP A (e.pn - s) d (fun j => P (s + j)) (fun j => us (s + j)) (fun j => ts (s + j))
  sl : slP e mm A (e.pn - s) d
  fa : ∀ σ, atOf σ 17 = some 17 → FixV σ (.slice A (e.pn - s) d)
  hfr : e.fr = .ofNat fr
  hnx : nx = fr + s
  way : k ∈ [10, 13]
  l1 : NotedOk (tk.hdN e sp ch nx k sm mm)
  l2 : NotedOk (dk.hdN e sp ch nx k sm)
  nxb : nx < 8000000000
  tdb : td < 8000000000
theorem evj_eq (n : Nat) : EVj n = .slice (aOf n) n (cOf n) := by cases n <;> rfl
theorem evd_eq (n : Nat) : EVd n = .slice (bOf n) n (cOf n) := by cases n <;> rfl
theorem keepL {k : Nat} {m m2 : Mu} {L : List (Nat × Value)} (hm : ∀ b, b < k → m2 b = m b) (hL : ∀ p ∈ L, FixV (List.range k) p.2) : ∀ p ∈ L, ∀ v', VRel m p.2 v' → VRel m2 p.2 v' := fun p hp _ hv => (hL p hp).keep hm hv
theorem l0_fix {k N c i : Nat} (h16 : atOf (List.range k) 16 = some 16) (h8 : atOf (List.range k) 8 = some 8) (h9 : atOf (List.range k) 9 = some 9) (h18 : atOf (List.range k) 18 = some 18) : ∀ p ∈ L0 (VS N c) i, FixV (List.range k) p.2 := by
  intro p hp
  simp only [L0, List.mem_cons, List.not_mem_nil, or_false] at hp
  rcases hp with rfl | rfl | rfl | rfl | rfl
  · exact vs_fix h16
  · exact FixV.ptr h8
  · exact FixV.ptr h9
  · exact FixV.flat rfl
  · exact FixV.ptr h18
theorem s13_fix {OS OP : AObj} {e : El} (hx : Fx OS OP e) {N c i : Nat} : ∀ p ∈ (76, ptrTo 8) :: (78, opE e) :: (80, reE e) :: L0 (VS N c) i, FixV (List.range 19) p.2 := by
  intro p hp
  rw [List.mem_cons, List.mem_cons, List.mem_cons] at hp
  rcases hp with rfl | rfl | rfl | hp
  · exact FixV.ptr rfl
  · exact op_fix
  · exact hx.rv rfl
  · exact l0_fix rfl rfl rfl rfl p hp
theorem nB (VV : Value) (OS OP : AObj) (g f0 : Fd) (i : Nat) (e : El) (O1 : AObj) (A : Option Addr) (n c : Nat) (jt : Nat → Value) : 18 ≤ (a14 VV OS OP g f0 i e O1 A n c jt).2.next := Nat.le_of_ble_eq_true (by kernel_rfl)
theorem stepB {N c i nx td fr s k mm d : Nat} {sm : Int} {OS OP : AObj} {sp ch : List UInt8} {e : El} {A : Option Addr} {P : Nat → Nat} {us ts : Nat → List UInt8} (ht : Tk N c OS OP i e sp ch nx td fr s k mm sm A d P us ts) {j0 : Nat → Value} {B : Base} {m : Mu} {a : Act} {w : World} {Q : Exit → Act → World → Prop} {n : Nat} (hn : n = e.pn - s) {O1 : AObj} (hO : O1 = EOj nx (fun j => us (s + j)) (fun j => ts (s + j)) n)
    (hT : TRel m 178 (S13 (VS N c) OS OP ⟨sp, ch, nx, td, false⟩ i e j0).1 a.tmps) (hr : Rel Tryd.prog B m (S13 (VS N c) OS OP ⟨sp, ch, nx, td, false⟩ i e j0).2 w) (hG : GRel 8 m)
    (hk : ∀ m' jt a' w', (∀ b, b < 18 → m' b = m b) → GRel 8 m' → TRel m' 178 (S14 (VS N c) OS OP ⟨sp, ch, nx + n, td + n, false⟩ ⟨sp, ch, nx, td, false⟩ i e O1 (aOf n) n (cOf n) jt).1 a'.tmps → a'.defers = a.defers → Rel Tryd.prog B m' (S14 (VS N c) OS OP ⟨sp, ch, nx + n, td + n, false⟩ ⟨sp, ch, nx, td, false⟩ i e O1 (aOf n) n (cOf n) jt).2 w' → wpList Tryd.prog o14 (Exit.then (E3'.wp Tryd.prog (Q2 Q)) (Q2 Q)) (o14.toList.drop 5) a' w') :
    wpList Tryd.prog o13 (Exit.then (E2'.wp Tryd.prog (Q2 Q)) (Q2 Q)) (o13.toList.drop 5) a w := by
  subst hn hO
  have hx := ht.fx
  rw [dr13]
  refine give_cont (n := 178) (k := 19) entersOk zerosOk ok13 (dst_of_ok op13) (wt13 _) (call13 (VS N c) OS OP ⟨sp, ch, nx, td, false⟩ i e j0) (Nat.le_refl 19)
    (fun m args' w ha hr hG => tk.walk ht.at' ht.nxb ht.tdb (fun _ => hx.os _ rfl) (fun _ => hx.op _) (fun _ => hx.el rfl) (fun _ => ht.fa _ rfl) ht.way ht.l1 ht.sl ha hr hG) hT hr hG ?_
  intro m1 v1 w1 x1 g1 q1 hv
  rw [evj_eq] at hv
  obtain ⟨j1, t1⟩ := rejunk (m2 := m1) hT (keepL x1 (s13_fix hx))
  have t2 := t1.put (dst := some 81) (fun d hd => by cases hd; decide) hv
  rw [← putB_eq] at t2
  rw [ds13]
  have hs := fun jt jh => ahead14 (VS N c) OS OP ⟨sp, ch, nx + (e.pn - s), td + (e.pn - s), false⟩ ⟨sp, ch, nx, td, false⟩ i e (EOj nx (fun j => us (s + j)) (fun j => ts (s + j)) (e.pn - s)) (aOf (e.pn - s)) (e.pn - s) (cOf (e.pn - s)) j1 jt jh
  obtain ⟨p1, p⟩ := Prod.mk.inj (hs j1 (fun _ _ => undef))
  obtain ⟨p2, _⟩ := Prod.mk.inj p
  have hs2 := fun jt jh => (Prod.mk.inj (Prod.mk.inj (hs jt jh)).2).2
  refine goLX_end (n := 178) (k := 18) (l0 := o13.toList.take 6) (l := o13.toList.drop 6) entersOk zerosOk (CBkok klok) op13 (List.take_append_drop 6 _).symm p1 t2 q1 g1 (by show 18 ≤ 20; omega) ?_
  intro m2 a2 w2 x2 g2 t2 d2 q2
  show E2'.wp Tryd.prog (Q2 Q) a2 w2
  rw [e8]
  refine wp_seq ?_
  rw [x14]
  refine wp_region_list (goLX_wp (n := 178) (k := 18) (l := o14.toList.take 5) (l2 := o14.toList.drop 5) entersOk zerosOk (CBkok klok) op14 (List.take_append_drop 5 _).symm p2 t2 q2 g2 (nB _ _ _ _ _ _ _ _ _ _ _ _) ?_)
  intro m3 a3 w3 x3 g3 t3 d3 q3
  obtain ⟨m4, j4, g4, t4, q4, x4⟩ := reB hx (by
    have := tk.fixE nx (fun j => us (s + j)) (fun j => ts (s + j)) 19 (e.pn - s)
    revert this
    cases e.pn - s <;> intro _
    · exact FixO.of_one (.inl rfl)
    · exact FixO.of_one (.inr ⟨_, _, .inr rfl, evRow_flat (fun _ => evC_flat _ _ _) _⟩)) (by
    cases e.pn - s
    · exact FixV.flat rfl
    · exact FixV.slice rfl) hs2 t3 q3 g3
  exact hk m4 j4 a3 w3 (fun b hb => (x4 b hb).trans ((x3 b hb).trans ((x2 b hb).trans (x1 b (by omega))))) g4 t4 (d3.trans (d2.trans (by rfl))) q4
end Go.Proofs.YtbkgnlcjnimpcaaDoor.fanPlays.ev
/- FanPlays: a round that takes posts, walked: behind the document's, and the comparison. -/
namespace Go.Proofs.YtbkgnlcjnimpcaaDoor.fanPlays.ev
open Go Go.Ab Go.RowKit Go.Proofs.YtbkgnlcjnimpcaaDoor.strs Go.Proofs.YtbkgnlcjnimpcaaDoor.fanPlays
open Go.Proofs.YtbkgnlcjnimpcaaDoor.strs.dig (tblO)
open Go.Proofs.YtbkgnlcjnimpcaaDoor.fanPlays.tk (opE reE elO h1 h2 normX PostsAt EVj EOj slP shT evC)
open Go.Proofs.YtbkgnlcjnimpcaaDoor.fanPlays.dk (refV h3 PostsAll EVd EOd reO inc_ok shD)
open Go.Proofs.YtbkgnlcjnimpcaaDoor.fanPlays.sm (h4 aOf bOf cOf shS)
open Go.Proofs.YtbkgnlcjnimpcaaDoor.strs.rf (ltP)
open Go.Proofs.YtbkgnlcjnimpcaaDoor.fanReads (kl klok)
set_option maxRecDepth 100000
theorem eoj_fix {σ : List Nat} {nx n : Nat} {us ts : Nat → List UInt8} : FixO Tryd.prog σ (EOj nx us ts n) := by
  cases n
  · exact FixO.of_one (.inl rfl)
  · exact FixO.of_one (.inr ⟨_, _, .inr rfl, evRow_flat (fun _ => evC_flat _ _ _) _⟩)
theorem eod_fix {σ : List Nat} {nx n : Nat} {us ts : Nat → List UInt8} : FixO Tryd.prog σ (EOd nx us ts n) := by
  cases n
  · exact FixO.of_one (.inl rfl)
  · exact FixO.of_one (.inr ⟨_, _, .inr rfl, evRow_flat (fun _ => evC_flat _ _ _) _⟩)
theorem a_fix {σ : List Nat} {n : Nat} (h : atOf σ 19 = some 19) : FixV σ (.slice (aOf n) n (cOf n)) := by
  cases n
  · exact FixV.flat rfl
  · exact FixV.slice h
theorem b_fix {σ : List Nat} {n : Nat} (h : atOf σ 24 = some 24) : FixV σ (.slice (bOf n) n (cOf n)) := by
  cases n
  · exact FixV.flat rfl
  · exact FixV.slice h
theorem s14_fix {OS OP : AObj} {e : El} (hx : Fx OS OP e) {N c i n : Nat} {f : Fd} : ∀ p ∈ (85, refV f) :: (87, opE e) :: (89, reE e) :: (11, .slice (aOf n) n (cOf n)) :: (12, e24 0) :: L0 (VS N c) i, FixV (List.range 20) p.2 := by
  intro p hp
  rw [List.mem_cons, List.mem_cons, List.mem_cons, List.mem_cons, List.mem_cons] at hp
  rcases hp with rfl | rfl | rfl | rfl | rfl | hp
  · exact ref_fix
  · exact op_fix
  · exact hx.rv rfl
  · exact a_fix rfl
  · exact FixV.flat rfl
  · exact l0_fix rfl rfl rfl rfl p hp
theorem s15_fix {N c i n : Nat} : ∀ p ∈ (94, .slice (aOf n) n (cOf n)) :: (95, .slice (bOf n) n (cOf n)) :: (12, e24 0) :: (15, e24 0) :: (13, ptrTo 25) :: L0 (VS N c) i, FixV (List.range 26) p.2 := by
  intro p hp
  rw [List.mem_cons, List.mem_cons, List.mem_cons, List.mem_cons, List.mem_cons] at hp
  rcases hp with rfl | rfl | rfl | rfl | rfl | hp
  · exact a_fix rfl
  · exact b_fix rfl
  · exact FixV.flat rfl
  · exact FixV.flat rfl
  · exact FixV.ptr rfl
  · exact l0_fix rfl rfl rfl rfl p hp
theorem nC (VV : Value) (OS OP : AObj) (g f0 f : Fd) (i : Nat) (e : El) (O1 O2 : AObj) (A A2 : Option Addr) (n c n2 c2 : Nat) (jt : Nat → Value) : 18 ≤ (a15 VV OS OP g f0 f i e O1 O2 A A2 n c n2 c2 jt).2.next := Nat.le_of_ble_eq_true (by kernel_rfl)
theorem stepC {N c i nx td fr s k mm d : Nat} {sm : Int} {OS OP : AObj} {sp ch : List UInt8} {e : El} {A : Option Addr} {P : Nat → Nat} {us ts : Nat → List UInt8} (ht : Tk N c OS OP i e sp ch nx td fr s k mm sm A d P us ts) {j0 : Nat → Value} {B : Base} {m : Mu} {a : Act} {w : World} {Q : Exit → Act → World → Prop} {n : Nat} (hn : n = e.pn - s) {O1 O2 : AObj} {g : Fd} (hO : O1 = EOj nx (fun j => us (s + j)) (fun j => ts (s + j)) n) (hO2 : O2 = EOd nx (fun j => us (s + j)) (fun j => ts (s + j)) n)
    (hT : TRel m 178 (S14 (VS N c) OS OP g ⟨sp, ch, nx, td, false⟩ i e O1 (aOf n) n (cOf n) j0).1 a.tmps) (hr : Rel Tryd.prog B m (S14 (VS N c) OS OP g ⟨sp, ch, nx, td, false⟩ i e O1 (aOf n) n (cOf n) j0).2 w) (hG : GRel 8 m)
    (hk : ∀ m' jt a' w', (∀ b, b < 18 → m' b = m b) → GRel 8 m' → TRel m' 178 (S15 (VS N c) OS OP g ⟨sp, ch, nx, td, false⟩ ⟨sp, ch, nx + n, td + n, false⟩ i e O1 O2 (aOf n) (bOf n) n (cOf n) n (cOf n) jt).1 a'.tmps → a'.defers = a.defers → Rel Tryd.prog B m' (S15 (VS N c) OS OP g ⟨sp, ch, nx, td, false⟩ ⟨sp, ch, nx + n, td + n, false⟩ i e O1 O2 (aOf n) (bOf n) n (cOf n) n (cOf n) jt).2 w' → wpList Tryd.prog o15 (Exit.then (cd.wp Tryd.prog (Q3 Q)) (Q3 Q)) (o15.toList.drop 2) a' w') :
    wpList Tryd.prog o14 (Exit.then (E3'.wp Tryd.prog (Q2 Q)) (Q2 Q)) (o14.toList.drop 5) a w := by
  subst hn hO hO2
  have hx := ht.fx
  rw [dr14]
  refine give_cont (n := 178) (k := 20) entersOk zerosOk ok14 (dst_of_ok op14) (wt14 _) (call14 (VS N c) OS OP g ⟨sp, ch, nx, td, false⟩ i e _ _ _ _ j0) (Nat.le_refl 20)
    (fun m args' w ha hr hG => dk.walk ht.all ht.nxb ht.tdb ht.hfr ht.hnx (fun _ _ _ _ _ => hx.os _ rfl) (fun _ _ _ _ _ => hx.op _) (fun _ _ _ _ _ => hx.el rfl) (fun _ _ _ _ _ => eoj_fix) (fun _ _ _ _ _ => hx.re rfl) ht.way ht.l2 ha hr hG) hT hr hG ?_
  intro m1 v1 w1 x1 g1 q1 hv
  rw [evd_eq] at hv
  obtain ⟨j1, t1⟩ := rejunk (m2 := m1) hT (keepL x1 (s14_fix hx))
  have t2 := t1.put (dst := some 90) (fun d hd => by cases hd; decide) hv
  rw [← putB_eq] at t2
  rw [ds14]
  have hs := fun jt jh => ahead15 (VS N c) OS OP g ⟨sp, ch, nx, td, false⟩ ⟨sp, ch, nx + (e.pn - s), td + (e.pn - s), false⟩ i e (EOj nx (fun j => us (s + j)) (fun j => ts (s + j)) (e.pn - s)) (EOd nx (fun j => us (s + j)) (fun j => ts (s + j)) (e.pn - s)) (aOf (e.pn - s)) (bOf (e.pn - s)) (e.pn - s) (cOf (e.pn - s)) (e.pn - s) (cOf (e.pn - s)) j1 jt jh
  obtain ⟨p1, p⟩ := Prod.mk.inj (hs j1 (fun _ _ => undef))
  obtain ⟨p2, _⟩ := Prod.mk.inj p
  have hs2 := fun jt jh => (Prod.mk.inj (Prod.mk.inj (hs jt jh)).2).2
  refine goLX_end (n := 178) (k := 18) (l0 := o14.toList.take 6) (l := o14.toList.drop 6) entersOk zerosOk (CBkok klok) op14 (List.take_append_drop 6 _).symm p1 t2 q1 g1 (by show 18 ≤ 25; omega) ?_
  intro m2 a2 w2 x2 g2 t2 d2 q2
  show E3'.wp Tryd.prog (Q2 Q) a2 w2
  rw [e9]
  refine wp_seq ?_
  rw [e10]
  refine wp_seq ?_
  rw [x15]
  refine wp_region_list (goLX_wp (n := 178) (k := 18) (l := o15.toList.take 2) (l2 := o15.toList.drop 2) entersOk zerosOk (CBkok klok) op15 (List.take_append_drop 2 _).symm p2 t2 q2 g2 (nC _ _ _ _ _ _ _ _ _ _ _ _ _ _ _ _ _) ?_)
  intro m3 a3 w3 x3 g3 t3 d3 q3
  obtain ⟨m4, j4, g4, t4, q4, x4⟩ := reC hx eoj_fix eod_fix (a_fix rfl) (b_fix rfl) hs2 t3 q3 g3
  exact hk m4 j4 a3 w3 (fun b hb => (x4 b hb).trans ((x3 b hb).trans ((x2 b hb).trans (x1 b (by omega))))) g4 t4 (d3.trans (d2.trans (by rfl))) q4
theorem nD (VV : Value) (OS OP : AObj) (g f0 f : Fd) (i : Nat) (e : El) (O1 O2 : AObj) (A A2 : Option Addr) (n c n2 c2 : Nat) (jt : Nat → Value) : 18 ≤ (b15 VV OS OP g f0 f i e O1 O2 A A2 n c n2 c2 jt).2.next := Nat.le_of_ble_eq_true (by kernel_rfl)
theorem nE (VV : Value) (OS OP : AObj) (g f0 f : Fd) (i : Nat) (e : El) (O1 O2 : AObj) (A A2 : Option Addr) (n c n2 c2 : Nat) (jt : Nat → Value) : 18 ≤ (stOf (b16 VV OS OP g f0 f i e O1 O2 A A2 n c n2 c2 jt)).2.next := Nat.le_of_ble_eq_true (by kernel_rfl)
theorem nF (VV : Value) (OS OP : AObj) (g f0 f : Fd) (i : Nat) (e : El) (O1 O2 : AObj) (A A2 : Option Addr) (n c n2 c2 : Nat) (jt : Nat → Value) : 18 ≤ (stOf (b17 VV OS OP g f0 f i e O1 O2 A A2 n c n2 c2 jt)).2.next := Nat.le_of_ble_eq_true (by kernel_rfl)
theorem stepD {N c i nx td fr s k mm d : Nat} {sm : Int} {OS OP : AObj} {sp ch : List UInt8} {e : El} {A : Option Addr} {P : Nat → Nat} {us ts : Nat → List UInt8} (ht : Tk N c OS OP i e sp ch nx td fr s k mm sm A d P us ts) {j0 : Nat → Value} {B : Base} {m : Mu} {a : Act} {w : World} {Q : Exit → Act → World → Prop} {n : Nat} (hn : n = e.pn - s) {O1 O2 : AObj} {f0 f : Fd} (hO : O1 = EOj nx (fun j => us (s + j)) (fun j => ts (s + j)) n) (hO2 : O2 = EOd nx (fun j => us (s + j)) (fun j => ts (s + j)) n)
    (hT : TRel m 178 (S15 (VS N c) OS OP f f0 f i e O1 O2 (aOf n) (bOf n) n (cOf n) n (cOf n) j0).1 a.tmps) (hr : Rel Tryd.prog B m (S15 (VS N c) OS OP f f0 f i e O1 O2 (aOf n) (bOf n) n (cOf n) n (cOf n) j0).2 w) (hG : GRel 8 m)
    (hk : ∀ m' jt a' w', m' 16 = m 16 → GRel 8 m' → TRel m' 178 (SP (VS N c) OS OP f (i + 1) jt).1 a'.tmps → a'.defers = a.defers → Rel Tryd.prog B m' (SP (VS N c) OS OP f (i + 1) jt).2 w' → Q .normal a' w') :
    wpList Tryd.prog o15 (Exit.then (cd.wp Tryd.prog (Q3 Q)) (Q3 Q)) (o15.toList.drop 2) a w := by
  subst hn hO hO2
  have hx := ht.fx
  have h64 := ht.at'.len
  rw [dr15]
  refine give_cont (n := 178) (k := 26) entersOk zerosOk ok15 (dst_of_ok op15) (wt15 _) (call15 (VS N c) OS OP f f0 f i e _ _ _ _ _ _ _ _ j0) (Nat.le_refl 26)
    (fun m args' w ha hr hG => Go.Proofs.YtbkgnlcjnimpcaaDoor.fanPlays.sm.walk h64 (hx.os _ rfl) (hx.op _) (hx.el rfl) (hx.re rfl) ha hr hG) hT hr hG ?_
  intro m1 v1 w1 x1 g1 q1 hv
  obtain ⟨j1, t1⟩ := rejunk (m2 := m1) hT (keepL x1 s15_fix)
  have t2 := t1.put (dst := some 96) (fun d hd => by cases hd; decide) hv
  rw [← putB_eq] at t2
  rw [ds15]
  have hs := fun jt jh => behind (VS N c) OS OP f0 f i e (EOj nx (fun j => us (s + j)) (fun j => ts (s + j)) (e.pn - s)) (EOd nx (fun j => us (s + j)) (fun j => ts (s + j)) (e.pn - s)) (aOf (e.pn - s)) (bOf (e.pn - s)) (e.pn - s) (cOf (e.pn - s)) (e.pn - s) (cOf (e.pn - s)) j1 jt jh
  obtain ⟨p1, p⟩ := Prod.mk.inj (hs j1 (fun _ _ => undef))
  obtain ⟨p2, p⟩ := Prod.mk.inj p
  obtain ⟨p3, p⟩ := Prod.mk.inj p
  obtain ⟨p4, _⟩ := Prod.mk.inj p
  have hs2 := fun jt jh => (Prod.mk.inj (Prod.mk.inj (Prod.mk.inj (Prod.mk.inj (hs jt jh)).2).2).2).2
  refine goLX_end (n := 178) (k := 18) (l0 := o15.toList.take 3) (l := o15.toList.drop 3) entersOk zerosOk (CBkok klok) op15 (List.take_append_drop 3 _).symm p1 t2 q1 g1 (by show 18 ≤ 26; omega) ?_
  intro m2 a2 w2 x2 g2 t2 d2 q2
  show cd.wp Tryd.prog (Q3 Q) a2 w2
  refine normX (n := 178) (k := 18) klok plc okc rfl p2 NotedOk.nil t2 q2 g2 (nD _ _ _ _ _ _ _ _ _ _ _ _ _ _ _ _ _) ?_
  intro m3 a3 w3 x3 g3 t3 d3 q3
  show r17.wp Tryd.prog (Q2 Q) a3 w3
  refine normX (n := 178) (k := 18) klok pl17 ok17 rfl p3 NotedOk.nil t3 q3 g3 (nE _ _ _ _ _ _ _ _ _ _ _ _ _ _ _ _ _) ?_
  intro m4 a4 w4 x4 g4 t4 d4 q4
  show r9.wp Tryd.prog Q a4 w4
  refine normX (n := 178) (k := 18) klok pl9 ok9 rfl p4 (NotedOk.cons (inc_ok (by have := ht.hd.most; omega)) NotedOk.nil) t4 q4 g4 (nF _ _ _ _ _ _ _ _ _ _ _ _ _ _ _ _ _) ?_
  intro m5 a5 w5 x5 g5 t5 d5 q5
  obtain ⟨m6, j6, g6, t6, q6, x6⟩ := reP (hx.os _ rfl) (hx.op _) hs2 t5 q5 g5
  exact hk m6 j6 a5 w5 (x6.trans ((x5 16 (by omega)).trans ((x4 16 (by omega)).trans ((x3 16 (by omega)).trans ((x2 16 (by omega)).trans (x1 16 (by omega))))))) g6 t6 (d5.trans (d4.trans (d3.trans (d2.trans (by rfl))))) q6
/-- A round that takes posts. -/
theorem walk {N c i nx td fr s k mm d : Nat} {sm : Int} {OS OP : AObj} {sp ch : List UInt8} {e : El} {A : Option Addr} {P : Nat → Nat} {us ts : Nat → List UInt8} (ht : Tk N c OS OP i e sp ch nx td fr s k mm sm A d P us ts) {j0 : Nat → Value} {B : Base} {m : Mu} {a : Act} {w : World} {Q : Exit → Act → World → Prop}
    (hT : TRel m 178 (SP (VS N c) OS OP ⟨sp, ch, nx, td, false⟩ i j0).1 a.tmps) (hr : Rel Tryd.prog B m (SP (VS N c) OS OP ⟨sp, ch, nx, td, false⟩ i j0).2 w) (hG : GRel 8 m)
    (hk : ∀ m' jt a' w', m' 16 = m 16 → GRel 8 m' → TRel m' 178 (SP (VS N c) OS OP ⟨sp, ch, nx + (e.pn - s), td + (e.pn - s), false⟩ (i + 1) jt).1 a'.tmps → a'.defers = a.defers → Rel Tryd.prog B m' (SP (VS N c) OS OP ⟨sp, ch, nx + (e.pn - s), td + (e.pn - s), false⟩ (i + 1) jt).2 w' → Q .normal a' w') : lp.wp Tryd.prog Q a w := by
  refine stepA ht.fx ht.hd hT hr hG ?_
  intro m1 j1 a1 w1 x1 g1 t1 d1 q1
  refine stepB ht rfl rfl t1 q1 g1 ?_
  intro m2 j2 a2 w2 x2 g2 t2 d2 q2
  refine stepC ht rfl rfl rfl t2 q2 g2 ?_
  intro m3 j3 a3 w3 x3 g3 t3 d3 q3
  refine stepD ht rfl rfl rfl t3 q3 g3 ?_
  intro m4 j4 a4 w4 x4 g4 t4 d4 q4
  exact hk m4 j4 a4 w4 (x4.trans ((x3 16 (by omega)).trans ((x2 16 (by omega)).trans (x1 16 (by omega))))) g4 t4 (d4.trans (d3.trans (d2.trans d1))) q4
end Go.Proofs.YtbkgnlcjnimpcaaDoor.fanPlays.ev
