/- FanPlays: a round that takes posts, walked. -/
import Derived.Test.YtbkgnlcjnimpcaaDoorFpX
namespace Go.Proofs.YtbkgnlcjnimpcaaDoor.fanPlays.ev
open Go Go.Ab Go.RowKit Go.Proofs.YtbkgnlcjnimpcaaDoor.strs Go.Proofs.YtbkgnlcjnimpcaaDoor.fanPlays
open Go.Proofs.YtbkgnlcjnimpcaaDoor.strs.dig (tblO)
open Go.Proofs.YtbkgnlcjnimpcaaDoor.fanPlays.tk (opE reE elO h1 h2 normX PostsAt EVj EOj)
open Go.Proofs.YtbkgnlcjnimpcaaDoor.fanPlays.dk (refV h3 PostsAll EVd EOd reO inc_ok)
open Go.Proofs.YtbkgnlcjnimpcaaDoor.fanPlays.sm (h4 aOf bOf cOf)
open Go.Proofs.YtbkgnlcjnimpcaaDoor.strs.rf (ltP)
open Go.Proofs.YtbkgnlcjnimpcaaDoor.fanReads (kl klok)
set_option maxRecDepth 100000
theorem tbl_fix {σ : List Nat} : FixO Tryd.prog σ tblO := FixO.of_one (.inr ⟨_, _, .inl rfl, fun i v hv => dig.tbl_plain.flat _ _ rfl i v hv⟩)
theorem lt18 {b : Nat} (h : b < 18) : b = 0 ∨ b = 1 ∨ b = 2 ∨ b = 3 ∨ b = 4 ∨ b = 5 ∨ b = 6 ∨ b = 7 ∨ b = 8 ∨ b = 9 ∨ b = 10 ∨ b = 11 ∨ b = 12 ∨ b = 13 ∨ b = 14 ∨ b = 15 ∨ b = 16 ∨ b = 17 := by omega
theorem vs_fix {σ : List Nat} {N c : Nat} (h : atOf σ 16 = some 16) : FixV σ (VS N c) := FixV.slice h
abbrev Q1 (Q : Exit → Act → World → Prop) : Exit → Act → World → Prop := Exit.inBlock 1 (Exit.then (r9.wp Tryd.prog Q) Q)
abbrev Q2 (Q : Exit → Act → World → Prop) : Exit → Act → World → Prop := Exit.inBlock 2 (Q1 Q)
abbrev Q3 (Q : Exit → Act → World → Prop) : Exit → Act → World → Prop := Exit.then (r17.wp Tryd.prog (Q2 Q)) (Q2 Q)
/-! ### Codes -/
theorem plH : plansOk Tryd.prog hd = true := by kernel_rfl
theorem okH : codeOk 8 178 hd = true := by kernel_rfl
theorem kC : partsOk Tryd.prog 8 178 2 C1 = true := by kernel_rfl
theorem kD : partsOk Tryd.prog 8 178 1 D1 = true := by kernel_rfl
theorem pl9 : plansOk Tryd.prog r9 = true := by kernel_rfl
theorem ok9 : codeOk 8 178 r9 = true := by kernel_rfl
theorem plc : plansOk Tryd.prog cd = true := by kernel_rfl
theorem okc : codeOk 8 178 cd = true := by kernel_rfl
theorem pl17 : plansOk Tryd.prog r17 = true := by kernel_rfl
theorem ok17 : codeOk 8 178 r17 = true := by kernel_rfl
theorem op13 : o13.toList.all (opOk 8 178) = true := by kernel_rfl
theorem op14 : o14.toList.all (opOk 8 178) = true := by kernel_rfl
theorem op15 : o15.toList.all (opOk 8 178) = true := by kernel_rfl
theorem dr13 : o13.toList.drop 5 = opAt o13 5 :: o13.toList.drop 6 := by kernel_rfl
theorem dr14 : o14.toList.drop 5 = opAt o14 5 :: o14.toList.drop 6 := by kernel_rfl
theorem dr15 : o15.toList.drop 2 = opAt o15 2 :: o15.toList.drop 3 := by kernel_rfl
theorem ds13 : (opAt o13 5).dst = some 81 := by kernel_rfl
theorem ds14 : (opAt o14 5).dst = some 90 := by kernel_rfl
theorem ds15 : (opAt o15 2).dst = some 96 := by kernel_rfl
theorem ok13 : opOk 8 178 (opAt o13 5) = true := by kernel_rfl
theorem ok14 : opOk 8 178 (opAt o14 5) = true := by kernel_rfl
theorem ok15 : opOk 8 178 (opAt o15 2) = true := by kernel_rfl
theorem wt13 (T : Tree Value) : wantedA o13 (opAt o13 5) T = true := by kernel_rfl
theorem wt14 (T : Tree Value) : wantedA o14 (opAt o14 5) T = true := by kernel_rfl
theorem wt15 (T : Tree Value) : wantedA o15 (opAt o15 2) T = true := by kernel_rfl
/-! ### States under other numbers -/
theorem atA (VV : Value) (OS OP : AObj) (f : Fd) (i : Nat) (e : El) (jt : Nat → Value) : (fun s => (s.2.get 5, s.2.get 16, s.2.get 17, s.2.get 18, Tget s.1 1, Tget s.1 78, Tget s.1 80)) (S13 VV OS OP f i e jt) = (tblO, OS, OP, elO e, VV, opE e, reE e) := by kernel_rfl
theorem reA {N c : Nat} {OS OP : AObj} {f : Fd} {i : Nat} {e : El} {x : St} {B : Base} {m : Mu} {a : Act} {w : World} (hx : Fx OS OP e)
    (hc : ∀ jt jh, canonS shA 8 x jt jh = some (S13 (VS N c) OS OP f i e jt)) (hT : TRel m 178 x.1 a.tmps) (hr : Rel Tryd.prog B m x.2 w) (hG : GRel 8 m) :
    ∃ m2 jt, GRel 8 m2 ∧ TRel m2 178 (S13 (VS N c) OS OP f i e jt).1 a.tmps ∧ Rel Tryd.prog B m2 (S13 (VS N c) OS OP f i e jt).2 w ∧ ∀ b, b < 18 → m2 b = m b := by
  obtain ⟨m2, jt, _, h1, h2, h3, h4⟩ := canonW (S := shA) (S2 := fun jt _ => S13 (VS N c) OS OP f i e jt) (fun _ => rfl) (fun jt _ y h => by
    have hy : (Nat.beq y 5 || (Nat.beq y 16 || (Nat.beq y 17 || Nat.beq y 18))) = true := h
    simp only [Bool.or_eq_true, Nat.beq_eq] at hy
    obtain ⟨q5, q⟩ := Prod.mk.inj (atA (VS N c) OS OP f i e jt)
    obtain ⟨q16, q⟩ := Prod.mk.inj q
    obtain ⟨q17, q⟩ := Prod.mk.inj q
    obtain ⟨q18, _⟩ := Prod.mk.inj q
    rcases hy with rfl | rfl | rfl | rfl
    · rw [q5]; exact tbl_fix
    · rw [q16]; exact hx.os _ rfl
    · rw [q17]; exact hx.op _
    · rw [q18]; exact hx.el rfl) (fun jt _ y h => by
    have hy : (Nat.beq y 1 || (Nat.beq y 78 || Nat.beq y 80)) = true := h
    simp only [Bool.or_eq_true, Nat.beq_eq] at hy
    obtain ⟨_, q⟩ := Prod.mk.inj (atA (VS N c) OS OP f i e jt)
    obtain ⟨_, q⟩ := Prod.mk.inj q
    obtain ⟨_, q⟩ := Prod.mk.inj q
    obtain ⟨_, q⟩ := Prod.mk.inj q
    obtain ⟨q1, q⟩ := Prod.mk.inj q
    obtain ⟨q78, q80⟩ := Prod.mk.inj q
    rcases hy with rfl | rfl | rfl
    · rw [q1]; exact vs_fix rfl
    · rw [q78]; exact op_fix
    · rw [q80]; exact hx.rv rfl) hc hT hr hG
  refine ⟨m2, jt, h1, h2, h3, fun b hb => h4 b b ?_⟩
  rcases lt18 hb with rfl | rfl | rfl | rfl | rfl | rfl | rfl | rfl | rfl | rfl | rfl | rfl | rfl | rfl | rfl | rfl | rfl | rfl <;> rfl
theorem atB (VV : Value) (OS OP : AObj) (g f0 : Fd) (i : Nat) (e : El) (O1 : AObj) (A : Option Addr) (n c : Nat) (jt : Nat → Value) : (fun s => (s.2.get 5, s.2.get 16, s.2.get 17, s.2.get 18, s.2.get 19, Tget s.1 1, Tget s.1 85, Tget s.1 87, Tget s.1 89, Tget s.1 11)) (S14 VV OS OP g f0 i e O1 A n c jt) = (tblO, OS, OP, elO e, O1, VV, refV f0, opE e, reE e, .slice A n c) := by kernel_rfl
theorem reB {N c : Nat} {OS OP O1 : AObj} {g f0 : Fd} {i : Nat} {e : El} {A : Option Addr} {n d : Nat} {x : St} {B : Base} {m : Mu} {a : Act} {w : World} (hx : Fx OS OP e) (h19 : FixO Tryd.prog shB.σ O1) (hA : FixV shB.σ (.slice A n d))
    (hc : ∀ jt jh, canonS shB 8 x jt jh = some (S14 (VS N c) OS OP g f0 i e O1 A n d jt)) (hT : TRel m 178 x.1 a.tmps) (hr : Rel Tryd.prog B m x.2 w) (hG : GRel 8 m) :
    ∃ m2 jt, GRel 8 m2 ∧ TRel m2 178 (S14 (VS N c) OS OP g f0 i e O1 A n d jt).1 a.tmps ∧ Rel Tryd.prog B m2 (S14 (VS N c) OS OP g f0 i e O1 A n d jt).2 w ∧ ∀ b, b < 18 → m2 b = m b := by
  obtain ⟨m2, jt, _, h1, h2, h3, h4⟩ := canonW (S := shB) (S2 := fun jt _ => S14 (VS N c) OS OP g f0 i e O1 A n d jt) (fun _ => rfl) (fun jt _ y h => by
    have hy : (Nat.beq y 5 || (Nat.beq y 16 || (Nat.beq y 17 || (Nat.beq y 18 || Nat.beq y 19)))) = true := h
    simp only [Bool.or_eq_true, Nat.beq_eq] at hy
    obtain ⟨q5, q⟩ := Prod.mk.inj (atB (VS N c) OS OP g f0 i e O1 A n d jt)
    obtain ⟨q16, q⟩ := Prod.mk.inj q
    obtain ⟨q17, q⟩ := Prod.mk.inj q
    obtain ⟨q18, q⟩ := Prod.mk.inj q
    obtain ⟨q19, _⟩ := Prod.mk.inj q
    rcases hy with rfl | rfl | rfl | rfl | rfl
    · rw [q5]; exact tbl_fix
    · rw [q16]; exact hx.os _ rfl
    · rw [q17]; exact hx.op _
    · rw [q18]; exact hx.el rfl
    · rw [q19]; exact h19) (fun jt _ y h => by
    have hy : (Nat.beq y 1 || (Nat.beq y 85 || (Nat.beq y 87 || (Nat.beq y 89 || Nat.beq y 11)))) = true := h
    simp only [Bool.or_eq_true, Nat.beq_eq] at hy
    obtain ⟨_, q⟩ := Prod.mk.inj (atB (VS N c) OS OP g f0 i e O1 A n d jt)
    obtain ⟨_, q⟩ := Prod.mk.inj q
    obtain ⟨_, q⟩ := Prod.mk.inj q
    obtain ⟨_, q⟩ := Prod.mk.inj q
    obtain ⟨_, q⟩ := Prod.mk.inj q
    obtain ⟨q1, q⟩ := Prod.mk.inj q
    obtain ⟨q85, q⟩ := Prod.mk.inj q
    obtain ⟨q87, q⟩ := Prod.mk.inj q
    obtain ⟨q89, q11⟩ := Prod.mk.inj q
    rcases hy with rfl | rfl | rfl | rfl | rfl
    · rw [q1]; exact vs_fix rfl
    · rw [q85]; exact ref_fix
    · rw [q87]; exact op_fix
    · rw [q89]; exact hx.rv rfl
    · rw [q11]; exact hA) hc hT hr hG
  refine ⟨m2, jt, h1, h2, h3, fun b hb => h4 b b ?_⟩
  rcases lt18 hb with rfl | rfl | rfl | rfl | rfl | rfl | rfl | rfl | rfl | rfl | rfl | rfl | rfl | rfl | rfl | rfl | rfl | rfl <;> rfl
theorem atC (VV : Value) (OS OP : AObj) (g f0 f : Fd) (i : Nat) (e : El) (O1 O2 : AObj) (A A2 : Option Addr) (n c n2 c2 : Nat) (jt : Nat → Value) : (fun s => (s.2.get 5, s.2.get 16, s.2.get 17, s.2.get 18, s.2.get 19, s.2.get 22, s.2.get 24, Tget s.1 1, Tget s.1 94, Tget s.1 95)) (S15 VV OS OP g f0 f i e O1 O2 A A2 n c n2 c2 jt) = (tblO, OS, OP, elO e, O1, reO e, O2, VV, .slice A n c, .slice A2 n2 c2) := by kernel_rfl
theorem reC {N c : Nat} {OS OP O1 O2 : AObj} {g f0 f : Fd} {i : Nat} {e : El} {A A2 : Option Addr} {n d n2 d2 : Nat} {x : St} {B : Base} {m : Mu} {a : Act} {w : World} (hx : Fx OS OP e) (h19 : FixO Tryd.prog shC.σ O1) (h24 : FixO Tryd.prog shC.σ O2) (hA : FixV shC.σ (.slice A n d)) (hA2 : FixV shC.σ (.slice A2 n2 d2))
    (hc : ∀ jt jh, canonS shC 8 x jt jh = some (S15 (VS N c) OS OP g f0 f i e O1 O2 A A2 n d n2 d2 jt)) (hT : TRel m 178 x.1 a.tmps) (hr : Rel Tryd.prog B m x.2 w) (hG : GRel 8 m) :
    ∃ m2 jt, GRel 8 m2 ∧ TRel m2 178 (S15 (VS N c) OS OP g f0 f i e O1 O2 A A2 n d n2 d2 jt).1 a.tmps ∧ Rel Tryd.prog B m2 (S15 (VS N c) OS OP g f0 f i e O1 O2 A A2 n d n2 d2 jt).2 w ∧ ∀ b, b < 18 → m2 b = m b := by
  obtain ⟨m2, jt, _, h1, h2, h3, h4⟩ := canonW (S := shC) (S2 := fun jt _ => S15 (VS N c) OS OP g f0 f i e O1 O2 A A2 n d n2 d2 jt) (fun _ => rfl) (fun jt _ y h => by
    have hy : (Nat.beq y 5 || (Nat.beq y 16 || (Nat.beq y 17 || (Nat.beq y 18 || (Nat.beq y 19 || (Nat.beq y 22 || Nat.beq y 24)))))) = true := h
    simp only [Bool.or_eq_true, Nat.beq_eq] at hy
    obtain ⟨q5, q⟩ := Prod.mk.inj (atC (VS N c) OS OP g f0 f i e O1 O2 A A2 n d n2 d2 jt)
    obtain ⟨q16, q⟩ := Prod.mk.inj q
    obtain ⟨q17, q⟩ := Prod.mk.inj q
    obtain ⟨q18, q⟩ := Prod.mk.inj q
    obtain ⟨q19, q⟩ := Prod.mk.inj q
    obtain ⟨q22, q⟩ := Prod.mk.inj q
    obtain ⟨q24, _⟩ := Prod.mk.inj q
    rcases hy with rfl | rfl | rfl | rfl | rfl | rfl | rfl
    · rw [q5]; exact tbl_fix
    · rw [q16]; exact hx.os _ rfl
    · rw [q17]; exact hx.op _
    · rw [q18]; exact hx.el rfl
    · rw [q19]; exact h19
    · rw [q22]; exact hx.re rfl
    · rw [q24]; exact h24) (fun jt _ y h => by
    have hy : (Nat.beq y 1 || (Nat.beq y 94 || Nat.beq y 95)) = true := h
    simp only [Bool.or_eq_true, Nat.beq_eq] at hy
    obtain ⟨_, q⟩ := Prod.mk.inj (atC (VS N c) OS OP g f0 f i e O1 O2 A A2 n d n2 d2 jt)
    obtain ⟨_, q⟩ := Prod.mk.inj q
    obtain ⟨_, q⟩ := Prod.mk.inj q
    obtain ⟨_, q⟩ := Prod.mk.inj q
    obtain ⟨_, q⟩ := Prod.mk.inj q
    obtain ⟨_, q⟩ := Prod.mk.inj q
    obtain ⟨_, q⟩ := Prod.mk.inj q
    obtain ⟨q1, q⟩ := Prod.mk.inj q
    obtain ⟨q94, q95⟩ := Prod.mk.inj q
    rcases hy with rfl | rfl | rfl
    · rw [q1]; exact vs_fix rfl
    · rw [q94]; exact hA
    · rw [q95]; exact hA2) hc hT hr hG
  refine ⟨m2, jt, h1, h2, h3, fun b hb => h4 b b ?_⟩
  rcases lt18 hb with rfl | rfl | rfl | rfl | rfl | rfl | rfl | rfl | rfl | rfl | rfl | rfl | rfl | rfl | rfl | rfl | rfl | rfl <;> rfl
end Go.Proofs.YtbkgnlcjnimpcaaDoor.fanPlays.ev
namespace Go.Proofs.YtbkgnlcjnimpcaaDoor.fanPlays
open Go Go.Ab Go.RowKit Go.Proofs.YtbkgnlcjnimpcaaDoor.strs
open Go.Proofs.YtbkgnlcjnimpcaaDoor.strs.dig (tblO)
open Go.Proofs.YtbkgnlcjnimpcaaDoor.fanPlays.ev (tbl_fix vs_fix)
set_option maxRecDepth 100000
theorem atP (VV : Value) (OS OP : AObj) (f : Fd) (i : Nat) (jt : Nat → Value) : (fun s => (s.2.get 5, s.2.get 16, s.2.get 17, Tget s.1 1)) (SP VV OS OP f i jt) = (tblO, OS, OP, VV) := by kernel_rfl
/-- A round's end under the first numbers. -/
theorem reP {p q N c : Nat} {OS OP : AObj} {f : Fd} {i : Nat} {x : St} {B : Base} {m : Mu} {a : Act} {w : World} (hos : FixO Tryd.prog (sh p q).σ OS) (hop : FixO Tryd.prog (sh p q).σ OP)
    (hc : ∀ jt jh, canonS (sh p q) 8 x jt jh = some (SP (VS N c) OS OP f i jt)) (hT : TRel m 178 x.1 a.tmps) (hr : Rel Tryd.prog B m x.2 w) (hG : GRel 8 m) :
    ∃ m2 jt, GRel 8 m2 ∧ TRel m2 178 (SP (VS N c) OS OP f i jt).1 a.tmps ∧ Rel Tryd.prog B m2 (SP (VS N c) OS OP f i jt).2 w ∧ m2 16 = m 16 := by
  obtain ⟨m2, jt, _, h1, h2, h3, h4⟩ := canonW (S := sh p q) (S2 := fun jt _ => SP (VS N c) OS OP f i jt) (fun _ => rfl) (fun jt _ y h => by
    have hy : (Nat.beq y 5 || (Nat.beq y 16 || Nat.beq y 17)) = true := h
    simp only [Bool.or_eq_true, Nat.beq_eq] at hy
    obtain ⟨q5, r⟩ := Prod.mk.inj (atP (VS N c) OS OP f i jt)
    obtain ⟨q16, r⟩ := Prod.mk.inj r
    obtain ⟨q17, _⟩ := Prod.mk.inj r
    rcases hy with rfl | rfl | rfl
    · rw [q5]; exact tbl_fix
    · rw [q16]; exact hos
    · rw [q17]; exact hop) (fun jt _ y h => by
    obtain rfl := Nat.eq_of_beq_eq_true (show Nat.beq y 1 = true from h)
    obtain ⟨_, r⟩ := Prod.mk.inj (atP (VS N c) OS OP f i jt)
    obtain ⟨_, r⟩ := Prod.mk.inj r
    obtain ⟨_, q1⟩ := Prod.mk.inj r
    rw [q1]; exact vs_fix rfl) hc hT hr hG
  exact ⟨m2, jt, h1, h2, h3, h4 16 16 rfl⟩
end Go.Proofs.YtbkgnlcjnimpcaaDoor.fanPlays
/- FanPlays: a round that takes posts, walked: from call to call. -/
namespace Go.Proofs.YtbkgnlcjnimpcaaDoor.fanPlays.ev
open Go Go.Ab Go.RowKit Go.Proofs.YtbkgnlcjnimpcaaDoor.strs Go.Proofs.YtbkgnlcjnimpcaaDoor.fanPlays
open Go.Proofs.YtbkgnlcjnimpcaaDoor.strs.dig (tblO)
open Go.Proofs.YtbkgnlcjnimpcaaDoor.fanPlays.tk (opE reE elO h1 h2 normX PostsAt EVj EOj)
open Go.Proofs.YtbkgnlcjnimpcaaDoor.fanPlays.dk (refV h3 PostsAll EVd EOd reO inc_ok)
open Go.Proofs.YtbkgnlcjnimpcaaDoor.fanPlays.sm (h4 aOf bOf cOf)
open Go.Proofs.YtbkgnlcjnimpcaaDoor.strs.rf (ltP)
open Go.Proofs.YtbkgnlcjnimpcaaDoor.fanReads (kl klok)
set_option maxRecDepth 100000
/-- What is known of the element, ahead of its calls. -/
structure HdOk (N c : Nat) (OS : AObj) (i : Nat) (e : El) : Prop where
  lt : i < N
  most : i < 200
  at' : atS N c i
  ld : ldS OS i e
  kd : e.kd = 1
theorem tmp_true {m : Mu} {a : Act} {t : Nat} {u : Value} (h : VRel m u (a.tmps.getD t undef)) (hu : u = Tr) : a.eval (.tmp t) = .bool true := by
  have h2 : VRel m (.bool true) (a.tmps.getD t undef) := by rw [hu] at h; exact h
  exact h2.of_flat 8 rfl
theorem n1 (N c : Nat) (OS OP : AObj) (f : Fd) (i : Nat) (j0 : Nat → Value) : 18 ≤ (stOf (hdS (VS N c) OS OP f i j0)).2.next := Nat.le_of_ble_eq_true (by kernel_rfl)
theorem n2 (N c : Nat) (OS OP : AObj) (f : Fd) (i : Nat) (j0 : Nat → Value) (e : El) : 18 ≤ (c1S (VS N c) OS OP f i j0 e).s.2.next := Nat.le_of_ble_eq_true (by kernel_rfl)
theorem n3 (N c : Nat) (OS OP : AObj) (f : Fd) (i : Nat) (j0 : Nat → Value) (e : El) : 18 ≤ (d1S (VS N c) OS OP f i j0 e).s.2.next := Nat.le_of_ble_eq_true (by kernel_rfl)
theorem c73 (N c : Nat) (OS OP : AObj) (f : Fd) (i : Nat) (j0 : Nat → Value) (e : El) : Tget (d1S (VS N c) OS OP f i j0 e).s.1 73 = Tr := cnd73 N c OS OP f i j0 e
theorem stepA {N c i : Nat} {OS OP : AObj} {f : Fd} {e : El} (hx : Fx OS OP e) (he : HdOk N c OS i e) {j0 : Nat → Value} {B : Base} {m : Mu} {a : Act} {w : World} {Q : Exit → Act → World → Prop}
    (hT : TRel m 178 (SP (VS N c) OS OP f i j0).1 a.tmps) (hr : Rel Tryd.prog B m (SP (VS N c) OS OP f i j0).2 w) (hG : GRel 8 m)
    (hk : ∀ m' jt a' w', (∀ b, b < 18 → m' b = m b) → GRel 8 m' → TRel m' 178 (S13 (VS N c) OS OP f i e jt).1 a'.tmps → a'.defers = a.defers → Rel Tryd.prog B m' (S13 (VS N c) OS OP f i e jt).2 w' → wpList Tryd.prog o13 (Exit.then (E2'.wp Tryd.prog (Q2 Q)) (Q2 Q)) (o13.toList.drop 5) a' w') : lp.wp Tryd.prog Q a w := by
  have hs := fun jt jh => ahead13 N c OS OP f i j0 jt jh e
  obtain ⟨p1, p⟩ := Prod.mk.inj (hs j0 (fun _ _ => undef))
  obtain ⟨p2, p⟩ := Prod.mk.inj p
  obtain ⟨p3, p⟩ := Prod.mk.inj p
  obtain ⟨p4, p⟩ := Prod.mk.inj p
  obtain ⟨p5, p⟩ := Prod.mk.inj p
  obtain ⟨p6, _⟩ := Prod.mk.inj p
  have hs2 := fun jt jh => (Prod.mk.inj (Prod.mk.inj (Prod.mk.inj (Prod.mk.inj (Prod.mk.inj (Prod.mk.inj (hs jt jh)).2).2).2).2).2).2
  rw [e3]
  refine wp_seq (normX (n := 178) (k := 18) klok plH okH (R := hdS (VS N c) OS OP f i j0) rfl p1 (NotedOk.cons (rf.ltn_ok (blt_t he.most)) (NotedOk.cons (rf.ltn_ok (blt_t he.lt)) NotedOk.nil)) hT hr hG (Nat.le_refl 18) ?_)
  intro m1 a1 w1 x1 g1 t1 d1 q1
  show lp2.wp Tryd.prog Q a1 w1
  rw [e4]
  refine wp_seq (wp_block (partX (n := 178) (k := 2) (k0 := 18) klok kC (y := c1S (VS N c) OS OP f i j0 e) rfl p2 (by rw [p3]; exact NotedOk.cons he.ld (NotedOk.cons he.at' NotedOk.nil)) t1 q1 g1 (n1 N c OS OP f i j0) ?_))
  intro m2 a2 w2 x2 g2 t2 d2 q2
  rw [e5]
  refine wp_block (partX (n := 178) (k := 1) (k0 := 18) klok kD (y := d1S (VS N c) OS OP f i j0 e) rfl p4 (by rw [p5]; exact NotedOk.cons (congrArg Value.bool (by rw [he.kd]; rfl)) NotedOk.nil) t2 q2 g2 (n2 N c OS OP f i j0 e) ?_)
  intro m3 a3 w3 x3 g3 t3 d3 q3
  rw [e6]
  refine wp_cond_true (tmp_true (t3.rel 73) (c73 N c OS OP f i j0 e)) ?_
  rw [e7]
  refine wp_seq ?_
  rw [x13]
  refine wp_region_list (goLX_wp (n := 178) (k := 18) (l := o13.toList.take 5) (l2 := o13.toList.drop 5) entersOk zerosOk (CBkok klok) op13 (List.take_append_drop 5 _).symm p6 t3 q3 g3 (n3 N c OS OP f i j0 e) ?_)
  intro m4 a4 w4 x4 g4 t4 d4 q4
  obtain ⟨m5, j5, g5, t5, q5, x5⟩ := reA hx hs2 t4 q4 g4
  exact hk m5 j5 a4 w4 (fun b hb => (x5 b hb).trans ((x4 b hb).trans ((x3 b hb).trans ((x2 b hb).trans (x1 b hb))))) g5 t5 (d4.trans (d3.trans (d2.trans d1))) q5
end Go.Proofs.YtbkgnlcjnimpcaaDoor.fanPlays.ev
