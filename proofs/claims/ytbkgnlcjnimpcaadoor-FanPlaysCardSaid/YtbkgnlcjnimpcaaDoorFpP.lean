/- Rows of events, as they grow. -/
import Derived.Test.YtbkgnlcjnimpcaaDoorFpM
namespace Go.Proofs.YtbkgnlcjnimpcaaDoor.fanPlays
open Go Go.Ab Go.RowKit Go.Proofs.YtbkgnlcjnimpcaaDoor.strs
open Go.Proofs.YtbkgnlcjnimpcaaDoor.fanPlays.tk (evC)
/-- The events' row behind so many and one. -/
def evRow (ev : Nat → List Value) : Nat → Row
  | 0 => Row.ofList (ev 0)
  | j + 1 => (evRow ev j).more (ev (j + 1))
theorem evRow_len {ev : Nat → List Value} (h : ∀ m, (ev m).length = 3) : ∀ j, (evRow ev j).len = (j + 1) * 3 := by
  intro j
  induction j with
  | zero =>
    show (ev 0).length = 3
    exact h 0
  | succ j ih =>
    show (evRow ev j).len + (ev (j + 1)).length = _
    rw [ih, h]
    omega
theorem evRow_get {ev : Nat → List Value} (h : ∀ m, (ev m).length = 3) : ∀ j m r, m ≤ j → r < 3 → (evRow ev j).get? (m * 3 + r) = (ev m)[r]? := by
  intro j
  induction j with
  | zero =>
    intro m r hm hr
    obtain rfl : m = 0 := by omega
    show (Row.ofList (ev 0)).get? _ = _
    rw [Row.ofList_get?, Nat.zero_mul, Nat.zero_add]
  | succ j ih =>
    intro m r hm hr
    show ((evRow ev j).more (ev (j + 1))).get? _ = _
    rw [Row.more_get?, evRow_len h]
    by_cases hj : m ≤ j
    · rw [if_pos (by omega)]
      exact ih m r hj hr
    · obtain rfl : m = j + 1 := by omega
      rw [if_neg (by omega), show (j + 1) * 3 + r - (j + 1) * 3 = r by omega]
theorem evRow_flat {ev : Nat → List Value} (h : ∀ m, ∀ v ∈ ev m, vflat 8 v = true) : ∀ j i v, (evRow ev j).get? i = some v → vflat 8 v = true := by
  intro j
  induction j with
  | zero =>
    intro i v hv
    have hv2 : (Row.ofList (ev 0)).get? i = some v := hv
    rw [Row.ofList_get?] at hv2
    exact h 0 v (List.mem_of_getElem? hv2)
  | succ j ih =>
    intro i v hv
    have hv2 : ((evRow ev j).more (ev (j + 1))).get? i = some v := hv
    rw [Row.more_get?] at hv2
    split at hv2
    · exact ih i v hv2
    · exact h (j + 1) v (List.mem_of_getElem? hv2)
theorem evC_len (nx : Nat) (u t : List UInt8) : (evC nx u t).length = 3 := rfl
theorem evC_flat (nx : Nat) (u t : List UInt8) : ∀ v ∈ evC nx u t, vflat 8 v = true := by
  intro v hv
  unfold evC at hv
  simp only [List.mem_cons, List.not_mem_nil, or_false] at hv
  rcases hv with rfl | rfl | rfl <;> rfl
theorem app_ok {ev : Nat → List Value} (h : ∀ m, (ev m).length = 3) {j : Nat} (hj : j < 1000) : appN (evRow ev j).len (j + 1) 1 3 := by
  refine ⟨by rw [Nat.ble_eq]; omega, ?_⟩
  rw [evRow_len h]
  exact Nat.beq_refl _
end Go.Proofs.YtbkgnlcjnimpcaaDoor.fanPlays
/- FanPlays: the program's Take: its states under other numbers. -/
namespace Go.Proofs.YtbkgnlcjnimpcaaDoor.fanPlays.tk
open Go Go.Ab Go.RowKit Go.Proofs.YtbkgnlcjnimpcaaDoor.strs Go.Proofs.YtbkgnlcjnimpcaaDoor.fanPlays
open Go.Proofs.YtbkgnlcjnimpcaaDoor.strs.dig (tblO)
set_option maxRecDepth 100000
theorem at5 (OS OP : AObj) (f f0 : Fd) (e : El) (A : Option Addr) (n c j : Nat) (EV : Value) (EO : AObj) (jt : Nat → Value) : (TS OS OP f f0 e A n c j EV EO jt).2.get 5 = tblO := by kernel_rfl
theorem at16 (OS OP : AObj) (f f0 : Fd) (e : El) (A : Option Addr) (n c j : Nat) (EV : Value) (EO : AObj) (jt : Nat → Value) : (TS OS OP f f0 e A n c j EV EO jt).2.get 16 = OS := by kernel_rfl
theorem at17 (OS OP : AObj) (f f0 : Fd) (e : El) (A : Option Addr) (n c j : Nat) (EV : Value) (EO : AObj) (jt : Nat → Value) : (TS OS OP f f0 e A n c j EV EO jt).2.get 17 = OP := by kernel_rfl
theorem at18 (OS OP : AObj) (f f0 : Fd) (e : El) (A : Option Addr) (n c j : Nat) (EV : Value) (EO : AObj) (jt : Nat → Value) : (TS OS OP f f0 e A n c j EV EO jt).2.get 18 = elO e := by kernel_rfl
theorem at19 (OS OP : AObj) (f f0 : Fd) (e : El) (A : Option Addr) (n c j : Nat) (EV : Value) (EO : AObj) (jt : Nat → Value) : (TS OS OP f f0 e A n c j EV EO jt).2.get 19 = EO := by kernel_rfl
theorem at63 (OS OP : AObj) (f f0 : Fd) (e : El) (A : Option Addr) (n c j : Nat) (EV : Value) (EO : AObj) (jt : Nat → Value) : Tget (TS OS OP f f0 e A n c j EV EO jt).1 63 = .slice A n c := by kernel_rfl
theorem reT {q : Nat} {OS OP : AObj} {f f0 : Fd} {e : El} {A : Option Addr} {n c j : Nat} {EV : Value} {EO : AObj} {x : St} {B : Base} {m : Mu} {a : Act} {w : World}
    (h16 : FixO Tryd.prog (shT q).σ OS) (h17 : FixO Tryd.prog (shT q).σ OP) (h18 : FixO Tryd.prog (shT q).σ (elO e)) (h19 : FixO Tryd.prog (shT q).σ EO) (h63 : FixV (shT q).σ (.slice A n c))
    (hc : ∀ jt jh, canonS (shT q) 8 x jt jh = some (TS OS OP f f0 e A n c j EV EO jt)) (hT : TRel m 96 x.1 a.tmps) (hr : Rel Tryd.prog B m x.2 w) (hG : GRel 8 m) :
    ∃ m2 jt, GRel 8 m2 ∧ TRel m2 96 (TS OS OP f f0 e A n c j EV EO jt).1 a.tmps ∧ Rel Tryd.prog B m2 (TS OS OP f f0 e A n c j EV EO jt).2 w ∧ ∀ b, b < 19 → m2 b = m b := by
  obtain ⟨m2, jt, _, h1, h2, h3, h4⟩ := canonW (S := shT q) (S2 := fun jt _ => TS OS OP f f0 e A n c j EV EO jt) (fun _ => rfl) (fun jt _ y h => by
    have hy : (Nat.beq y 5 || (Nat.beq y 16 || (Nat.beq y 17 || (Nat.beq y 18 || Nat.beq y 19)))) = true := h
    simp only [Bool.or_eq_true, Nat.beq_eq] at hy
    rcases hy with rfl | rfl | rfl | rfl | rfl
    · rw [at5]; exact FixO.of_one (.inr ⟨_, _, .inl rfl, fun i v hv => dig.tbl_plain.flat _ _ rfl i v hv⟩)
    · rw [at16]; exact h16
    · rw [at17]; exact h17
    · rw [at18]; exact h18
    · rw [at19]; exact h19) (fun jt _ i h => by
    obtain rfl := Nat.eq_of_beq_eq_true (show Nat.beq i 63 = true from h)
    rw [at63]; exact h63) hc hT hr hG
  refine ⟨m2, jt, h1, h2, h3, fun b hb => h4 b b ?_⟩
  have : b = 0 ∨ b = 1 ∨ b = 2 ∨ b = 3 ∨ b = 4 ∨ b = 5 ∨ b = 6 ∨ b = 7 ∨ b = 8 ∨ b = 9 ∨ b = 10 ∨ b = 11 ∨ b = 12 ∨ b = 13 ∨ b = 14 ∨ b = 15 ∨ b = 16 ∨ b = 17 ∨ b = 18 := by omega
  rcases this with rfl | rfl | rfl | rfl | rfl | rfl | rfl | rfl | rfl | rfl | rfl | rfl | rfl | rfl | rfl | rfl | rfl | rfl | rfl <;> rfl
end Go.Proofs.YtbkgnlcjnimpcaaDoor.fanPlays.tk
/- FanPlays: the program's Take: its loop, walked. -/
namespace Go.Proofs.YtbkgnlcjnimpcaaDoor.fanPlays.tk
open Go Go.Ab Go.RowKit Go.Proofs.YtbkgnlcjnimpcaaDoor.strs Go.Proofs.YtbkgnlcjnimpcaaDoor.fanPlays
open Go.Proofs.YtbkgnlcjnimpcaaDoor.fanReads (kl klok)
set_option maxRecDepth 100000
theorem okL : codeOk 8 96 lp = true := by kernel_rfl
theorem okR : codeOk 8 96 rest = true := by kernel_rfl
theorem plL : plansOk Tryd.prog lp = true := by kernel_rfl
theorem plR : plansOk Tryd.prog rest = true := by kernel_rfl
def EVj : Nat → Value
  | 0 => .slice none 0 0
  | j + 1 => evV (j + 1)
def evs (nx : Nat) (us ts : Nat → List UInt8) (m : Nat) : List Value := evC (nx + m) (us m) (ts m)
def EOj (nx : Nat) (us ts : Nat → List UInt8) : Nat → AObj
  | 0 => .dead
  | j + 1 => .cells (evRow (evs nx us ts) j) 50
/-- What is known of the posts that are told. -/
structure PostsAt (OP : AObj) (A : Option Addr) (n c : Nat) (P : Nat → Nat) (us ts : Nat → List UInt8) : Prop where
  len : n ≤ 64
  ix : ∀ i, i < n → (iaB Tryd.prog 28).un (.slice A n c) (e24 i) = some (pP (P i))
  ld : ∀ i, i < n → (ldO Tryd.prog 48).un OP (P i) = some (.agg ⟨[str (us i), str (ts i)]⟩)
theorem fixE (nx : Nat) (us ts : Nat → List UInt8) (q : Nat) : ∀ j, FixO Tryd.prog (shT q).σ (EOj nx us ts j)
  | 0 => FixO.of_one (.inl rfl)
  | j + 1 => FixO.of_one (.inr ⟨_, _, .inr rfl, evRow_flat (fun _ => evC_flat _ _ _) j⟩)
theorem rdN_ok {OP : AObj} {A : Option Addr} {n c nx : Nat} {P : Nat → Nat} {us ts : Nat → List UInt8} (hp : PostsAt OP A n c P us ts) {j : Nat} (hj : j < n) (hnx : nx < 9000000000) {q : Noted} (hq : NotedOk q) : NotedOk (rdN OP A n c j (P j) nx (us j) (ts j) q) := by
  have := hp.len
  exact uin.NotedOk.app (uin.NotedOk.app (NotedOk.cons (rf.ltn_ok (blt_t hj)) (NotedOk.cons (hp.ix j hj) (NotedOk.cons (hp.ld j hj) NotedOk.nil))) hq) (NotedOk.cons (congrArg i64 (wadd (a := nx) (b := 1) (by omega))) (NotedOk.cons (congrArg i64 (wadd (a := j) (b := 1) (by omega))) NotedOk.nil))
end Go.Proofs.YtbkgnlcjnimpcaaDoor.fanPlays.tk
