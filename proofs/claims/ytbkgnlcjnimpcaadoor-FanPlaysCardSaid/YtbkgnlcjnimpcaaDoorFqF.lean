/- FanPlays: a call of the script, laid where a round reads it. -/
import Derived.Test.YtbkgnlcjnimpcaaDoorFqD
namespace Go.Proofs.YtbkgnlcjnimpcaaDoor.fanPlays
open Go Go.Ab Go.RowKit Go.Proofs.YtbkgnlcjnimpcaaDoor.strs
open Go.Proofs.YtbkgnlcjnimpcaaDoor.fanPlays.tk (pP slP)
set_option maxRecDepth 100000
def elL (e : El) : List Value := [i64 e.kd, i64 e.nn, i64 e.k, str e.s1, str e.s2, str e.s3, str e.s4, str e.s5, str e.s6, i64 e.fr, i64 e.mo, i64 e.er, i64 e.rat, .slice e.pa e.pn e.pc]
/-- The script's row, as a round reads it: one call alone. -/
def rowE (e : El) (i j : Nat) : Value := match Nat.beq (j / 14) i with
  | true => (elL e).getD (j % 14) undef
  | false => un
theorem rowE_at (e : El) (i j : Nat) (hj : j < 14) : rowE e i (i * 14 + j) = (elL e).getD j undef := by
  unfold rowE
  rw [show (i * 14 + j) / 14 = i by omega, show (i * 14 + j) % 14 = j by omega, Nat.beq_refl]
def scrO (e : El) (N i : Nat) : AObj := .ro (rowFn (rowE e i) (N * 14)) 69
theorem lt14 {r : Nat} (h : r < 14) : r = 0 ∨ r = 1 ∨ r = 2 ∨ r = 3 ∨ r = 4 ∨ r = 5 ∨ r = 6 ∨ r = 7 ∨ r = 8 ∨ r = 9 ∨ r = 10 ∨ r = 11 ∨ r = 12 ∨ r = 13 := by omega
theorem el_fix {σ : List Nat} {e : El} (h : FixV σ (.slice e.pa e.pn e.pc)) {r : Nat} (hr : r < 14) : FixV σ ((elL e).getD r undef) := by
  rcases lt14 hr with rfl | rfl | rfl | rfl | rfl | rfl | rfl | rfl | rfl | rfl | rfl | rfl | rfl | rfl
  all_goals first | exact h | exact FixV.flat rfl
theorem scr_fix {σ : List Nat} {e : El} {N i : Nat} (h : FixV σ (.slice e.pa e.pn e.pc)) : FixO Tryd.prog σ (scrO e N i) := by
  refine FixO.ro fun j v hv => ?_
  obtain ⟨_, rfl⟩ := rowFn_lt hv
  unfold rowE
  cases Nat.beq (j / 14) i with
  | true => exact el_fix h (Nat.mod_lt _ (by decide))
  | false => exact FixV.any
theorem scr_hd {N c i : Nat} {e : El} (hi : i < N) (h200 : i < 200) : HdE N c (scrO e N i) i e := by
  refine ⟨hi, h200, ?_, ?_⟩
  · have := at_of (b := 16) (o := 0) (c := c) u63 size69 hi
    rw [Nat.zero_add] at this
    exact this
  · refine ldAgg (L := elL e) agg69 size69 rfl ?_ rfl ?_
    · show i * 14 + 14 ≤ N * 14
      omega
    · intro j hj
      rw [rowFn_get? _ _ _ (by omega), rowE_at e i j hj]
      rcases lt14 hj with rfl | rfl | rfl | rfl | rfl | rfl | rfl | rfl | rfl | rfl | rfl | rfl | rfl | rfl <;> rfl
/-! ### Posts -/
theorem sl_row {n c mm : Nat} (h : mm ≤ n) (hc : n ≤ c) (hh : c ≤ HALF) : sliceA Tryd.prog 28 (.slice (some ⟨17, 0, none⟩) n c) (some (e24 mm)) (some (.int .i64 (.ofNat n))) (some (.int .i64 (.ofNat n))) = some (.slice (if n = mm then some ⟨17, 0, none⟩ else some ⟨17, mm * 2, none⟩) (n - mm) (n - mm)) := by
  obtain ⟨i, hi, hs⟩ := size_of size48
  unfold sliceA
  rw [u28]
  dsimp only
  rw [hi]
  dsimp only [natOf, e24]
  have hl : lim n c = c := by unfold lim; rw [if_pos (by simpa using hh)]
  rw [hl]
  rw [if_pos (by
    simp only [Option.isSome_some, Bool.true_and, Bool.and_eq_true, Nat.ble_eq, Bool.or_eq_true]
    exact ⟨⟨⟨⟨h, Nat.le_refl _⟩, hc⟩, .inl hh⟩, by omega⟩)]
  rw [hs]
  congr 2
  by_cases e : n = mm
  · rw [if_pos e, if_pos e]
  · rw [if_neg e, if_neg e]
    simp only [Option.map_some]
    rw [show (⟨17, 0, none⟩ : Addr).add (mm * 2) = ⟨17, 0 + mm * 2, none⟩ from Addr_add_none _ _ _, Nat.zero_add]
theorem sl_fact {e : El} {n c mm : Nat} (ha : e.pa = some ⟨17, 0, none⟩) (hn : e.pn = n) (hp : e.pc = c) (h : mm ≤ n) (hc : n ≤ c) (hh : c ≤ HALF) : slP e mm (if n = mm then some ⟨17, 0, none⟩ else some ⟨17, mm * 2, none⟩) (n - mm) (n - mm) := by
  unfold slP
  rw [ha, hn, hp]
  exact ⟨rfl, (fun b q => by cases q), sl_row h hc hh⟩
theorem po_at {n c i o : Nat} (h : i < n) : (iaB Tryd.prog 28).un (.slice (some ⟨17, o, none⟩) n c) (e24 i) = some (pP (o + i * 2)) := at_of (b := 17) (o := o) (c := c) u28 size48 h
def txtOf : Value → List UInt8
  | .string s => s.data.toList
  | _ => []
/-- Posts that lie in a row. -/
theorem po_row {e : El} {n c : Nat} {g : Nat → Value} (ha : e.pa = some ⟨17, 0, none⟩) (hn : e.pn = n) (hp : e.pc = c) (hc : n ≤ c) (hh : c ≤ HALF) (hg : ∀ i, i < n → (∃ s, g (i * 2) = str s) ∧ ∃ s, g (i * 2 + 1) = str s) :
    Po (.ro (rowFn g (n * 2)) 48) e := by
  refine ⟨fun i => i * 2, fun i => txtOf (g (i * 2)), fun i => txtOf (g (i * 2 + 1)), fun i hi => ?_, fun mm hm => ?_⟩
  · rw [ha, hn, hp]
    rw [hn] at hi
    refine ⟨?_, ?_⟩
    · have := po_at (n := n) (c := c) (o := 0) hi
      rw [Nat.zero_add] at this
      exact this
    · obtain ⟨⟨s, hs⟩, s2, hs2⟩ := hg i hi
      refine ldAgg (L := [str (txtOf (g (i * 2))), str (txtOf (g (i * 2 + 1)))]) agg48 size48 rfl ?_ rfl ?_
      · show i * 2 + 2 ≤ n * 2
        omega
      · intro j hj
        show (rowFn g (n * 2)).get? (i * 2 + j) = _
        rw [rowFn_get? _ _ _ (by omega)]
        obtain rfl | rfl : j = 0 ∨ j = 1 := by omega
        · rw [Nat.add_zero, hs]; rfl
        · rw [hs2]; rfl
  · rw [hn] at hm ⊢
    refine ⟨_, _, sl_fact ha hn hp hm hc hh, fun σ hs => ?_, fun i hi => ?_⟩
    · split
      · exact FixV.slice hs
      · exact FixV.slice hs
    · rw [if_neg (by omega)]
      have := po_at (n := n - mm) (c := n - mm) (o := mm * 2) hi
      rw [← Nat.add_mul] at this
      exact this
/-- No posts. -/
theorem po_none {e : El} {OP : AObj} {c : Nat} (ha : e.pa = some ⟨17, 0, none⟩) (hn : e.pn = 0) (hp : e.pc = c) (hh : c ≤ HALF) : Po OP e := by
  refine ⟨fun i => i * 2, fun _ => [], fun _ => [], fun i hi => by omega, fun mm hm => ?_⟩
  obtain rfl : mm = 0 := by omega
  rw [hn]
  exact ⟨_, _, sl_fact ha hn hp (Nat.le_refl 0) (Nat.zero_le c) hh, fun σ hs => FixV.slice hs, fun i hi => by omega⟩
theorem nil_sl : sliceA Tryd.prog 28 (.slice none 0 0) (some (e24 0)) (some (.int .i64 (.ofNat 0))) (some (.int .i64 (.ofNat 0))) = some (.slice none 0 0) := by
  obtain ⟨i, hi, hs⟩ := size_of size48
  unfold sliceA
  rw [u28]
  dsimp only
  rw [hi]
  rfl
theorem po_nil {e : El} {OP : AObj} (ha : e.pa = none) (hn : e.pn = 0) (hp : e.pc = 0) : Po OP e := by
  refine ⟨fun i => i * 2, fun _ => [], fun _ => [], fun i hi => by omega, fun mm hm => ?_⟩
  obtain rfl : mm = 0 := by omega
  rw [hn]
  refine ⟨none, 0, ?_, fun σ hs => FixV.flat rfl, fun i hi => by omega⟩
  unfold slP
  rw [ha, hn, hp]
  exact ⟨rfl, (fun b q => by cases q), nil_sl⟩
end Go.Proofs.YtbkgnlcjnimpcaaDoor.fanPlays
/- FanPlays: a round, from what the reading tells of the script. -/
namespace Go.Proofs.YtbkgnlcjnimpcaaDoor.fanPlays
open Go Go.Ab Go.RowKit Go.Proofs.YtbkgnlcjnimpcaaDoor.strs
open Go.Proofs.YtbkgnlcjnimpcaaDoor.strs.dig (tblO)
open Go.Proofs.YtbkgnlcjnimpcaaDoor.fanPlays.tk (pP slP)
open Go.Proofs.YtbkgnlcjnimpcaaDoor.fanPlays.ev (tbl_fix vs_fix lt18)
set_option maxRecDepth 100000
theorem put16 (VV : Value) (OP o : AObj) (f : Fd) (i : Nat) (jt : Nat → Value) : (SP VV .dead OP f i jt).2.put 16 o = (SP VV o OP f i jt).2 := by kernel_rfl
theorem put17 (VV : Value) (OS o : AObj) (f : Fd) (i : Nat) (jt : Nat → Value) : (SP VV OS .dead f i jt).2.put 17 o = (SP VV OS o f i jt).2 := by kernel_rfl
theorem kill16 (VV : Value) (OS OP : AObj) (f : Fd) (i : Nat) (jt : Nat → Value) : (SP VV OS OP f i jt).2.put 16 .dead = (SP VV .dead OP f i jt).2 := by kernel_rfl
theorem kill17 (VV : Value) (OS OP : AObj) (f : Fd) (i : Nat) (jt : Nat → Value) : (SP VV OS OP f i jt).2.put 17 .dead = (SP VV OS .dead f i jt).2 := by kernel_rfl
theorem get16 (VV : Value) (OS OP : AObj) (f : Fd) (i : Nat) (jt : Nat → Value) : (SP VV OS OP f i jt).2.get 16 = OS := by kernel_rfl
theorem get17 (VV : Value) (OS OP : AObj) (f : Fd) (i : Nat) (jt : Nat → Value) : (SP VV OS OP f i jt).2.get 17 = OP := by kernel_rfl
theorem nextP (VV : Value) (OS OP : AObj) (f : Fd) (i : Nat) (jt : Nat → Value) : (SP VV OS OP f i jt).2.next = 18 ∧ (SP VV OS OP f i jt).2.lim = 1099511627776 := ⟨rfl, rfl⟩
theorem slot1 (VV : Value) (OS OP : AObj) (f : Fd) (i : Nat) (jt : Nat → Value) : (fun s => (s.2.get 5, Tget s.1 1)) (SP VV OS OP f i jt) = (tblO, VV) := by kernel_rfl
def shK : Shape := ⟨[0, 1, 2, 3, 4, 5, 6, 7, 8, 9, 10, 11, 12, 13, 14, 15, 16, 1017], 178, inL [5, 7, 9], fun _ _ => true, fun _ => false, fun y => Nat.beq y 5, fun t => Nat.beq t 1⟩
theorem clr (VV : Value) (f : Fd) (i : Nat) (j0 jt : Nat → Value) (jh : Nat → Nat → Value) : canonS shK 8 (SP VV .dead .dead f i j0) jt jh = some (SP VV .dead .dead f i jt) := by kernel_rfl
/-- What the reading tells of the script. -/
structure Scr {H : Type} (enc : TypeId × Value → H) (W : World) (base : Nat) (held : Bool) (b off N : Nat) (C : Array Value) : Prop where
  heap : ∃ t fr, W.heap[b]? = some (.cells C t fr)
  size : 0 < N → off + N * 14 ≤ C.size
  el : ∀ i, i < N → CallAt enc W base (fun _ => true) held (fun j => C.getD (off + (i * 14 + j)) undef)
/-- What is between rounds. -/
structure Inv (W : World) (N c b off : Nat) (f : Fd) (i : Nat) (a : Act) (w : World) : Prop where
  bd : Bd f i
  ex : ∃ m jt cap, m 16 = some ⟨b, off, cap⟩ ∧ m 17 = none ∧ GRel 8 m ∧ TRel m 178 (SP (VS N c) .dead .dead f i jt).1 a.tmps ∧ Rel Tryd.prog (baseOf W) m (SP (VS N c) .dead .dead f i jt).2 w
theorem inv_of {W : World} {N c b off cap : Nat} {OS OP : AObj} {f : Fd} {i : Nat} {m : Mu} {j0 : Nat → Value} {a : Act} {w : World} (hb : Bd f i) (h16 : m 16 = some ⟨b, off, cap⟩) (hG : GRel 8 m) (hT : TRel m 178 (SP (VS N c) OS OP f i j0).1 a.tmps) (hr : Rel Tryd.prog (baseOf W) m (SP (VS N c) OS OP f i j0).2 w) : Inv W N c b off f i a w := by
  have r1 := (hr.kill 16)
  rw [kill16] at r1
  have r2 := r1.kill 17
  rw [kill17] at r2
  have t2 : TRel m 178 (SP (VS N c) .dead .dead f i j0).1 a.tmps := hT
  obtain ⟨m2, jt, _, h1, h2, h3, h4⟩ := canonW (S := shK) (S2 := fun jt _ => SP (VS N c) .dead .dead f i jt) (fun _ => rfl) (fun jt _ y h => by
    obtain rfl := Nat.eq_of_beq_eq_true (show Nat.beq y 5 = true from h)
    rw [(Prod.mk.inj (slot1 (VS N c) .dead .dead f i jt)).1]
    exact tbl_fix) (fun jt _ y h => by
    obtain rfl := Nat.eq_of_beq_eq_true (show Nat.beq y 1 = true from h)
    rw [(Prod.mk.inj (slot1 (VS N c) .dead .dead f i jt)).2]
    exact vs_fix rfl) (fun jt jh => clr (VS N c) f i j0 jt jh) t2 r2 hG
  refine ⟨hb, m2, jt, cap, (h4 16 16 rfl).trans h16, ?_, h1, h2, h3⟩
  rw [h4 17 1017 rfl]
  exact (r2.fresh 1017 (by rw [(nextP (VS N c) .dead .dead f i j0).1]; omega) (by rw [(nextP (VS N c) .dead .dead f i j0).2]; omega)).2
/-- The cells of a call are no truth values. -/
theorem call_plain {H : Type} {enc : TypeId × Value → H} {W : World} {base : Nat} {spare : Nat → Bool} {held : Bool} {g : Nat → Value} (h : CallAt enc W base spare held g) {r : Nat} (hr : r < 14) : (∀ b, g r ≠ .bool b) ∧ (∀ c, g r ≠ .agg c) ∧ ∀ c, g r ≠ .tuple c := by
  have fi : ∀ {v : Value}, (∃ z, v = i64 z) → (∀ b, v ≠ .bool b) ∧ (∀ c, v ≠ .agg c) ∧ ∀ c, v ≠ .tuple c := by
    rintro v ⟨z, rfl⟩
    exact ⟨(fun b q => by cases q), (fun b q => by cases q), (fun b q => by cases q)⟩
  have fs : ∀ {v : Value}, (∃ z, v = str z) → (∀ b, v ≠ .bool b) ∧ (∀ c, v ≠ .agg c) ∧ ∀ c, v ≠ .tuple c := by
    rintro v ⟨z, rfl⟩
    exact ⟨(fun b q => by cases q), (fun b q => by cases q), (fun b q => by cases q)⟩
  have hp : (∀ b, g 13 ≠ .bool b) ∧ (∀ c, g 13 ≠ .agg c) ∧ ∀ c, g 13 ≠ .tuple c := by
    obtain ⟨fu, y, hy⟩ := h.posts
    rcases DataW.trod_slice u28 hy with ⟨hv, _⟩ | ⟨a, n, c, _, _, _, _, hv, _⟩
    · have := (List.cons.inj hv).1
      rw [this]
      exact ⟨(fun b q => by cases q), (fun b q => by cases q), (fun b q => by cases q)⟩
    · have := (List.cons.inj hv).1
      rw [this]
      exact ⟨(fun b q => by cases q), (fun b q => by cases q), (fun b q => by cases q)⟩
  rcases lt14 hr with rfl | rfl | rfl | rfl | rfl | rfl | rfl | rfl | rfl | rfl | rfl | rfl | rfl | rfl
  · exact fi h.kind
  · exact fi h.num
  · exact fi h.op.kind
  · exact fs (h.op.txt 1 (by omega) (by omega))
  · exact fs (h.op.txt 2 (by omega) (by omega))
  · exact fs (h.op.txt 3 (by omega) (by omega))
  · exact fs (h.op.txt 4 (by omega) (by omega))
  · exact fs (h.op.txt 5 (by omega) (by omega))
  · exact fs (h.op.txt 6 (by omega) (by omega))
  · exact fi h.op.frm
  · exact fi h.op.most
  · exact fi h.err
  · exact fi h.at'
  · exact hp
/-- The call at a place, where its posts are known. -/
theorem el_of {H : Type} {enc : TypeId × Value → H} {W : World} {base : Nat} {spare : Nat → Bool} {held : Bool} {g : Nat → Value} (h : CallAt enc W base spare held g) (pa : Option Addr) (pn pc : Nat) : ∃ e : El, e.pa = pa ∧ e.pn = pn ∧ e.pc = pc ∧ ∀ (m : Mu), VRel m (.slice pa pn pc) (g 13) → ∀ r, r < 14 → VRel m ((elL e).getD r undef) (g r) := by
  obtain ⟨z0, h0⟩ := h.kind
  obtain ⟨z1, h1⟩ := h.num
  obtain ⟨z2, h2⟩ := h.op.kind
  obtain ⟨s1, e1⟩ := h.op.txt 1 (by omega) (by omega)
  obtain ⟨s2, e2⟩ := h.op.txt 2 (by omega) (by omega)
  obtain ⟨s3, e3⟩ := h.op.txt 3 (by omega) (by omega)
  obtain ⟨s4, e4⟩ := h.op.txt 4 (by omega) (by omega)
  obtain ⟨s5, e5⟩ := h.op.txt 5 (by omega) (by omega)
  obtain ⟨s6, e6⟩ := h.op.txt 6 (by omega) (by omega)
  obtain ⟨z9, h9⟩ := h.op.frm
  obtain ⟨z10, h10⟩ := h.op.most
  obtain ⟨z11, h11⟩ := h.err
  obtain ⟨z12, h12⟩ := h.at'
  have h2' : g 2 = i64 z2 := h2
  have e1' : g 3 = str s1 := e1
  have e2' : g 4 = str s2 := e2
  have e3' : g 5 = str s3 := e3
  have e4' : g 6 = str s4 := e4
  have e5' : g 7 = str s5 := e5
  have e6' : g 8 = str s6 := e6
  have h9' : g 9 = i64 z9 := h9
  have h10' : g 10 = i64 z10 := h10
  refine ⟨⟨z0, z1, z2, s1, s2, s3, s4, s5, s6, z9, z10, z11, z12, pa, pn, pc⟩, rfl, rfl, rfl, fun m hv r hr => ?_⟩
  rcases lt14 hr with rfl | rfl | rfl | rfl | rfl | rfl | rfl | rfl | rfl | rfl | rfl | rfl | rfl | rfl
  · rw [h0]; exact vflat_rel _ 8 _ rfl
  · rw [h1]; exact vflat_rel _ 8 _ rfl
  · rw [h2']; exact vflat_rel _ 8 _ rfl
  · rw [e1']; exact vflat_rel _ 8 _ rfl
  · rw [e2']; exact vflat_rel _ 8 _ rfl
  · rw [e3']; exact vflat_rel _ 8 _ rfl
  · rw [e4']; exact vflat_rel _ 8 _ rfl
  · rw [e5']; exact vflat_rel _ 8 _ rfl
  · rw [e6']; exact vflat_rel _ 8 _ rfl
  · rw [h9']; exact vflat_rel _ 8 _ rfl
  · rw [h10']; exact vflat_rel _ 8 _ rfl
  · rw [h11]; exact vflat_rel _ 8 _ rfl
  · rw [h12]; exact vflat_rel _ 8 _ rfl
  · exact hv
/-- The script's row is laid. -/
theorem lay16 {H : Type} {enc : TypeId × Value → H} {W : World} {base : Nat} {held : Bool} {N c b off cap i : Nat} {C : Array Value} (hs : Scr enc W base held b off N C) (hi : i < N) {e : El} {OP : AObj} {f : Fd} {m : Mu} {j0 : Nat → Value} {w : World}
    (h16 : m 16 = some ⟨b, off, cap⟩) (he : ∀ r, r < 14 → VRel m ((elL e).getD r undef) (C.getD (off + (i * 14 + r)) undef)) (hr : Rel Tryd.prog (baseOf W) m (SP (VS N c) .dead OP f i j0).2 w) : Rel Tryd.prog (baseOf W) m (SP (VS N c) (scrO e N i) OP f i j0).2 w := by
  obtain ⟨t, fr, hC⟩ := hs.heap
  have hsz := hs.size (by omega)
  have hp : (baseOf W).prot b = some (.cells C t fr) := hC
  rw [← put16]
  refine hr.putRo (l := ⟨b, off, cap⟩) (get16 ..) (by rw [(nextP (VS N c) .dead OP f i j0).1]; omega) h16 (by rw [hp]; intro q; cases q) ⟨C, t, fr, hr.prot b _ hp, hsz, fun j v hv => ?_⟩
  obtain ⟨hj, rfl⟩ := rowFn_lt hv
  have hlt : off + j < C.size := by omega
  refine ⟨C.getD (off + j) undef, by rw [Array.getD_eq_getD_getElem?, Array.getElem?_eq_getElem hlt]; rfl, ?_⟩
  have hm : j % 14 < 14 := Nat.mod_lt _ (by decide)
  have hjj : off + j = off + (j / 14 * 14 + j % 14) := by omega
  unfold rowE
  cases hb : Nat.beq (j / 14) i with
  | true =>
    obtain rfl := Nat.eq_of_beq_eq_true hb
    rw [hjj]
    exact he _ hm
  | false =>
    obtain ⟨p1, p2, p3⟩ := call_plain (hs.el (j / 14) (by omega)) hm
    rw [hjj]
    exact .any 0 _ p1 p2 p3
/-- A round, from the reading. -/
theorem turn {H : Type} {enc : TypeId × Value → H} {W : World} {base : Nat} {held : Bool} {N c b off i : Nat} {C : Array Value} (hs : Scr enc W base held b off N C) (hi : i < N) (h200 : i < 200) {f : Fd} {a : Act} {w : World} {Q : Exit → Act → World → Prop}
    (hI : Inv W N c b off f i a w) (hk : ∀ f' a' w', a'.defers = a.defers → Inv W N c b off f' (i + 1) a' w' → Q .normal a' w') : lp.wp Tryd.prog Q a w := by
  obtain ⟨hb, m, jt, cap, h16, h17, hG, hT, hr⟩ := hI
  have hc := hs.el i hi
  obtain ⟨fu, y, hy⟩ := hc.posts
  -- what is laid gives the round
  have fin : ∀ (e : El) (OP : AObj) (m1 : Mu), Mu.le m m1 → Rel Tryd.prog (baseOf W) m1 (SP (VS N c) .dead OP f i jt).2 w → (∀ r, r < 14 → VRel m1 ((elL e).getD r undef) (C.getD (off + (i * 14 + r)) undef)) → Po OP e → (∀ σ, FixO Tryd.prog σ OP) → (∀ σ, atOf σ 17 = some 17 → FixV σ (.slice e.pa e.pn e.pc)) → lp.wp Tryd.prog Q a w := by
    intro e OP m1 hle hr1 he hp hfo hfv
    have g16 : m1 16 = some ⟨b, off, cap⟩ := hle _ _ h16
    have hT1 : TRel m1 178 (SP (VS N c) (scrO e N i) OP f i jt).1 a.tmps := hT.mono hle
    refine step hb (scr_hd hi h200) ⟨fun σ h => scr_fix (hfv σ h), hfo, hfv⟩ hp hT1 (lay16 hs hi g16 he hr1) (hG.mono hle) ?_
    intro f' m' j' a' w' hb' x16 g' t' d' q'
    exact hk f' a' w' d' (inv_of hb' (x16.trans g16) g' t' q')
  rcases rawSlice_of u28 (by rw [z48]; decide) hy with hv | ⟨ad, hv⟩ | ⟨b2, off2, n2, c2, C2, t2, fr2, hv, hc0, hn2, hc2, hC2, hsz2, hel2⟩
  · obtain ⟨e, p1, p2, p3, p4⟩ := el_of hc none 0 0
    refine fin e .dead m (Mu.le_refl m) hr (p4 m ?_) (po_nil p1 p2 p3) (fun σ => FixO.of_one (.inl rfl)) (fun σ _ => by rw [p1, p2, p3]; exact FixV.flat rfl)
    rw [hv]
    exact .nilSlice 0 0
  · obtain ⟨e, p1, p2, p3, p4⟩ := el_of hc (some ⟨17, 0, none⟩) 0 0
    refine fin e .dead m (Mu.le_refl m) hr (p4 m ?_) (po_none p1 p2 p3 (Nat.zero_le _)) (fun σ => FixO.of_one (.inl rfl)) (fun σ h => by rw [p1, p2, p3]; exact FixV.slice h)
    rw [hv]
    exact .slice0 17 0 ad
  · obtain ⟨e, p1, p2, p3, p4⟩ := el_of hc (some ⟨17, 0, none⟩) n2 c2
    have hle : Mu.le m (m.add 17 ⟨b2, off2, 0⟩) := Mu.le_add h17
    have r1 := hr.nameAt h17 (by rw [(nextP (VS N c) .dead .dead f i jt).1]; omega) ⟨b2, off2, 0⟩
    have hv2 : VRel (m.add 17 ⟨b2, off2, 0⟩) (.slice (some ⟨17, 0, none⟩) n2 c2) (C.getD (off + (i * 14 + 13)) undef) := by
      rw [hv]
      exact VRel.slice 17 0 n2 c2 ⟨b2, off2, 0⟩ (Mu.add_self _ _ _) hc2
    rcases Nat.eq_zero_or_pos n2 with h0 | h0
    · subst h0
      exact fin e .dead _ hle r1 (p4 _ hv2) (po_none p1 p2 p3 hc2) (fun σ => FixO.of_one (.inl rfl)) (fun σ h => by rw [p1, p2, p3]; exact FixV.slice h)
    · have hsz := hsz2 h0
      rw [z48] at hsz hel2
      have hg : ∀ k, k < n2 → (∃ s, C2.getD (off2 + (k * 2)) undef = str s) ∧ ∃ s, C2.getD (off2 + (k * 2 + 1)) undef = str s := by
        intro k hk
        obtain ⟨fu2, y2, hy2⟩ := hel2 k hk
        have h2 : ∃ y, DataW.trod enc Tryd.prog W base (fun _ => true) held fu2 48 [C2.getD (off2 + (k * 2 + 0)) undef, C2.getD (off2 + (k * 2 + 1)) undef] = some y := ⟨y2, hy2⟩
        exact post_at h2
      have hp : (baseOf W).prot b2 = some (.cells C2 t2 fr2) := hC2
      have r2 := r1.putRo (l := ⟨b2, off2, 0⟩) (c := rowFn (fun j => C2.getD (off2 + j) undef) (n2 * 2)) (t := 48) (get17 ..) (by rw [(nextP (VS N c) .dead .dead f i jt).1]; omega) (Mu.add_self _ _ _) (by rw [hp]; intro q; cases q) ⟨C2, t2, fr2, r1.prot b2 _ hp, hsz, fun j v hv => by
        obtain ⟨hj, rfl⟩ := rowFn_lt hv
        have hlt : off2 + j < C2.size := by omega
        refine ⟨C2.getD (off2 + j) undef, by rw [Array.getD_eq_getD_getElem?, Array.getElem?_eq_getElem hlt]; rfl, ?_⟩
        have hd : j = j / 2 * 2 + j % 2 := by omega
        obtain ⟨⟨s1, e1⟩, s2, e2⟩ := hg (j / 2) (by omega)
        have hm : j % 2 = 0 ∨ j % 2 = 1 := by omega
        rcases hm with hm | hm
        · rw [show off2 + j = off2 + (j / 2 * 2) by omega, e1]; exact vflat_rel _ 8 _ rfl
        · rw [show off2 + j = off2 + (j / 2 * 2 + 1) by omega, e2]; exact vflat_rel _ 8 _ rfl⟩
      rw [put17] at r2
      refine fin e _ _ hle r2 (p4 _ hv2) (po_row p1 p2 p3 hn2 hc2 hg) (fun σ => FixO.ro fun j v hv => ?_) (fun σ h => by rw [p1, p2, p3]; exact FixV.slice h)
      obtain ⟨hj, rfl⟩ := rowFn_lt hv
      obtain ⟨⟨s1, e1⟩, s2, e2⟩ := hg (j / 2) (by omega)
      have hm : j % 2 = 0 ∨ j % 2 = 1 := by omega
      rcases hm with hm | hm
      · rw [show off2 + j = off2 + (j / 2 * 2) by omega, e1]; exact FixV.flat rfl
      · rw [show off2 + j = off2 + (j / 2 * 2 + 1) by omega, e2]; exact FixV.flat rfl
end Go.Proofs.YtbkgnlcjnimpcaaDoor.fanPlays
