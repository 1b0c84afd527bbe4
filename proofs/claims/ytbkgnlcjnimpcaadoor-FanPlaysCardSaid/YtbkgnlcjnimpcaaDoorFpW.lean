/- FanPlays: what rows hold; the comparison of events, walked. -/
import Derived.Test.YtbkgnlcjnimpcaaDoorFpV
namespace Go.Proofs.YtbkgnlcjnimpcaaDoor.fanPlays
open Go Go.Ab Go.RowKit Go.Proofs.YtbkgnlcjnimpcaaDoor.strs
open Go.Proofs.YtbkgnlcjnimpcaaDoor.fanPlays.tk (evs evC)
set_option maxRecDepth 100000
theorem size_of {t : TypeId} {n : Nat} (h : (Tryd.prog.info? t).map (·.size) = some n) : ∃ i, Tryd.prog.info? t = some i ∧ i.size = n := by
  cases hi : Tryd.prog.info? t with
  | none => rw [hi] at h; cases h
  | some i => rw [hi] at h; exact ⟨i, rfl, Option.some.inj h⟩
theorem at_of {t e s b o n c i : Nat} (hu : Tryd.prog.underlying t = some (.slice e)) (hs : (Tryd.prog.info? e).map (·.size) = some s) (h : i < n) :
    (iaB Tryd.prog t).un (.slice (some ⟨b, o, none⟩) n c) (e24 i) = some (.pointer (some ⟨b, o + i * s, none⟩)) := by
  obtain ⟨ei, hi, he⟩ := size_of hs
  have := ix_slice (P := Tryd.prog) (b := b) (o := o) (n := n) (c := c) (k := .i64) hu hi h
  rw [he] at this
  exact this
theorem ldAgg {t s o : Nat} {c : Row} {ob : AObj} {L : List Value} (ha : (Tryd.prog.underlying t).map isAggD = some true) (hs : (Tryd.prog.info? t).map (·.size) = some s) (hob : rowIn ob = some c) (hle : o + s ≤ c.len) (hL : L.length = s) (hx : ∀ j, j < s → c.get? (o + j) = L[j]?) :
    (ldO Tryd.prog t).un ob o = some (.agg ⟨L⟩) := by
  obtain ⟨i, hi, rfl⟩ := size_of hs
  cases hd : Tryd.prog.underlying t with
  | none => rw [hd] at ha; cases ha
  | some d =>
    have hag : isAggD d = true := by
      rw [hd] at ha
      exact Option.some.inj ha
    unfold ldO
    rw [hd, hi]
    dsimp only
    rw [hag]
    dsimp only
    rw [hob]
    obtain ⟨n, t'⟩ := c
    dsimp only
    rw [show Nat.ble (Nat.add o i.size) n = true by rw [Nat.ble_eq]; exact hle]
    dsimp only
    rw [show partB i.size t' o = Row.part ⟨n, t'⟩ o i.size from partB_eq ⟨n, t'⟩ i.size o]
    have : Row.part ⟨n, t'⟩ o i.size = L := by
      refine List.ext_getElem? fun j => ?_
      rcases Nat.lt_or_ge j i.size with hj | hj
      · rw [Row.part_get? _ _ _ _ hle hj]
        exact hx j hj
      · rw [List.getElem?_eq_none (by rw [Row.part_length]; exact hj), List.getElem?_eq_none (by omega)]
    rw [this]
theorem ldOne {t s o : Nat} {c : Row} {ob : AObj} {v : Value} (ha : (Tryd.prog.underlying t).map isAggD = some false) (hs : (Tryd.prog.info? t).map (·.size) = some s) (hob : rowIn ob = some c) (hx : c.get? o = some v) : (ldO Tryd.prog t).un ob o = some v := by
  obtain ⟨i, hi, rfl⟩ := size_of hs
  cases hd : Tryd.prog.underlying t with
  | none => rw [hd] at ha; cases ha
  | some d =>
    have hag : isAggD d = false := by
      rw [hd] at ha
      exact Option.some.inj ha
    unfold ldO
    rw [hd, hi]
    dsimp only
    rw [hag]
    dsimp only
    rw [hob]
    dsimp only
    rw [rowGet_eq, hx]
theorem agg48 : (Tryd.prog.underlying 48).map isAggD = some true := by kernel_rfl
theorem agg69 : (Tryd.prog.underlying 69).map isAggD = some true := by kernel_rfl
theorem agg3 : (Tryd.prog.underlying 3).map isAggD = some false := by kernel_rfl
theorem size48 : (Tryd.prog.info? 48).map (·.size) = some 2 := by kernel_rfl
theorem size69 : (Tryd.prog.info? 69).map (·.size) = some 14 := by kernel_rfl
theorem size3 : (Tryd.prog.info? 3).map (·.size) = some 1 := by kernel_rfl
theorem size50 : (Tryd.prog.info? 50).map (·.size) = some 3 := by kernel_rfl
theorem size98 : (Tryd.prog.info? 98).map (·.size) = some 3 := by kernel_rfl
theorem u44 : Tryd.prog.underlying 44 = some (.slice 50) := by kernel_rfl
theorem u70 : Tryd.prog.underlying 70 = some (.slice 98) := by kernel_rfl
/-- What the events' row tells. -/
theorem ev_num {nx n i t : Nat} {us ts : Nat → List UInt8} (h : i < n + 1) : (ldO Tryd.prog 3).un (.cells (evRow (evs nx us ts) n) t) (Nat.add (i * 3) 0) = some (e24 (nx + i)) :=
  ldOne agg3 size3 rfl (evRow_get (fun _ => rfl) n i 0 (by omega) (by omega))
theorem ev_post {nx n i t : Nat} {us ts : Nat → List UInt8} (h : i < n + 1) : (ldO Tryd.prog 48).un (.cells (evRow (evs nx us ts) n) t) (Nat.add (i * 3) 1) = some (.agg ⟨[str (us i), str (ts i)]⟩) := by
  refine ldAgg agg48 size48 rfl ?_ rfl ?_
  · rw [evRow_len (fun _ => rfl)]
    show i * 3 + 1 + 2 ≤ (n + 1) * 3
    omega
  · intro j hj
    have := evRow_get (ev := evs nx us ts) (fun _ => rfl) n i (1 + j) (by omega) (by omega)
    show (evRow (evs nx us ts) n).get? (i * 3 + 1 + j) = _
    rw [Nat.add_assoc, this]
    obtain rfl | rfl : j = 0 ∨ j = 1 := by omega
    · rfl
    · rfl
end Go.Proofs.YtbkgnlcjnimpcaaDoor.fanPlays
namespace Go.Proofs.YtbkgnlcjnimpcaaDoor.fanPlays.sm
open Go Go.Ab Go.RowKit Go.Proofs.YtbkgnlcjnimpcaaDoor.strs Go.Proofs.YtbkgnlcjnimpcaaDoor.fanPlays
open Go.Proofs.YtbkgnlcjnimpcaaDoor.strs.dig (tblO)
open Go.Proofs.YtbkgnlcjnimpcaaDoor.fanPlays.tk (elO stR normX exitX evs EVj EOj evV)
open Go.Proofs.YtbkgnlcjnimpcaaDoor.fanPlays.dk (opO reO EVd EOd evD inc_ok)
open Go.Proofs.YtbkgnlcjnimpcaaDoor.fanReads (kl klok)
set_option maxRecDepth 100000
theorem at5 (OS OP E1 E2 : AObj) (g f0 f : Fd) (e : El) (A : Option Addr) (B : Option Addr) (n c d i : Nat) (jt : Nat → Value) : (SS OS OP E1 E2 g f0 f e A B n c d i jt).2.get 5 = tblO := by kernel_rfl
theorem at16 (OS OP E1 E2 : AObj) (g f0 f : Fd) (e : El) (A : Option Addr) (B : Option Addr) (n c d i : Nat) (jt : Nat → Value) : (SS OS OP E1 E2 g f0 f e A B n c d i jt).2.get 16 = OS := by kernel_rfl
theorem at17 (OS OP E1 E2 : AObj) (g f0 f : Fd) (e : El) (A : Option Addr) (B : Option Addr) (n c d i : Nat) (jt : Nat → Value) : (SS OS OP E1 E2 g f0 f e A B n c d i jt).2.get 17 = OP := by kernel_rfl
theorem at18 (OS OP E1 E2 : AObj) (g f0 f : Fd) (e : El) (A : Option Addr) (B : Option Addr) (n c d i : Nat) (jt : Nat → Value) : (SS OS OP E1 E2 g f0 f e A B n c d i jt).2.get 18 = elO e := by kernel_rfl
theorem at19 (OS OP E1 E2 : AObj) (g f0 f : Fd) (e : El) (A : Option Addr) (B : Option Addr) (n c d i : Nat) (jt : Nat → Value) : (SS OS OP E1 E2 g f0 f e A B n c d i jt).2.get 19 = E1 := by kernel_rfl
theorem at22 (OS OP E1 E2 : AObj) (g f0 f : Fd) (e : El) (A : Option Addr) (B : Option Addr) (n c d i : Nat) (jt : Nat → Value) : (SS OS OP E1 E2 g f0 f e A B n c d i jt).2.get 22 = reO e := by kernel_rfl
theorem at24 (OS OP E1 E2 : AObj) (g f0 f : Fd) (e : El) (A : Option Addr) (B : Option Addr) (n c d i : Nat) (jt : Nat → Value) : (SS OS OP E1 E2 g f0 f e A B n c d i jt).2.get 24 = E2 := by kernel_rfl
theorem atT (OS OP E1 E2 : AObj) (g f0 f : Fd) (e : El) (A : Option Addr) (B : Option Addr) (n c d i : Nat) (jt : Nat → Value) : (fun T => (Tget T 0, Tget T 1)) (SS OS OP E1 E2 g f0 f e A B n c d i jt).1 = (.slice A n c, .slice B n d) := by kernel_rfl
theorem reS' {OS OP E1 E2 : AObj} {g f0 f : Fd} {e : El} {A : Option Addr} {B' : Option Addr} {n c d i : Nat} {x : St} {B : Base} {m : Mu} {a : Act} {w : World}
    (h16 : FixO Tryd.prog shS.σ OS) (h17 : FixO Tryd.prog shS.σ OP) (h18 : FixO Tryd.prog shS.σ (elO e)) (h19 : FixO Tryd.prog shS.σ E1) (h22 : FixO Tryd.prog shS.σ (reO e)) (h24 : FixO Tryd.prog shS.σ E2) (hA : FixV shS.σ (.slice A n c)) (hB : FixV shS.σ (.slice B' n d))
    (hc : ∀ jt jh, canonS shS 8 x jt jh = some (SS OS OP E1 E2 g f0 f e A B' n c d i jt)) (hT : TRel m 41 x.1 a.tmps) (hr : Rel Tryd.prog B m x.2 w) (hG : GRel 8 m) :
    ∃ m2 jt, GRel 8 m2 ∧ TRel m2 41 (SS OS OP E1 E2 g f0 f e A B' n c d i jt).1 a.tmps ∧ Rel Tryd.prog B m2 (SS OS OP E1 E2 g f0 f e A B' n c d i jt).2 w ∧ ∀ b, b < 26 → m2 b = m b := by
  obtain ⟨m2, jt, _, h1, h2, h3, h4⟩ := canonW (S := shS) (S2 := fun jt _ => SS OS OP E1 E2 g f0 f e A B' n c d i jt) (fun _ => rfl) (fun jt _ y h => by
    have hy : (Nat.beq y 5 || (Nat.beq y 16 || (Nat.beq y 17 || (Nat.beq y 18 || (Nat.beq y 19 || (Nat.beq y 22 || Nat.beq y 24)))))) = true := h
    simp only [Bool.or_eq_true, Nat.beq_eq] at hy
    rcases hy with rfl | rfl | rfl | rfl | rfl | rfl | rfl
    · rw [at5]; exact FixO.of_one (.inr ⟨_, _, .inl rfl, fun i v hv => dig.tbl_plain.flat _ _ rfl i v hv⟩)
    · rw [at16]; exact h16
    · rw [at17]; exact h17
    · rw [at18]; exact h18
    · rw [at19]; exact h19
    · rw [at22]; exact h22
    · rw [at24]; exact h24) (fun jt _ y h => by
    have hy : (Nat.beq y 0 || Nat.beq y 1) = true := h
    simp only [Bool.or_eq_true, Nat.beq_eq] at hy
    obtain ⟨q1, q2⟩ := Prod.mk.inj (atT OS OP E1 E2 g f0 f e A B' n c d i jt)
    rcases hy with rfl | rfl
    · rw [q1]; exact hA
    · rw [q2]; exact hB) hc hT hr hG
  refine ⟨m2, jt, h1, h2, h3, fun b hb => h4 b b ?_⟩
  have : b = 0 ∨ b = 1 ∨ b = 2 ∨ b = 3 ∨ b = 4 ∨ b = 5 ∨ b = 6 ∨ b = 7 ∨ b = 8 ∨ b = 9 ∨ b = 10 ∨ b = 11 ∨ b = 12 ∨ b = 13 ∨ b = 14 ∨ b = 15 ∨ b = 16 ∨ b = 17 ∨ b = 18 ∨ b = 19 ∨ b = 20 ∨ b = 21 ∨ b = 22 ∨ b = 23 ∨ b = 24 ∨ b = 25 := by omega
  rcases this with rfl | rfl | rfl | rfl | rfl | rfl | rfl | rfl | rfl | rfl | rfl | rfl | rfl | rfl | rfl | rfl | rfl | rfl | rfl | rfl | rfl | rfl | rfl | rfl | rfl | rfl <;> rfl
theorem okL : codeOk 8 41 lp = true := by kernel_rfl
theorem okR : codeOk 8 41 rest = true := by kernel_rfl
theorem plL : plansOk Tryd.prog lp = true := by kernel_rfl
theorem plR : plansOk Tryd.prog rest = true := by kernel_rfl
/-- The rows that are compared, of so many events. -/
def aOf : Nat → Option Addr
  | 0 => none
  | _ + 1 => some ⟨19, 0, none⟩
def bOf : Nat → Option Addr
  | 0 => none
  | _ + 1 => some ⟨24, 0, none⟩
def cOf : Nat → Nat
  | 0 => 0
  | _ + 1 => OPEN
theorem sameN_ok {nx n i : Nat} {us ts : Nat → List UInt8} (h : i < n) (hn : n ≤ 64) : NotedOk (sameN (EOj nx us ts n) (EOd nx us ts n) (aOf n) (bOf n) n (cOf n) (cOf n) i (i * 3) (nx + i) (us i) (ts i)) := by
  obtain ⟨k, rfl⟩ : ∃ k, n = k + 1 := ⟨n - 1, by omega⟩
  have i1 : (iaB Tryd.prog 44).un (.slice (some ⟨19, 0, none⟩) (k + 1) OPEN) (e24 i) = some (pQ 19 (i * 3)) := by
    have := at_of (b := 19) (o := 0) (c := OPEN) u44 size50 h
    rw [Nat.zero_add] at this
    exact this
  have i2 : (iaB Tryd.prog 70).un (.slice (some ⟨24, 0, none⟩) (k + 1) OPEN) (e24 i) = some (pQ 24 (i * 3)) := by
    have := at_of (b := 24) (o := 0) (c := OPEN) u70 size98 h
    rw [Nat.zero_add] at this
    exact this
  refine NotedOk.cons (rf.ltn_ok (blt_t h)) (NotedOk.cons i1 (NotedOk.cons (ev_num h) (NotedOk.cons i2 (NotedOk.cons (ev_num h) (NotedOk.cons ?_ (NotedOk.cons i1 (NotedOk.cons (ev_post h) (NotedOk.cons i2 (NotedOk.cons (ev_post h) (NotedOk.cons ?_ (NotedOk.cons (inc_ok (by omega)) NotedOk.nil)))))))))))
  · show Value.bool (notB (intEq (.ofNat (nx + i)) (.ofNat (nx + i)))) = F
    rw [eq_yes]; rfl
  · show Value.bool (notB (andB (eqL (us i) (us i)) (andB (eqL (ts i) (ts i)) true))) = F
    rw [eqL_refl, eqL_refl]; rfl
noncomputable abbrev QG (B : Base) (m0 : Mu) (h' : AHeap) (v : Value) : Exit → Act → World → Prop := bodyPost Tryd.prog Tryd.f20 (Gave Tryd.prog B m0 26 h' 8 v)
noncomputable abbrev QL (B : Base) (m0 : Mu) (h' : AHeap) (v : Value) : Exit → Act → World → Prop := Exit.inBlock 0 (Exit.then (rest.wp Tryd.prog (QG B m0 h' v)) (QG B m0 h' v))
theorem fixA {n : Nat} : FixV shS.σ (.slice (aOf n) n (cOf n)) := by
  cases n with
  | zero => exact FixV.flat rfl
  | succ n => exact FixV.slice rfl
theorem fixB {n : Nat} : FixV shS.σ (.slice (bOf n) n (cOf n)) := by
  cases n with
  | zero => exact FixV.flat rfl
  | succ n => exact FixV.slice rfl
theorem fixJ (nx : Nat) (us ts : Nat → List UInt8) : ∀ j, FixO Tryd.prog shS.σ (EOj nx us ts j)
  | 0 => FixO.of_one (.inl rfl)
  | j + 1 => FixO.of_one (.inr ⟨_, _, .inr rfl, evRow_flat (fun _ => evC_flat _ _ _) j⟩)
theorem fixD (nx : Nat) (us ts : Nat → List UInt8) : ∀ j, FixO Tryd.prog shS.σ (EOd nx us ts j)
  | 0 => FixO.of_one (.inl rfl)
  | j + 1 => FixO.of_one (.inr ⟨_, _, .inr rfl, evRow_flat (fun _ => evC_flat _ _ _) j⟩)
theorem nextE (OS OP E1 E2 : AObj) (g f0 f : Fd) (e : El) (A : Option Addr) (B : Option Addr) (n c d i : Nat) (j0 : Nat → Value) : Nat.ble 26 (stOf (over OS OP E1 E2 g f0 f e A B n c d i j0)).2.next = true := by kernel_rfl
theorem nextOk (OS OP E1 E2 : AObj) (g f0 f : Fd) (e : El) (A : Option Addr) (B : Option Addr) (n c d : Nat) : Nat.ble 26 (w1 OS OP E1 E2 g f0 f e A B n c d).s.2.next = true := by kernel_rfl
theorem rounds {B : Base} {m0 : Mu} {OS OP : AObj} {g f0 f : Fd} {e : El} {nx n : Nat} {us ts : Nat → List UInt8} (hn : n ≤ 64)
    (h16 : FixO Tryd.prog shS.σ OS) (h17 : FixO Tryd.prog shS.σ OP) (h18 : FixO Tryd.prog shS.σ (elO e)) (h22 : FixO Tryd.prog shS.σ (reO e)) : ∀ (fuel i : Nat) (j0 : Nat → Value) (m : Mu) (a : Act) (w : World), n - i < fuel → i ≤ n → (∀ b, b < 26 → m b = m0 b) →
    TRel m 41 (SS OS OP (EOj nx us ts n) (EOd nx us ts n) g f0 f e (aOf n) (bOf n) n (cOf n) (cOf n) i j0).1 a.tmps → Rel Tryd.prog B m (SS OS OP (EOj nx us ts n) (EOd nx us ts n) g f0 f e (aOf n) (bOf n) n (cOf n) (cOf n) i j0).2 w → GRel 8 m → a.defers = [] →
    Code.rounds Tryd.prog lp (QL B m0 (h4 OS OP (EOj nx us ts n) g f0 f e (EOd nx us ts n)) Tr) fuel a w := by
  intro fuel
  induction fuel with
  | zero => intro i j0 m a w h; omega
  | succ fuel ih =>
    intro i j0 m a w hf hi hm hT hr hG hd0
    rw [rounds_succ]
    by_cases hlt : i < n
    · have hr2 := fun jt jh => round OS OP (EOj nx us ts n) (EOd nx us ts n) g f0 f e (aOf n) (bOf n) n (cOf n) (cOf n) i (i * 3) (nx + i) (us i) (ts i) j0 jt jh
      refine normX (n := 41) (k := 26) klok plL okL rfl (Prod.mk.inj (hr2 j0 (fun _ _ => undef))).1 (revN_ok _ _ (sameN_ok hlt hn) NotedOk.nil) hT hr hG (Nat.le_refl 26) ?_
      intro m1 a1 w1 x1 g1 t1 d1 q1
      obtain ⟨m2, j2, g2, t2, q2, x2⟩ := reS' h16 h17 h18 (fixJ nx us ts n) h22 (fixD nx us ts n) fixA fixB (fun jt jh => (Prod.mk.inj (hr2 jt jh)).2) t1 q1 g1
      exact ih (i + 1) j2 m2 a1 w1 (by omega) (by omega) (fun b hb => (x2 b hb).trans ((x1 b hb).trans (hm b hb))) t2 q2 g2 (d1.trans hd0)
    · obtain rfl : i = n := by omega
      obtain ⟨p1, p⟩ := Prod.mk.inj (ends OS OP (EOj nx us ts i) (EOd nx us ts i) g f0 f e (aOf i) (bOf i) i (cOf i) (cOf i) i j0)
      obtain ⟨p2, p3⟩ := Prod.mk.inj p
      refine exitX (n := 41) (k := 26) klok plL okL (R := over OS OP (EOj nx us ts i) (EOd nx us ts i) g f0 f e (aOf i) (bOf i) i (cOf i) (cOf i) i j0) rfl p1 (NotedOk.cons (rf.ltn_ok (blt_f (Nat.le_refl _))) NotedOk.nil) hT hr hG (Nat.le_refl 26) ?_
      intro m1 a1 w1 x1 g1 t1 d1 q1
      show rest.wp Tryd.prog (QG B m0 _ _) a1 w1
      refine retG (n := 41) (k := 26) klok plR okR rfl p2 p3 NotedOk.nil t1 q1 g1 (d1.trans hd0) (fun b hb => (x1 b hb).trans (hm b hb)) ?_ (fun a' w' h => h)
      exact Nat.le_of_ble_eq_true (nextE OS OP (EOj nx us ts i) (EOd nx us ts i) g f0 f e (aOf i) (bOf i) i (cOf i) (cOf i) i j0)
theorem hasFn : Tryd.prog.funcs[20]? = some Tryd.f20 := by kernel_rfl
theorem hasTmps : Tryd.f20.ntmps = 41 := by kernel_rfl
theorem k0 : partsOk Tryd.prog 8 41 2 body = true := by kernel_rfl
theorem k1 : partsOk Tryd.prog 8 41 1 ini = true := by kernel_rfl
theorem e1 : c2 = .seq ini rest := by kernel_rfl
theorem e2 : dropN 1 ini = .block 0 (.loop lp) := by kernel_rfl
theorem d2 : dropN 2 body = c2 := by kernel_rfl
theorem walk {B : Base} {m : Mu} {w : World} {args : Array Value} {OS OP : AObj} {g f0 f : Fd} {e : El} {nx n : Nat} {us ts : Nat → List UInt8} (hn : n ≤ 64)
    (h16 : FixO Tryd.prog shS.σ OS) (h17 : FixO Tryd.prog shS.σ OP) (h18 : FixO Tryd.prog shS.σ (elO e)) (h22 : FixO Tryd.prog shS.σ (reO e))
    (ha : ARel m ⟨[.slice (aOf n) n (cOf n), .slice (bOf n) n (cOf n)]⟩ args) (hr : Rel Tryd.prog B m (h4 OS OP (EOj nx us ts n) g f0 f e (EOd nx us ts n)) w) (hG : GRel 8 m) :
    Calls Tryd.prog 20 args w (Gave Tryd.prog B m 26 (h4 OS OP (EOj nx us ts n) g f0 f e (EOd nx us ts n)) 8 Tr) := by
  refine calls_of_wp hasFn hasBody ?_
  rw [hasTmps]
  have hT0 := initT_rel (n := 41) ha (by show 2 ≤ 41; omega)
  have hah := fun jt jh => ahead OS OP (EOj nx us ts n) (EOd nx us ts n) g f0 f e (aOf n) (bOf n) n (cOf n) (cOf n) jt jh
  obtain ⟨p1, p⟩ := Prod.mk.inj (hah (fun _ => undef) (fun _ _ => undef))
  obtain ⟨p2, p⟩ := Prod.mk.inj p
  obtain ⟨p3, p⟩ := Prod.mk.inj p
  obtain ⟨p4, _⟩ := Prod.mk.inj p
  refine partX (n := 41) (k0 := 26) klok k0 (y := w1 OS OP (EOj nx us ts n) (EOd nx us ts n) g f0 f e (aOf n) (bOf n) n (cOf n) (cOf n)) rfl p1 (by
    rw [p2]
    refine NotedOk.cons ?_ NotedOk.nil
    show Value.bool (notB (intEq (.ofNat n) (.ofNat n))) = F
    rw [eq_yes]; rfl) hT0 hr hG (Nat.le_refl 26) ?_
  intro m1 a1 w1' x1 g1 t1 d1 q1
  rw [d2, e1]
  refine wp_seq (partX (n := 41) (k0 := 26) klok k1 (y := w2 OS OP (EOj nx us ts n) (EOd nx us ts n) g f0 f e (aOf n) (bOf n) n (cOf n) (cOf n)) rfl p3 (by rw [p4]; exact NotedOk.nil) t1 q1 g1 (Nat.le_of_ble_eq_true (nextOk OS OP (EOj nx us ts n) (EOd nx us ts n) g f0 f e (aOf n) (bOf n) n (cOf n) (cOf n))) ?_)
  intro m2 a2 w2' x2 g2 t2 d2 q2
  rw [e2]
  obtain ⟨m3, j3, g3, t3, q3, x3⟩ := reS' h16 h17 h18 (fixJ nx us ts n) h22 (fixD nx us ts n) fixA fixB (fun jt jh => (Prod.mk.inj (Prod.mk.inj (Prod.mk.inj (Prod.mk.inj (hah jt jh)).2).2).2).2) t2 q2 g2
  exact wp_block (wp_loop_rounds (n + 1) (rounds hn h16 h17 h18 h22 (n + 1) 0 j3 m3 a2 w2' (by omega) (Nat.zero_le _) (fun b hb => (x3 b hb).trans ((x2 b hb).trans (x1 b hb))) t3 q3 g3 (by rw [d2, d1])))
end Go.Proofs.YtbkgnlcjnimpcaaDoor.fanPlays.sm
