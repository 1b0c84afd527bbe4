import Derived.Test.YthapjgecggdliaaGreatDoorAbFo
import Derived.OpenShut
namespace Go.Ab
open Go Go.RowKit

/-! ## A row that the caller keeps -/
theorem treeF_get (f : Nat → Value) : ∀ (k i : Nat) (acc : Tree Value) (j : Nat), (treeF f k i acc).get undef j = if i ≤ j ∧ j < i + k then f j else acc.get undef j := by
  intro k
  induction k with
  | zero => intro i acc j; rw [if_neg (by omega)]; rfl
  | succ k ih =>
    intro i acc j
    show (treeF f k (i + 1) (acc.set undef i (f i))).get undef j = _
    rw [ih, Tree.get_set]
    by_cases e : j = i
    · subst e
      rw [if_neg (by omega), if_pos rfl, if_pos (by omega)]
    · rw [if_neg e]
      by_cases h : i + 1 ≤ j ∧ j < i + 1 + k
      · rw [if_pos h, if_pos (by omega)]
      · rw [if_neg h, if_neg (by omega)]
def rowFn (f : Nat → Value) (n : Nat) : Row := ⟨n, treeF f n 0 .leaf⟩
theorem rowFn_get? (f : Nat → Value) (n i : Nat) (h : i < n) : (rowFn f n).get? i = some (f i) := by
  rw [Row.get?_eq]
  show (if i < n then some ((treeF f n 0 .leaf).get undef i) else none) = _
  rw [if_pos h, treeF_get, if_pos ⟨Nat.zero_le _, by omega⟩]
theorem rowFn_lt {f : Nat → Value} {n i : Nat} {v : Value} (h : (rowFn f n).get? i = some v) : i < n ∧ f i = v := by
  have hi : i < n := Row.lt_of_get? h
  rw [rowFn_get? f n i hi] at h
  exact ⟨hi, Option.some.inj h⟩
/-- A block that nothing is known of. -/
theorem _root_.Go.Ab.Rel.name {P : Program} {B : Base} {m : Mu} {h : AHeap} {w : World} (hr : Rel P B m h w) (hlim : h.next < h.lim) (l : Loc) : Rel P B (m.add h.next l) (h.push .dead) w := by
  have hle : Mu.le m (m.add h.next l) := Mu.le_add (hr.fresh _ (Nat.le_refl _) hlim).2
  have hg : ∀ b, (h.push .dead).get b = h.get b := fun b => by
    rw [AHeap.get_push]
    split
    · rename_i e; rw [e, (hr.fresh _ (Nat.le_refl _) hlim).1]
    · rfl
  have old : ∀ b l', h.get b ≠ .dead → (m.add h.next l) b = some l' → m b = some l' := by
    intro b l' hb hl'
    have hne : b ≠ h.next := by rintro rfl; exact hb (hr.fresh _ (Nat.le_refl _) hlim).1
    unfold Mu.add at hl'
    rwa [if_neg hne] at hl'
  refine ⟨hr.os, hr.tape, hr.output, hr.prot, ?_, ?_, ?_⟩
  · intro b hb
    rw [hg] at hb ⊢
    obtain ⟨l2, h1, h2, h3⟩ := hr.obj b hb
    exact ⟨l2, hle _ _ h1, h2, h3.congr hle rfl⟩
  · intro b1 b2 l1 l2 h1 h2 h3 m1 m2 e12
    rw [hg] at h1 h2 h3
    exact hr.sep b1 b2 l1 l2 h1 h2 h3 (old b1 l1 h1 m1) (old b2 l2 h2 m2) e12
  · intro b hb hb2
    have hb' : h.next + 1 ≤ b := hb
    have hf := hr.fresh b (by omega) hb2
    refine ⟨by rw [hg]; exact hf.1, ?_⟩
    unfold Mu.add; rw [if_neg (by omega)]; exact hf.2
/-- An argument's slice: what is known of it. -/
structure SliceArg (P : Program) (W : World) (e : TypeId) (size : Nat) (v : Value) (f : Nat → Value) (n c : Nat) : Prop where
  ex : ∃ b off C t fr, v = .slice (some ⟨b, off, none⟩) n c ∧ W.heap[b]? = some (.cells C t fr) ∧ off + n * size ≤ C.size ∧ ∀ i, i < n * size → C[off + i]? = some (f i) ∧ vflat 8 (f i) = true
  cap : c ≤ HALF
/-- It is laid under a number of its own. -/
theorem SliceArg.lay {P : Program} {W : World} {e : TypeId} {size : Nat} {v : Value} {f : Nat → Value} {n c : Nat} (hs : SliceArg P W e size v f n c) {m : Mu} {h : AHeap} {w : World} (hr : Rel P (baseOf W) m h w) (hlim : h.next < h.lim) :
    ∃ m', Mu.le m m' ∧ VRel m' (.slice (some ⟨h.next, 0, none⟩) n c) v ∧ Rel P (baseOf W) m' (h.push (.ro (rowFn f (n * size)) e)) w := by
  obtain ⟨b, off, C, t, fr, rfl, hC, hsz, hcell⟩ := hs.ex
  refine ⟨m.add h.next ⟨b, off, 0⟩, Mu.le_add (hr.fresh _ (Nat.le_refl _) hlim).2, ?_, ?_⟩
  · have := VRel.slice (m := m.add h.next ⟨b, off, 0⟩) h.next 0 n c ⟨b, off, 0⟩ (Mu.add_self _ _ _) hs.cap
    exact this
  · have hp : (baseOf W).prot b = some (.cells C t fr) := hC
    refine hr.pushRo hlim (by rw [hp]; intro q; cases q) ⟨C, t, fr, hr.prot b _ hp, hsz, fun i v hv => ?_⟩
    obtain ⟨hi, rfl⟩ := rowFn_lt hv
    exact ⟨_, (hcell i hi).1, vflat_rel _ 8 _ (hcell i hi).2⟩
/-- What a claim's reading tells of a slice whose elements are plain. -/
theorem sliceArg_of {H : Type} {enc : TypeId × Value → H} {P : Program} {W : World} {t e : TypeId} {v : Value} {d : DataW H} {ps : List MemPlace} {r : Reach} {base b0 : Nat} {spare : Nat → Bool} {held : Bool} (ht : P.underlying t = some (.slice e))
    (hval : Value.okWide P W r b0 t v) (hd : DataW.Trod enc P W base spare held t v d ps)
    (hpos : 0 < P.cellsOf e) (hflat : ∀ fuel cs x, DataW.trod enc P W base spare held fuel e cs = some x → ∀ v ∈ cs, vflat 8 v = true) :
    v = .slice none 0 0 ∨ (∃ b off c, v = .slice (some ⟨b, off, none⟩) 0 c ∧ c ≤ HALF) ∨ ∃ f n c, 0 < n ∧ SliceArg P W e (P.cellsOf e) v f n c ∧ ∀ i, i < n → ∃ fuel x, DataW.trod enc P W base spare held fuel e ((List.range (P.cellsOf e)).map fun j => f (i * P.cellsOf e + j)) = some x := by
  unfold Value.okWide at hval
  rw [ht] at hval
  dsimp only at hval
  unfold Cell.okWide at hval
  rw [ht] at hval
  obtain ⟨fuel, hf⟩ := hd
  have hcell : v = .slice none 0 0 ∨ ∃ b off n c, v = .slice (some ⟨b, off, none⟩) n c ∧ (c : Int) ≤ IntKind.i64.max ∧ ∃ C t' fr, W.heap[b]? = some (.cells C t' fr) ∧ n ≤ c ∧ ∀ i, i < n → ∃ cs fuel x, (W.cells? base ((⟨b, off, none⟩ : Addr).add (i * P.cellsOf e)) (P.cellsOf e)) = some cs ∧ DataW.trod enc P W base spare held fuel e cs = some x := by
    have hv : ∃ s n c, v = .slice s n c := by
      cases v <;> first | exact ⟨_, _, _, rfl⟩ | (exfalso; simp only [Cell.ok, ht] at hval)
    obtain ⟨s, n, c, rfl⟩ := hv
    cases s with
    | none =>
      left
      rcases DataW.trod_slice ht hf with ⟨h, _⟩ | ⟨a, len, cap, elems, rest, n', _, h, _⟩
      · simpa [Value.cells] using h
      · simp [Value.cells] at h
    | some a =>
      right
      have hk : n ≤ c ∧ (c : Int) ≤ IntKind.i64.max ∧ W.has P r b0 a e c := by
        simpa only [Cell.ok, ht] using hval
      obtain ⟨h1, h2, _, h4, row, cells, h5, _⟩ := hk
      obtain ⟨b, off, spot⟩ := a
      dsimp only at h4
      subst h4
      refine ⟨b, off, n, c, rfl, h2, ?_⟩
      unfold World.shape? at h5
      dsimp only at h5
      split at h5
      · rename_i C t' fr hh
        refine ⟨C, t', fr, hh, h1, fun i hi => ?_⟩
        rcases DataW.trod_slice ht hf with ⟨h, _⟩ | ⟨a, len, cap, elems, rest, n', _, h, _, _, _, _, hlen, hel, _⟩
        · simp [Value.cells] at h
        · simp [Value.cells] at h
          obtain ⟨rfl, rfl, rfl⟩ := h
          have hx := hel i hi
          have hsome : ∃ y, elems[i]? = some y := ⟨elems[i]'(by omega), List.getElem?_eq_getElem (by omega)⟩
          obtain ⟨y, hy⟩ := hsome
          rw [hy, Option.bind_eq_some_iff] at hx
          obtain ⟨cs, q1, q2⟩ := hx
          exact ⟨cs, n', y, q1, q2⟩
      · cases h5
  rcases hcell with h | ⟨b, off, n, c, rfl, hc, C, t', fr, hC, hnc, hel⟩
  · exact .inl h
  right
  have hget : ∀ i, i < n → ∀ j, j < P.cellsOf e → ∃ v, C[off + (i * P.cellsOf e + j)]? = some v ∧ vflat 8 v = true := by
    intro i hi j hj
    obtain ⟨cs, fu, x, q1, q2⟩ := hel i hi
    obtain ⟨_, hlen, hcs⟩ := World.cells?_some q1
    have q3 := hcs j hj
    have hjl : j < cs.length := by omega
    rw [List.getElem?_eq_getElem hjl] at q3
    rw [add_none, add_none] at q3
    simp only [World.cell?, hC] at q3
    refine ⟨cs[j], ?_, hflat _ _ _ q2 _ (List.getElem_mem hjl)⟩
    rw [← Nat.add_assoc]
    simpa using q3
  have hcap : c ≤ HALF := by
    have : IntKind.i64.max = 9223372036854775807 := rfl
    rw [this] at hc
    show c ≤ 2 ^ 63
    omega
  rcases Nat.eq_zero_or_pos n with h0 | h0
  · subst h0
    exact .inl ⟨b, off, c, rfl, hcap⟩
  right
  refine ⟨fun i => C.getD (off + i) undef, n, c, h0, ⟨⟨b, off, C, t', fr, rfl, hC, ?_, ?_⟩, hcap⟩, ?_⟩
  · obtain ⟨v, q1, _⟩ := hget (n - 1) (by omega) (P.cellsOf e - 1) (by omega)
    have hlt := (Array.getElem?_eq_some_iff.1 q1).1
    have : n * P.cellsOf e = (n - 1) * P.cellsOf e + P.cellsOf e := by
      obtain ⟨k, rfl⟩ : ∃ k, n = k + 1 := ⟨n - 1, by omega⟩
      rw [Nat.add_sub_cancel, Nat.succ_mul]
    omega
  · intro i hi
    have hs : 0 < P.cellsOf e := Nat.pos_of_ne_zero (fun q => by rw [q] at hi; simp at hi)
    obtain ⟨v, q1, q2⟩ := hget (i / P.cellsOf e) ((Nat.div_lt_iff_lt_mul hs).2 hi) (i % P.cellsOf e) (Nat.mod_lt _ hs)
    have e1 : i / P.cellsOf e * P.cellsOf e + i % P.cellsOf e = i := by rw [Nat.mul_comm]; exact Nat.div_add_mod _ _
    rw [e1] at q1
    rw [Array.getD_eq_getD_getElem?, q1]
    exact ⟨rfl, q2⟩
  · intro i hi
    obtain ⟨cs, fu, x, q1, q2⟩ := hel i hi
    refine ⟨fu, x, ?_⟩
    have : ((List.range (P.cellsOf e)).map fun j => C.getD (off + (i * P.cellsOf e + j)) undef) = cs := by
      obtain ⟨_, hlen, hcs⟩ := World.cells?_some q1
      refine List.ext_getElem? fun j => ?_
      rcases Nat.lt_or_ge j (P.cellsOf e) with hj | hj
      · have q3 := hcs j hj
        rw [← q3, add_none, add_none]
        simp only [World.cell?, hC]
        rw [List.getElem?_map, List.getElem?_range hj]
        obtain ⟨v, q4, _⟩ := hget i hi j hj
        simp only [Option.map_some, Array.getD_eq_getD_getElem?, q4, Option.getD_some]
        rw [Nat.add_assoc, q4]
        simp
      · rw [List.getElem?_eq_none (by simpa using hj), List.getElem?_eq_none (by omega)]
    rw [this]
    exact q2
end Go.Ab
