import Derived.Test.YthapjgecggdliaaGreatDoorAbG
namespace Go.Ab
open Go
section
variable {P : Program} {B : Base}

/-! ## Rows out of memory -/
def isCell : Value → Bool
  | .agg _ | .tuple _ => false
  | _ => true
theorem isCell_not {v : Value} (h : isCell v = true) : (∀ c, v ≠ .agg c) ∧ (∀ c, v ≠ .tuple c) :=
  ⟨fun c e => by subst e; simp [isCell] at h, fun c e => by subst e; simp [isCell] at h⟩

def bytesOf (s : ByteArray) : List Value := s.data.toList.map fun b => .int .u8 b.toNat

/-- The first cells of a source: 'n' elements of 'size' cells. -/
def rowOf (h : AHeap) (size n : Nat) : Value → Option (List Value)
  | .slice (some a) _ _ =>
    match a.spot, rowIn (h.get a.block) with
    | none, some c => match Nat.ble (a.off + n * size) c.len with | true => some (c.part a.off (n * size)) | false => none
    | _, _ => none
  | .slice none _ _ => if n = 0 then some [] else none
  | .string s => if s.size = n then some (bytesOf s) else none
  | _ => none

theorem Rel.drew {m : Mu} {h : AHeap} {w : World} (hr : Rel P B m h w) : Rel P B m h { w with drawn := w.drawn + 1 } :=
  ⟨hr.os, hr.tape, hr.output, hr.prot, hr.obj, hr.sep, hr.fresh⟩

theorem load_row {m : Mu} {h : AHeap} {w : World} (hr : Rel P B m h w) {b o N : Nat} {l : Loc} {c : Row} (hm : m b = some l) (hb : rowIn (h.get b) = some c)
    {xs : List Value} (hx : xs = c.part o N) (hl : o + N ≤ c.len) :
    ∃ xs' : Array Value, (Go.loadCells ⟨l.blk, l.off + o, none⟩ N).run P w = .ok xs' w ∧ ARel m xs.toArray xs' := by
  obtain ⟨l', hl', _, hok⟩ := hr.obj b (rowIn_live hb)
  obtain rfl : l = l' := by rw [hm] at hl'; exact Option.some.inj hl'
  obtain ⟨_, C, te, fr, h1, h3, h4⟩ := okRow hok hb
  have hxl : xs.length = N := by rw [hx, Row.part_length]
  have hxs : ∀ j, j < N → ∃ v, c.get? (o + j) = some v ∧ xs[j]? = some v := by
    intro j hj
    obtain ⟨v, hv⟩ := Row.get?_lt (r := c) (i := o + j) (by omega)
    exact ⟨v, hv, by rw [hx, Row.part_get? _ _ _ _ hl hj]; exact hv⟩
  refine ⟨_, run_loadCells w _ N (fun j => C.getD (l.off + o + j) undef) ?_, ?_⟩
  · intro j hj
    obtain ⟨v, hv, _⟩ := hxs j hj
    obtain ⟨v', hv', _⟩ := h4 _ _ hv
    have e : ((⟨l.blk, l.off + o, none⟩ : Addr).add j) = ⟨l.blk, l.off + o + j, none⟩ := by unfold Addr.add; split <;> simp_all
    rw [e]
    have e2 : l.off + o + j = l.off + (o + j) := by omega
    simp only [World.cell?, h1, Option.isSome_none, Bool.false_eq_true, if_false]
    rw [e2, Array.getD_eq_getD_getElem?, hv']; rfl
  · refine ARel.of_get? (by simp [hxl]) fun j v v' hj hj' => ?_
    have hjN : j < N := by
      rcases Nat.lt_or_ge j N with x | x
      · exact x
      · rw [List.getElem?_toArray, List.getElem?_eq_none (by omega)] at hj; cases hj
    obtain ⟨y, hy, hy2⟩ := hxs j hjN
    rw [List.getElem?_toArray, hy2] at hj
    obtain rfl := Option.some.inj hj
    obtain ⟨z, hz, hyz⟩ := h4 _ _ hy
    have e2 : l.off + o + j = l.off + (o + j) := by omega
    simp only [List.getElem?_toArray, List.getElem?_map, List.getElem?_range hjN, Option.map_some] at hj'
    rw [e2, Array.getD_eq_getD_getElem?, hz] at hj'
    obtain rfl := Option.some.inj hj'
    exact hyz

theorem rowOf_sound {m : Mu} {h : AHeap} {w : World} (hr : Rel P B m h w) {size n : Nat} {v v' : Value} {xs : List Value} (hv : VRel m v v') (hx : rowOf h size n v = some xs)
    (hn : ∀ a k, v = .slice (some a) 0 k → n = 0) :
    ∃ xs' : Array Value, (Builtin.firstCells size n v').run P w = .ok xs' w ∧ ARel m xs.toArray xs' := by
  have main : ∀ (b o n2 c2 : Nat) (l : Loc) (n3 c3 : Nat), m b = some l → rowOf h size n (.slice (some ⟨b, o, none⟩) n2 c2) = some xs →
      ∃ xs' : Array Value, (Builtin.firstCells size n (.slice (some ⟨l.blk, l.off + o, none⟩) n3 c3)).run P w = .ok xs' w ∧ ARel m xs.toArray xs' := by
    intro b o n2 c2 l n3 c3 hm hx
    simp only [rowOf] at hx
    cases hb : rowIn (h.get b) with
    | some c =>
      rw [hb] at hx
      dsimp only at hx
      split at hx
      · rename_i e
        exact load_row hr hm hb (Option.some.inj hx).symm (by simpa using e)
      · cases hx
    | none => rw [hb] at hx; cases hx
  cases hv <;> try (simp [rowOf] at hx; done)
  · rename_i s
    simp only [rowOf] at hx
    split at hx
    · rename_i e
      obtain rfl := Option.some.inj hx
      refine ⟨_, rfl, ?_⟩
      have : s.extract 0 n = s := by rw [← e]; simp
      rw [this]
      have e2 : (bytesOf s).toArray = s.data.map fun b => Value.int .u8 b.toNat := by
        apply Array.ext'
        simp [bytesOf]
      rw [e2]
      exact ARel.map fun _ _ => .int _ _
    · cases hx
  · simp only [rowOf] at hx
    split at hx
    · obtain rfl := Option.some.inj hx
      exact ⟨#[], rfl, ARel.empty⟩
    · cases hx
  · rename_i b o n2 c2 l hm _
    exact main b o n2 c2 l n2 c2 hm hx
  · rename_i b o n2 k l hm _ _ _
    exact main b o n2 _ l n2 _ hm hx
  · rename_i b o k l a hm _ _
    obtain rfl := hn _ _ rfl
    refine ⟨#[], by simp [Builtin.firstCells, Go.loadCells, Go.loadCellsFrom], ?_⟩
    simp only [rowOf] at hx
    cases hb : rowIn (h.get b) with
    | some c =>
      rw [hb] at hx
      dsimp only at hx
      split at hx
      · obtain rfl := Option.some.inj hx
        rw [Nat.zero_mul]
        exact ARel.empty
      · cases hx
    | none => rw [hb] at hx; cases hx

/-! ## Storing a row -/
theorem run_storeCells {k : Nat} {t : TypeId} {fr : Nat × Nat} : ∀ (vs : List Value) (o i : Nat) (w : World) (C : Array Value), w.heap[k]? = some (.cells C t fr) → (∀ v ∈ vs, isCell v = true) →
    o + i + vs.length ≤ C.size → (∀ j, j < C.size → ¬ (fr.1 ≤ j ∧ j < fr.2)) →
    ∃ w', (Go.storeCells ⟨k, o, none⟩ vs i).run P w = .ok () w' ∧ w'.os = w.os ∧ w'.tape = w.tape ∧ w'.output = w.output ∧ w'.heap.size = w.heap.size ∧ (∀ x, x ≠ k → w'.heap[x]? = w.heap[x]?) ∧
      ∃ C', w'.heap[k]? = some (.cells C' t fr) ∧ C'.size = C.size ∧ ∀ j, C'[j]? = if o + i ≤ j ∧ j < o + i + vs.length then vs[j - (o + i)]? else C[j]? := by
  intro vs
  induction vs with
  | nil =>
    intro o i w C hC _ _ _
    refine ⟨w, rfl, rfl, rfl, rfl, rfl, fun _ _ => rfl, C, hC, rfl, fun j => ?_⟩
    rw [if_neg (by simp)]
  | cons v vs ih =>
    intro o i w C hC hv hl hf
    have ea : ((⟨k, o, none⟩ : Addr).add i) = ⟨k, o + i, none⟩ := by unfold Addr.add; split <;> simp_all
    simp only [List.length_cons] at hl
    obtain ⟨q1, q2⟩ := isCell_not (hv v (by simp))
    have hcell : w.cell? ⟨k, o + i, none⟩ = some C[o + i] := by simp [World.cell?, hC]
    have hfr : w.frozen? ⟨k, o + i, none⟩ = false := by
      have := hf (o + i) (by omega)
      simp only [World.frozen?, hC]
      simp; omega
    have h1 := run_store_ok (P := P) w ⟨k, o + i, none⟩ v _ q1 q2 hcell hfr
    obtain ⟨w', hrun, e1, e2, e3, e4, e5, C', e6, e7, e8⟩ := ih o (i + 1) (w.setCell ⟨k, o + i, none⟩ v) (C.setIfInBounds (o + i) v) (heap_setCell_self w k (o + i) v C t fr hC)
      (fun x hx => hv x (by simp [hx])) (by simp; omega) (by simpa using hf)
    refine ⟨w', ?_, e1, e2, e3, by rw [e4]; simp [World.setCell], fun x hx => by rw [e5 x hx]; exact heap_setCell _ _ _ _ hx, C', e6, by rw [e7]; simp, fun j => ?_⟩
    · unfold Go.storeCells
      rw [Sem.run_bind, ea, h1]
      exact hrun
    · rw [e8 j]
      by_cases c1 : o + (i + 1) ≤ j ∧ j < o + (i + 1) + vs.length
      · rw [if_pos c1, if_pos (by simp; omega)]
        obtain ⟨d, rfl⟩ : ∃ d, j = o + (i + 1) + d := ⟨j - (o + (i + 1)), by omega⟩
        rw [show o + (i + 1) + d - (o + (i + 1)) = d by omega, show o + (i + 1) + d - (o + i) = d + 1 by omega]
        rfl
      · rw [if_neg c1, Array.getElem?_setIfInBounds]
        by_cases c2 : o + i = j
        · subst c2
          rw [if_pos rfl, if_pos (by omega), if_pos (by simp)]
          simp
        · rw [if_neg c2, if_neg (by simp; omega)]
end
end Go.Ab
