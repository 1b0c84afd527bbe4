import Derived.Test.YthapjgecggdliaaGreatDoorAbFq
namespace Go.Ab
open Go Go.RowKit

/-! ## Elements of plain parts -/
inductive LK where
  | b
  | i (k : IntKind)
  | s
def LK.ok : LK → Value → Prop
  | .b, v => ∃ x, v = .bool x
  | .i k, v => ∃ n, v = .int k n
  | .s, v => ∃ x, v = .string x
def AllOk : List LK → List Value → Prop
  | [], [] => True
  | k :: ks, v :: vs => k.ok v ∧ AllOk ks vs
  | _, _ => False
def leavesKF (P : Program) (lv : TypeId → Option (List LK)) : List Field → Nat → Option (List LK)
  | [], _ => some []
  | f :: rest, k => match lv f.type with
    | some ks => match Nat.beq f.offset k && Nat.beq (P.cellsOf f.type) ks.length with
      | true => match leavesKF P lv rest (k + ks.length) with
        | some r => some (ks ++ r)
        | none => none
      | false => none
    | none => none
def leavesK (P : Program) : Nat → TypeId → Option (List LK)
  | 0, _ => none
  | d + 1, t => match P.underlying t with
    | some .bool => some [.b]
    | some (.int k) => some [.i k]
    | some .string => some [.s]
    | some (.struct fs) => match leavesKF P (leavesK P d) fs.toList 0 with
      | some ks => match Nat.beq (P.cellsOf t) ks.length with
        | true => some ks
        | false => none
      | none => none
    | _ => none
theorem AllOk.append : ∀ {ks ks' : List LK} {l l' : List Value}, AllOk ks l → AllOk ks' l' → AllOk (ks ++ ks') (l ++ l') := by
  intro ks
  induction ks with
  | nil => intro ks' l l' h h'; cases l with | nil => exact h' | cons => exact h.elim
  | cons k ks ih => intro ks' l l' h h'; cases l with | nil => exact h.elim | cons v l => exact ⟨h.1, ih h.2 h'⟩
theorem AllOk.flat : ∀ {ks : List LK} {l : List Value}, AllOk ks l → ∀ v ∈ l, vflat 8 v = true := by
  intro ks
  induction ks with
  | nil => intro l h v hv; cases l with | nil => cases hv | cons => exact h.elim
  | cons k ks ih =>
    intro l h v hv
    cases l with
    | nil => exact h.elim
    | cons x l =>
      rcases List.mem_cons.1 hv with rfl | hv
      · have h1 := h.1
        cases k <;> (obtain ⟨y, rfl⟩ := h1; rfl)
      · exact ih h.2 v hv
theorem trod_leaves {H : Type} {enc : TypeId × Value → H} {P : Program} {W : World} {base : Nat} {spare : Nat → Bool} {held : Bool} : ∀ (d : Nat) (t : TypeId) (ks : List LK), leavesK P d t = some ks →
    ∀ (fuel : Nat) (cs : List Value) (x : DataW H × List MemPlace), DataW.trod enc P W base spare held fuel t cs = some x → AllOk ks cs := by
  intro d
  induction d with
  | zero => intro t ks h; cases h
  | succ d ih =>
    intro t ks h fuel cs x hx
    simp only [leavesK] at h
    split at h
    · rename_i ht; cases h; obtain ⟨b, rfl, _⟩ := DataW.trod_bool ht hx; exact ⟨⟨b, rfl⟩, trivial⟩
    · rename_i k ht; cases h; obtain ⟨n, rfl, _⟩ := DataW.trod_int ht hx; exact ⟨⟨n, rfl⟩, trivial⟩
    · rename_i ht; cases h; obtain ⟨s, rfl, _⟩ := DataW.trod_string ht hx; exact ⟨⟨s, rfl⟩, trivial⟩
    · rename_i fs ht
      split at h
      · rename_i ks0 hk0
        split at h
        · rename_i hsz
          cases h
          rw [Nat.beq_eq] at hsz
          obtain ⟨xs, n, _, _, hl, hxl, hall⟩ := DataW.trod_struct ht hx
          rw [hsz] at hl
          have key : ∀ (l : List Field) (j k : Nat) (ks : List LK), l = fs.toList.drop j → leavesKF P (leavesK P d) l k = some ks → k + ks.length ≤ cs.length → AllOk ks ((cs.drop k).take ks.length) := by
            intro l
            induction l with
            | nil => intro j k ks _ h _; cases h; simp [AllOk]
            | cons f l ihl =>
              intro j k ks hj h hle
              simp only [leavesKF] at h
              split at h
              · rename_i ks1 h1
                split at h
                · rename_i hc
                  simp only [Bool.and_eq_true, Nat.beq_eq] at hc
                  split at h
                  · rename_i r hr
                    cases h
                    rw [List.length_append] at hle ⊢
                    have hjl : j < fs.toList.length := by
                      rcases Nat.lt_or_ge j fs.toList.length with h2 | h2
                      · exact h2
                      · rw [List.drop_eq_nil_of_le h2] at hj; cases hj
                    rw [List.drop_eq_getElem_cons hjl] at hj
                    obtain ⟨hf, hl2⟩ := List.cons.inj hj
                    have hfj : fs[j]? = some f := by
                      rw [← Array.getElem?_toList, List.getElem?_eq_getElem hjl, hf]
                    have q := hall j f hfj
                    have hxj : ∃ y, xs[j]? = some y := ⟨xs[j]'(by rw [hxl]; simpa using hjl), List.getElem?_eq_getElem _⟩
                    obtain ⟨y, hy⟩ := hxj
                    rw [hy, hc.1, hc.2] at q
                    have a1 := ih f.type ks1 h1 n _ y q
                    have a2 := ihl (j + 1) (k + ks1.length) r hl2 hr (by omega)
                    rw [List.take_add, List.drop_drop]
                    exact a1.append a2
                  · cases h
                · cases h
              · cases h
          have := key fs.toList 0 0 _ (by simp) hk0 (by omega)
          rw [List.drop_zero, List.take_of_length_le (by omega)] at this
          exact this
        · cases h
      · cases h
    · cases h
theorem part_treeF (f : Nat → Value) (N : Nat) : ∀ (k o : Nat), o + k ≤ N → Row.part (rowFn f N) o k = (List.range k).map fun j => f (o + j) := by
  intro k
  induction k with
  | zero => intro o _; rfl
  | succ k ih =>
    intro o h
    simp only [Row.part]
    rw [ih (o + 1) (by omega), List.range_succ_eq_map, List.map_cons, List.map_map]
    congr 1
    · show (treeF f N 0 .leaf).get undef o = _
      rw [treeF_get, if_pos ⟨Nat.zero_le _, by omega⟩]
      rfl
    · refine List.map_congr_left fun j _ => ?_
      show f (o + 1 + j) = f (o + (j + 1))
      congr 1
      omega
theorem ld_agg {P : Program} {t : TypeId} {d : TypeDesc} {i : TypeInfo} {h : AHeap} {b o N : Nat} {f : Nat → Value} {e : TypeId} (hd : P.underlying t = some d) (hi : P.info? t = some i) (hag : isAggD d = true) (hg : heapGet h b = .ro (rowFn f N) e) (hle : o + i.size ≤ N) :
    (ldB P t).un (.pointer (some ⟨b, o, none⟩)) h = some (.agg ⟨(List.range i.size).map fun j => f (o + j)⟩) := by
  unfold ldB
  rw [hd, hi]
  dsimp only
  rw [hag]
  show (match rowIn (heapGet h b) with | some c => (match c with | ⟨n, t⟩ => (match Nat.ble (Nat.add o i.size) n with | true => some (Value.agg ⟨partB i.size t o⟩) | false => none)) | none => none) = _
  rw [hg]
  show (match Nat.ble (Nat.add o i.size) N with | true => some (Value.agg ⟨partB i.size (treeF f N 0 .leaf) o⟩) | false => none) = _
  rw [show Nat.ble (Nat.add o i.size) N = true by rw [Nat.ble_eq]; exact hle]
  dsimp only
  rw [show partB i.size (treeF f N 0 .leaf) o = Row.part (rowFn f N) o i.size from partB_eq (rowFn f N) i.size o, part_treeF f N _ _ hle]
theorem ix_slice {P : Program} {t e : TypeId} {ei : TypeInfo} {b o n c i : Nat} {k : IntKind} (ht : P.underlying t = some (.slice e)) (he : P.info? e = some ei) (h : i < n) :
    (iaB P t).un (.slice (some ⟨b, o, none⟩) n c) (.int k (.ofNat i)) = some (.pointer (some ⟨b, Nat.add o (Nat.mul i ei.size), none⟩)) := by
  unfold iaB
  rw [ht]
  dsimp only
  rw [he]
  show idxOf (.ofNat i) n (fun m => some (Value.pointer (some ⟨b, Nat.add o (Nat.mul m ei.size), none⟩))) = _
  unfold idxOf
  dsimp only
  rw [show Nat.blt i n = true by rw [Nat.blt_eq]; exact h]
end Go.Ab
