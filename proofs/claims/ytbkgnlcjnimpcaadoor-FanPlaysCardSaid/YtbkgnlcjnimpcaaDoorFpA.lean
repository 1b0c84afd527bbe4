/- FanPlays: what a reading tells of a slice inside of what is read. -/
import Derived.Test.YtbkgnlcjnimpcaaDoorStrW
import Derived.OpenShut
namespace Go.Ab
open Go Go.RowKit
theorem cell_spot {w : World} {a : Addr} {v : Value} (h : w.cell? a = some v) : a.spot = none := by
  unfold World.cell? at h
  split at h
  · split at h
    · cases h
    · rename_i hs
      cases hq : a.spot with
      | none => rfl
      | some q => rw [hq] at hs; exact absurd rfl hs
  · cases h
theorem cells_spot {w : World} {base : Nat} {a : Addr} {n : Nat} {cs : List Value} (hn : 0 < n) (h : w.cells? base a n = some cs) : a.spot = none := by
  obtain ⟨_, hl, hc⟩ := World.cells?_some h
  have h0 := hc 0 hn
  rw [List.getElem?_eq_getElem (by omega)] at h0
  exact cell_spot h0
/-- A slice that is read, its room too. -/
theorem rawSlice_of {H : Type} {enc : TypeId × Value → H} {P : Program} {W : World} {base fuel : Nat} {held : Bool} {t e : TypeId} {v : Value} {x : DataW H × List MemPlace} (ht : P.underlying t = some (.slice e)) (hpos : 0 < P.cellsOf e)
    (h : DataW.trod enc P W base (fun _ => true) held fuel t [v] = some x) :
    v = .slice none 0 0 ∨ (∃ a, v = .slice (some a) 0 0) ∨ ∃ b off n c C t' fr, v = .slice (some ⟨b, off, none⟩) n c ∧ 0 < c ∧ n ≤ c ∧ c ≤ HALF ∧ W.heap[b]? = some (.cells C t' fr) ∧ (0 < n → off + n * P.cellsOf e ≤ C.size) ∧
      ∀ i, i < n → ∃ fu y, DataW.trod enc P W base (fun _ => true) held fu e ((List.range (P.cellsOf e)).map fun j => C.getD (off + (i * P.cellsOf e + j)) undef) = some y := by
  rcases DataW.trod_slice ht h with ⟨hv, _⟩ | ⟨a, len, cap, elems, rest, m, _, hv, _, hb, hle, hmax, hlen, hel, hsp, _⟩
  · exact .inl (List.cons.inj hv).1
  obtain rfl := (List.cons.inj hv).1
  right
  rcases Nat.eq_zero_or_pos cap with h0 | h0
  · subst h0
    obtain rfl : len = 0 := by omega
    exact .inl ⟨a, rfl⟩
  right
  obtain ⟨hr1, hr2⟩ := hsp rfl
  have first : ∃ cs, W.cells? base a (P.cellsOf e) = some cs := by
    rcases Nat.eq_zero_or_pos len with l0 | l0
    · have q := hr2 0 (by omega)
      have hs : ∃ y, rest[0]? = some y := ⟨rest[0]'(by omega), List.getElem?_eq_getElem (by omega)⟩
      obtain ⟨y, hy⟩ := hs
      rw [hy, Option.bind_eq_some_iff] at q
      obtain ⟨cs, q1, _⟩ := q
      rw [l0, Nat.zero_add, Nat.zero_mul, show a.add 0 = a from rfl] at q1
      exact ⟨cs, q1⟩
    · have q := hel 0 l0
      have hs : ∃ y, elems[0]? = some y := ⟨elems[0]'(by omega), List.getElem?_eq_getElem (by omega)⟩
      obtain ⟨y, hy⟩ := hs
      rw [hy, Option.bind_eq_some_iff] at q
      obtain ⟨cs, q1, _⟩ := q
      rw [Nat.zero_mul, show a.add 0 = a from rfl] at q1
      exact ⟨cs, q1⟩
  obtain ⟨cs0, hk⟩ := first
  have hspot : a.spot = none := cells_spot hpos hk
  obtain ⟨b, off, spot⟩ := a
  dsimp only at hspot
  subst hspot
  obtain ⟨_, hl0, hc0⟩ := World.cells?_some hk
  have q0 := hc0 0 hpos
  rw [List.getElem?_eq_getElem (by omega), add_none] at q0
  have hC : ∃ C t' fr, W.heap[b]? = some (.cells C t' fr) := by
    simp only [World.cell?] at q0
    cases hh : W.heap[b]? with
    | none => rw [hh] at q0; cases q0
    | some o =>
      rw [hh] at q0
      cases o <;> first | exact ⟨_, _, _, rfl⟩ | (cases q0; done)
  obtain ⟨C, t', fr, hC⟩ := hC
  have hget : ∀ i, i < len → ∃ cs fu y, (∀ j, j < P.cellsOf e → C[off + (i * P.cellsOf e + j)]? = cs[j]?) ∧ cs.length = P.cellsOf e ∧ DataW.trod enc P W base (fun _ => true) held fu e cs = some y := by
    intro i hi
    have q := hel i hi
    have hs : ∃ y, elems[i]? = some y := ⟨elems[i]'(by omega), List.getElem?_eq_getElem (by omega)⟩
    obtain ⟨y, hy⟩ := hs
    rw [hy, Option.bind_eq_some_iff] at q
    obtain ⟨cs, q1, q2⟩ := q
    obtain ⟨_, hl, hc⟩ := World.cells?_some q1
    refine ⟨cs, m, y, fun j hj => ?_, hl, q2⟩
    have q3 := hc j hj
    rw [add_none, add_none] at q3
    simp only [World.cell?, hC] at q3
    rw [← q3, Nat.add_assoc]
    rfl
  refine ⟨b, off, len, cap, C, t', fr, rfl, h0, hle, ?_, hC, fun hn => ?_, fun i hi => ?_⟩
  · have : maxLen = 9223372036854775807 := rfl
    show cap ≤ 2 ^ 63
    omega
  · obtain ⟨cs, _, _, q, hl, _⟩ := hget (len - 1) (by omega)
    have q1 := q (P.cellsOf e - 1) (by omega)
    rw [List.getElem?_eq_getElem (by omega)] at q1
    have hlt := (Array.getElem?_eq_some_iff.1 q1).1
    have : len * P.cellsOf e = (len - 1) * P.cellsOf e + P.cellsOf e := by
      obtain ⟨k, rfl⟩ : ∃ k, len = k + 1 := ⟨len - 1, by omega⟩
      rw [Nat.add_sub_cancel, Nat.succ_mul]
    omega
  · obtain ⟨cs, fu, y, q, hl, hy⟩ := hget i hi
    refine ⟨fu, y, ?_⟩
    have : ((List.range (P.cellsOf e)).map fun j => C.getD (off + (i * P.cellsOf e + j)) undef) = cs := by
      refine List.ext_getElem? fun j => ?_
      rcases Nat.lt_or_ge j (P.cellsOf e) with hj | hj
      · rw [List.getElem?_map, List.getElem?_range hj]
        have q1 := q j hj
        rw [List.getElem?_eq_getElem (by omega)] at q1 ⊢
        simp only [Option.map_some, Array.getD_eq_getD_getElem?, q1, Option.getD_some]
      · rw [List.getElem?_eq_none (by simpa using hj), List.getElem?_eq_none (by omega)]
    rw [this]
    exact hy
end Go.Ab
/- FanPlays: what a reading tells of the script's calls, and of their posts. -/
namespace Go.Proofs.YtbkgnlcjnimpcaaDoor.fanPlays
open Go Go.Ab Go.RowKit Go.Proofs.YtbkgnlcjnimpcaaDoor.strs
set_option maxRecDepth 100000
def partsOf (P : Program) (t : TypeId) : Option (List (TypeId × Nat)) := match P.underlying t with
  | some (.struct fs) => some (fs.toList.map fun f => (f.type, f.offset))
  | _ => none
section
variable {H : Type} {enc : TypeId × Value → H} {W : World} {base fuel : Nat} {spare : Nat → Bool} {held : Bool} {x : DataW H × List MemPlace}
theorem struct_parts {P : Program} {t : TypeId} {l : List (TypeId × Nat)} {cs : List Value} (hu : partsOf P t = some l) (h : DataW.trod enc P W base spare held fuel t cs = some x) :
    ∃ n, ∀ (i : Nat) (p : TypeId × Nat), l[i]? = some p → ∃ y, DataW.trod enc P W base spare held n p.1 ((cs.drop p.2).take (P.cellsOf p.1)) = some y := by
  unfold partsOf at hu
  split at hu
  · rename_i fs hfs
    cases hu
    obtain ⟨xs, n, _, _, _, hlen, hel⟩ := DataW.trod_struct hfs h
    refine ⟨n, fun i p hp => ?_⟩
    rw [List.getElem?_map, Array.getElem?_toList] at hp
    cases hf : fs[i]? with
    | none => rw [hf] at hp; cases hp
    | some f =>
      rw [hf] at hp
      cases hp
      have hi : i < xs.length := by
        rw [hlen]
        exact (Array.getElem?_eq_some_iff.1 hf).1
      exact ⟨xs[i], (hel i f hf).trans (List.getElem?_eq_getElem hi)⟩
  · cases hu
theorem p69 : partsOf Tryd.prog 69 = some [(3, 0), (3, 1), (34, 2), (30, 11)] := by kernel_rfl
theorem p34 : partsOf Tryd.prog 34 = some [(3, 0), (9, 1), (9, 2), (9, 3), (9, 4), (9, 5), (9, 6), (3, 7), (3, 8)] := by kernel_rfl
theorem p30 : partsOf Tryd.prog 30 = some [(27, 0), (3, 1), (28, 2)] := by kernel_rfl
theorem p48 : partsOf Tryd.prog 48 = some [(9, 0), (9, 1)] := by kernel_rfl
theorem u3 : Tryd.prog.underlying 3 = some (.int .i64) := by kernel_rfl
theorem u27 : Tryd.prog.underlying 27 = some (.int .i64) := by kernel_rfl
theorem u28 : Tryd.prog.underlying 28 = some (.slice 48) := by kernel_rfl
theorem u63 : Tryd.prog.underlying 63 = some (.slice 69) := by kernel_rfl
theorem z3 : Tryd.prog.cellsOf 3 = 1 := by kernel_rfl
theorem z27 : Tryd.prog.cellsOf 27 = 1 := by kernel_rfl
theorem z9 : Tryd.prog.cellsOf 9 = 1 := by kernel_rfl
theorem z28 : Tryd.prog.cellsOf 28 = 1 := by kernel_rfl
theorem z34 : Tryd.prog.cellsOf 34 = 9 := by kernel_rfl
theorem z30 : Tryd.prog.cellsOf 30 = 3 := by kernel_rfl
theorem z69 : Tryd.prog.cellsOf 69 = 14 := by kernel_rfl
theorem z48 : Tryd.prog.cellsOf 48 = 2 := by kernel_rfl
theorem int_at {t : TypeId} {v : Value} (hu : Tryd.prog.underlying t = some (.int .i64)) (h : ∃ y, DataW.trod enc Tryd.prog W base spare held fuel t [v] = some y) : ∃ z, v = i64 z := by
  obtain ⟨y, h⟩ := h
  obtain ⟨z, e, _, _⟩ := DataW.trod_int hu h
  exact ⟨z, (List.cons.inj e).1⟩
theorem str_at {v : Value} (h : ∃ y, DataW.trod enc Tryd.prog W base spare held fuel 9 [v] = some y) : ∃ s, v = str s := by
  obtain ⟨y, h⟩ := h
  obtain ⟨s, e, _, _⟩ := DataW.trod_string und9 h
  exact ⟨s.data.toList, (List.cons.inj e).1⟩
/-- The cells of an op. -/
structure OpAt (g : Nat → Value) : Prop where
  kind : ∃ z, g 0 = i64 z
  txt : ∀ j, 1 ≤ j → j < 7 → ∃ s, g j = str s
  frm : ∃ z, g 7 = i64 z
  most : ∃ z, g 8 = i64 z
theorem op_at {g : Nat → Value} (h : ∃ y, DataW.trod enc Tryd.prog W base spare held fuel 34 [g 0, g 1, g 2, g 3, g 4, g 5, g 6, g 7, g 8] = some y) : OpAt g := by
  obtain ⟨y, h⟩ := h
  obtain ⟨n, hp⟩ := struct_parts p34 h
  have q0 := hp 0 _ rfl
  have q1 := hp 1 _ rfl
  have q2 := hp 2 _ rfl
  have q3 := hp 3 _ rfl
  have q4 := hp 4 _ rfl
  have q5 := hp 5 _ rfl
  have q6 := hp 6 _ rfl
  have q7 := hp 7 _ rfl
  have q8 := hp 8 _ rfl
  dsimp only at q0 q1 q2 q3 q4 q5 q6 q7 q8
  rw [z3] at q0 q7 q8
  rw [z9] at q1 q2 q3 q4 q5 q6
  refine ⟨int_at u3 q0, fun j h1 h2 => ?_, int_at u3 q7, int_at u3 q8⟩
  obtain rfl | rfl | rfl | rfl | rfl | rfl : j = 1 ∨ j = 2 ∨ j = 3 ∨ j = 4 ∨ j = 5 ∨ j = 6 := by omega
  · exact str_at q1
  · exact str_at q2
  · exact str_at q3
  · exact str_at q4
  · exact str_at q5
  · exact str_at q6
/-- The cells of a call of the script. -/
structure CallAt (enc : TypeId × Value → H) (W : World) (base : Nat) (spare : Nat → Bool) (held : Bool) (g : Nat → Value) : Prop where
  kind : ∃ z, g 0 = i64 z
  num : ∃ z, g 1 = i64 z
  op : OpAt fun j => g (2 + j)
  err : ∃ z, g 11 = i64 z
  at' : ∃ z, g 12 = i64 z
  posts : ∃ fu y, DataW.trod enc Tryd.prog W base spare held fu 28 [g 13] = some y
theorem call_at {g : Nat → Value} (h : ∃ y, DataW.trod enc Tryd.prog W base spare held fuel 69 ((List.range 14).map g) = some y) : CallAt enc W base spare held g := by
  obtain ⟨y, h⟩ := h
  obtain ⟨n, hp⟩ := struct_parts p69 h
  have q0 := hp 0 _ rfl
  have q1 := hp 1 _ rfl
  have q2 := hp 2 _ rfl
  have q3 := hp 3 _ rfl
  dsimp only at q0 q1 q2 q3
  rw [z3] at q0 q1
  rw [z34] at q2
  rw [z30] at q3
  have q2' : ∃ y, DataW.trod enc Tryd.prog W base spare held n 34 [g 2, g 3, g 4, g 5, g 6, g 7, g 8, g 9, g 10] = some y := q2
  have q3' : ∃ y, DataW.trod enc Tryd.prog W base spare held n 30 [g 11, g 12, g 13] = some y := q3
  obtain ⟨y3, q3'⟩ := q3'
  obtain ⟨n3, hp3⟩ := struct_parts p30 q3'
  have r0 := hp3 0 _ rfl
  have r1 := hp3 1 _ rfl
  have r2 := hp3 2 _ rfl
  dsimp only at r0 r1 r2
  rw [z27] at r0
  rw [z3] at r1
  rw [z28] at r2
  exact ⟨int_at u3 q0, int_at u3 q1, op_at (g := fun j => g (2 + j)) q2', int_at u27 r0, int_at u3 r1, ⟨n3, r2⟩⟩
theorem post_at {a b : Value} (h : ∃ y, DataW.trod enc Tryd.prog W base spare held fuel 48 [a, b] = some y) : (∃ s, a = str s) ∧ ∃ s, b = str s := by
  obtain ⟨y, h⟩ := h
  obtain ⟨n, hp⟩ := struct_parts p48 h
  have q0 := hp 0 _ rfl
  have q1 := hp 1 _ rfl
  dsimp only at q0 q1
  rw [z9] at q0 q1
  exact ⟨str_at q0, str_at q1⟩
end
end Go.Proofs.YtbkgnlcjnimpcaaDoor.fanPlays
