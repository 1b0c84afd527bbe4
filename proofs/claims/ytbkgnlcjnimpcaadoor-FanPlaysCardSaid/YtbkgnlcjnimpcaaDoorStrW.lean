/- Texts: a subscription's text, and none: in plain lists. -/
import Derived.Test.YtbkgnlcjnimpcaaDoorStrV
namespace Go.Proofs.YtbkgnlcjnimpcaaDoor.strs.plain
open Go Go.Ab Go.RowKit Go.Proofs.YtbkgnlcjnimpcaaDoor.strs
open Go.Proofs.YtbkgnlcjnimpcaaDoor.strs.cut (posOf)
open Go.Proofs.YtbkgnlcjnimpcaaDoor.strs.rf (textOf fromV endV midV digV tupR resR badV)
open Go.Proofs.YtbkgnlcjnimpcaaDoor.strs.ita (IsDig valL)
open Go.Proofs.YtbkgnlcjnimpcaaDoor.strs.num (tupV dgI nxI fastL)
set_option maxRecDepth 100000
theorem lab_len {l : List UInt8} (h : lab l = true) : 1 ≤ l.length ∧ l.length ≤ 16 := by
  unfold lab at h
  simp only [Bool.and_eq_true, Nat.ble_eq] at h
  exact h.2
theorem lab_mem {l : List UInt8} (h : lab l = true) {x : UInt8} (hx : x ∈ l) : odd1 (u8n x) = false := by
  unfold lab at h
  simp only [Bool.and_eq_true] at h
  have h1 : oddL l = false := by
    cases ho : oddL l with
    | false => rfl
    | true => rw [ho] at h; cases h.1
  unfold oddL at h1
  rw [List.any_eq_false] at h1
  have := h1 x hx
  cases ho : odd1 (u8n x) with
  | false => rfl
  | true => exact absurd ho this
theorem lab_no {l : List UInt8} (h : lab l = true) : (47 : UInt8) ∉ l ∧ (64 : UInt8) ∉ l :=
  ⟨fun hx => by have := lab_mem h hx; exact absurd this (by decide), fun hx => by have := lab_mem h hx; exact absurd this (by decide)⟩
theorem pos_at {c : UInt8} {a b : List UInt8} (h : c ∉ a) : posOf c (a ++ [c] ++ b) = some a.length := by
  unfold posOf
  rw [List.append_assoc, List.findIdx?_append]
  have h1 : List.findIdx? (fun x => x == c) a = none := by
    rw [List.findIdx?_eq_none_iff]
    intro x hx
    simp only [beq_eq_false_iff_ne]
    rintro rfl
    exact h hx
  rw [h1]
  simp [List.findIdx?_cons]
theorem cut_at {c : UInt8} {a b : List UInt8} (h : c ∉ a) : cut.cutV c (a ++ [c] ++ b) = cut.tupV a b true := by
  unfold cut.cutV
  rw [pos_at h]
  dsimp only
  congr 1
  · rw [List.append_assoc, List.take_left']
    rfl
  · have : (a ++ [c]).length = a.length + 1 := by simp
    rw [← this, List.drop_left']
    rfl
def acc (l : List UInt8) (a : Nat) : Nat := l.foldl (fun a x => a * 10 + (u8n x - 48)) a
theorem acc_le : ∀ (l : List UInt8) (a : Nat), a ≤ acc l a := by
  intro l
  induction l with
  | nil => intro a; exact Nat.le_refl _
  | cons x l ih =>
    intro a
    have := ih (a * 10 + (u8n x - 48))
    show a ≤ acc l (a * 10 + (u8n x - 48))
    omega
theorem dig_acc : ∀ (l : List UInt8) (a : Nat), IsDig l → acc l a ≤ 1073741824 → digV l a = some (acc l a) := by
  intro l
  induction l with
  | nil => intro a _ _; rfl
  | cons x l ih =>
    intro a hd ha
    have hx := hd x List.mem_cons_self
    have h0 := acc_le (x :: l) a
    have e : acc (x :: l) a = acc l (a * 10 + (u8n x - 48)) := rfl
    unfold digV
    rw [blt_f (show 48 ≤ u8n x from hx.1), blt_f (show u8n x ≤ 57 from hx.2), blt_f (show a ≤ 1073741824 by omega)]
    show digV l (10 * a + (u8n x - 48)) = _
    rw [Nat.mul_comm 10 a]
    exact ih _ (fun y hy => hd y (List.mem_cons_of_mem _ hy)) ha
theorem dgI_eq {c : Nat} (h1 : 48 ≤ c) (h2 : c ≤ 57) : dgI c = .ofNat (c - 48) := by
  unfold dgI
  have : Int.sub (.ofNat c) 48 = .ofNat (c - 48) := by
    show (Int.ofNat c) - 48 = _
    simp only [Int.ofNat_eq_natCast]
    omega
  rw [this, wrapF_eq, wrap_u (show c - 48 < topOf .u8 from Nat.lt_of_le_of_lt (show c - 48 ≤ 9 by omega) (by decide))]
theorem nxI_eq {a d : Nat} (ha : a ≤ 1073741824) (hd : d ≤ 9) : nxI (.ofNat a) (.ofNat d) = .ofNat (a * 10 + d) := by
  unfold nxI
  have e1 : wrapF .i64 (Int.mul (.ofNat a) 10) = .ofNat (a * 10) := wbig (n := a * 10) (by omega)
  have e2 : wrapF .i64 (.ofNat d) = .ofNat d := wbig (by omega)
  rw [e1, e2]
  exact wadd (a := a * 10) (b := d) (by omega)
theorem fast_acc : ∀ (l : List UInt8) (a : Nat), IsDig l → acc l a ≤ 1073741824 → fastL l (.ofNat a) = some (.ofNat (acc l a)) := by
  intro l
  induction l with
  | nil => intro a _ _; rfl
  | cons x l ih =>
    intro a hd ha
    have hx := hd x List.mem_cons_self
    have h0 := acc_le (x :: l) a
    unfold fastL
    rw [dgI_eq hx.1 hx.2, show intLt 9 (.ofNat (u8n x - 48)) = false from lt_no (a := 9) (by omega)]
    dsimp only
    rw [nxI_eq (by omega) (by omega)]
    exact ih _ (fun y hy => hd y (List.mem_cons_of_mem _ hy)) ha
theorem itoa_acc {n : Nat} (h : n ≤ 1073741824) : acc (itoa n) 0 = n := (itoa_spec (lt32 h)).1.val
theorem atoi_itoa {n : Nat} (h : n ≤ 1073741824) : atoiV (itoa n) = tupV (.ofNat n) .nilIface := by
  obtain ⟨hd, hp, hl, _⟩ := (itoa_spec (lt32 h)).1
  obtain ⟨x, hx⟩ : ∃ x, (itoa n)[0]? = some x := ⟨_, List.getElem?_eq_getElem hp⟩
  have hm := hd x (List.mem_of_getElem? hx)
  have h45 : Nat.beq (u8n x) 45 = false := beq_f (by omega)
  have h43 : Nat.beq (u8n x) 43 = false := beq_f (by omega)
  rw [atoi_plain hx (by omega) h45 h43]
  have := fast_acc (itoa n) 0 hd (by rw [itoa_acc h]; exact h)
  rw [itoa_acc h] at this
  rw [show fastL (itoa n) 0 = some (.ofNat n) from this]
  unfold num.outV
  rw [h45]
theorem dig_itoa {n : Nat} (h : n ≤ 1073741824) : digV (itoa n) 0 = some n := by
  have := dig_acc (itoa n) 0 (itoa_spec (lt32 h)).1.dig (by rw [itoa_acc h]; exact h)
  rw [itoa_acc h] at this
  exact this
structure Good (l sp ch : List UInt8) (n : Nat) : Prop where
  hsp : lab sp = true
  hch : lab ch = true
  hn : n ≤ 1073741824
  ht : l = textOf sp ch n
theorem text_eq (sp ch : List UInt8) (n : Nat) : textOf sp ch n = sp ++ [47] ++ (ch ++ [64] ++ itoa n) := by
  unfold textOf
  simp only [List.append_assoc]
theorem good_cut {l sp ch : List UInt8} {n : Nat} (h : Good l sp ch n) : cut.cutV 47 l = cut.tupV sp (ch ++ [64] ++ itoa n) true := by
  rw [h.ht, text_eq]
  exact cut_at (lab_no h.hsp).1
theorem good_from {l sp ch : List UInt8} {n : Nat} (h : Good l sp ch n) : fromV l = tupR (resR sp ch n) 0 := by
  have hl : l = sp ++ [47] ++ (ch ++ [64] ++ itoa n) := h.ht.trans (text_eq sp ch n)
  have hl2 : l = (sp ++ [47] ++ ch) ++ [64] ++ itoa n := h.ht
  have p1 : posOf 47 l = some sp.length := by rw [hl]; exact pos_at (lab_no h.hsp).1
  have p2 : posOf 64 l = some (sp ++ [47] ++ ch).length := by
    rw [hl2]
    refine pos_at (fun hm => ?_)
    rcases List.mem_append.1 hm with hm | hm
    · rcases List.mem_append.1 hm with hm | hm
      · exact (lab_no h.hsp).2 hm
      · exact absurd (List.mem_singleton.1 hm) (by decide)
    · exact (lab_no h.hch).2 hm
  have len2 : (sp ++ [47] ++ ch).length = sp.length + 1 + ch.length := by simp only [List.length_append, List.length_cons, List.length_nil]
  have llen : l.length = sp.length + 1 + ch.length + 1 + (itoa n).length := by rw [hl2]; simp only [List.length_append, List.length_cons, List.length_nil]
  have b1 := lab_len h.hsp
  have b2 := lab_len h.hch
  have b3 := (itoa_spec (lt32 h.hn)).1.len
  have t1 : l.take sp.length = sp := by rw [hl, List.append_assoc, List.take_left']; rfl
  have t2 : (l.drop (sp.length + 1)).take ((sp ++ [47] ++ ch).length - (sp.length + 1)) = ch := by
    have e : (sp ++ [47]).length = sp.length + 1 := by simp
    rw [hl, ← e, List.drop_left' rfl, len2, e, show sp.length + 1 + ch.length - (sp.length + 1) = ch.length by omega, List.append_assoc, List.take_left' rfl]
  have t3 : l.drop ((sp ++ [47] ++ ch).length + 1) = itoa n := by
    have e : ((sp ++ [47] ++ ch) ++ [64]).length = (sp ++ [47] ++ ch).length + 1 := by rw [List.length_append]; rfl
    rw [hl2, ← e, List.drop_left' rfl]
  unfold fromV
  rw [p1, p2]
  dsimp only
  have z1 : Nat.blt (sp ++ [47] ++ ch).length sp.length = false := blt_f (by omega)
  have z2 : Nat.blt 60 l.length = false := blt_f (by omega)
  rw [z1, z2]
  show midV l (l.take sp.length) ((l.drop (sp.length + 1)).take ((sp ++ [47] ++ ch).length - (sp.length + 1))) (digV (l.drop ((sp ++ [47] ++ ch).length + 1)) 0) = _
  rw [t1, t2, t3, dig_itoa h.hn]
  unfold midV endV
  have z3 : Nat.blt 1073741824 n = false := blt_f h.hn
  rw [h.hsp, h.hch]
  dsimp only
  rw [z3]
  dsimp only
  rw [show eqL (textOf sp ch n) l = true by rw [← h.ht]; exact eqL_refl l]
theorem end_good {l sp ch : List UInt8} {n : Nat} : endV l sp ch n = badV ∨ Good l sp ch n := by
  unfold endV
  cases h1 : lab sp with
  | false => exact .inl rfl
  | true => cases h2 : lab ch with
    | false => exact .inl rfl
    | true => cases h3 : Nat.blt 1073741824 n with
      | true => exact .inl rfl
      | false => cases h4 : eqL (textOf sp ch n) l with
        | false => exact .inl rfl
        | true =>
          refine .inr ⟨h1, h2, ?_, ?_⟩
          · rcases Nat.lt_or_ge 1073741824 n with q | q
            · rw [blt_t q] at h3; cases h3
            · exact q
          · rw [eqL_eq] at h4
            exact (by simpa using h4 : textOf sp ch n = l).symm
theorem from_bad {l : List UInt8} (h : ¬ ∃ sp ch n, Good l sp ch n) : fromV l = badV := by
  unfold fromV
  split
  · split
    · rfl
    · unfold midV
      split
      · rfl
      · rcases end_good (l := l) with q | q
        · exact q
        · exact absurd ⟨_, _, _, q⟩ h
  · rfl
end Go.Proofs.YtbkgnlcjnimpcaaDoor.strs.plain
