/- FanWhole: what is kept between its rounds. -/
import Derived.Test.YtbkgnlcjnimpcaaDoorFanWholeF
namespace Go.Proofs.YtbkgnlcjnimpcaaDoor.fanWhole
open Go Go.Ab Go.RowKit
set_option maxRecDepth 100000
/-- What was asked, and answered: from which number on, for how many (less one); up to where, how many came. -/
structure Rc where
  fr : Nat
  m : Nat
  at_ : Nat
  c : Nat
def RcOk (n a : Nat) (x : Rc) : Prop := x.fr ≤ a ∧ x.m ≤ 15 ∧ x.c ≤ x.m + 1 ∧ (0 < x.c → x.at_ = x.fr + x.c ∧ x.fr + x.c ≤ n) ∧ (x.c = 0 → x.at_ ≤ x.fr)
theorem RcOk.mono {n a n2 a2 : Nat} {x : Rc} (h : RcOk n a x) (hn : n ≤ n2) (ha : a ≤ a2) : RcOk n2 a2 x :=
  ⟨Nat.le_trans h.1 ha, h.2.1, h.2.2.1, fun q => ⟨(h.2.2.2.1 q).1, Nat.le_trans (h.2.2.2.1 q).2 hn⟩, h.2.2.2.2⟩
def fO (r : Nat → Rc) (j : Nat) : Value := (opL (r (j / 9)).fr (r (j / 9)).m).getD (j % 9) undef
def repC (q at_ c : Nat) : List Value := [i64 0, e24 at_, gotV q c]
def fR (r : Nat → Rc) (j : Nat) : Value := (repC (18 + j / 3) (r (j / 3)).at_ (r (j / 3)).c).getD (j % 3) undef
noncomputable def fT (st j : Nat) : Value := txtV (st + j)

/-! ### The memory's blocks -/
noncomputable def list18 (x : Ob) (fo : AObj) : List AObj := [.dead, .dead, .dead, .dead, .dead, .dead, .dead, .dead, cellsOfL [.slice (Option.some ⟨9, 0, none⟩) 1 openN, .slice none 0 0] 26, cellsOfL [str [119], str [99], .slice (Option.some ⟨10, 0, none⟩) 1 openN, x.Vp] 84, cellsOfL [ann] 9, x.O11, fo, x.O13, x.O14, x.O15, x.O16, x.O17]
theorem heapF_get : ∀ (l : List AObj) (i : Nat) (acc : Tree AObj) (j : Nat), (heapF l i acc).get .dead j = if i ≤ j ∧ j < i + l.length then l.getD (j - i) .dead else acc.get .dead j := by
  intro l
  induction l with
  | nil => intro i acc j; rw [if_neg (by simp)]; rfl
  | cons o l ih =>
    intro i acc j
    show (heapF l (i + 1) (acc.set .dead i o)).get .dead j = _
    rw [ih, Tree.get_set]
    by_cases e : j = i
    · subst e
      rw [if_neg (by omega), if_pos rfl, if_pos (by simp), Nat.sub_self]; rfl
    · rw [if_neg e]
      by_cases h : i + 1 ≤ j ∧ j < i + 1 + l.length
      · rw [if_pos h, if_pos (by simp; omega)]
        obtain ⟨d, rfl⟩ : ∃ d, j = i + 1 + d := ⟨j - (i + 1), by omega⟩
        rw [show i + 1 + d - (i + 1) = d by omega, show i + 1 + d - i = d + 1 by omega]; rfl
      · rw [if_neg h, if_neg (by simp; omega)]
theorem deads_get : ∀ (n i : Nat), (deads n).getD i .dead = .dead := by
  intro n
  induction n with
  | zero => intro i; rfl
  | succ n ih => intro i; cases i with
    | zero => rfl
    | succ i => exact ih i
theorem heapOf_get (x : Ob) (fo : AObj) (c : Nat) : (heapOf x fo).get c = (list18 x fo).getD c .dead := by
  show (heapF (list18 x fo ++ deads 200) 0 .leaf).get .dead c = _
  rw [heapF_get, Nat.sub_zero, Tree.get_leaf]
  have e : (list18 x fo ++ deads 200).getD c .dead = (list18 x fo).getD c .dead := by
    have hl : (list18 x fo).length = 18 := rfl
    rcases Nat.lt_or_ge c 18 with h | h
    · rw [List.getD_eq_getElem?_getD, List.getD_eq_getElem?_getD, List.getElem?_append_left (by omega)]
    · rw [List.getD_eq_getElem?_getD, List.getElem?_append_right (by omega), ← List.getD_eq_getElem?_getD, deads_get, List.getD_eq_getElem?_getD, List.getElem?_eq_none (by omega)]; rfl
  split
  · exact e
  · rename_i h
    rw [← e, List.getD_eq_getElem?_getD, List.getElem?_eq_none (by omega)]; rfl
theorem getD_mem {α : Type} {d : α} {p : α → Prop} (hd : p d) : ∀ (l : List α), (∀ x ∈ l, p x) → ∀ i, p (l.getD i d) := by
  intro l
  induction l with
  | nil => intro _ i; exact hd
  | cons x l ih =>
    intro h i
    cases i with
    | zero => exact h x (by simp)
    | succ i => exact ih (fun y hy => h y (by simp [hy])) i
theorem put14 (Vp : Value) (O11 O13 O15 O16 O17 fo o : AObj) : (heapOf ⟨Vp, O11, O13, .dead, O15, O16, O17⟩ fo).put 14 o = heapOf ⟨Vp, O11, O13, o, O15, O16, O17⟩ fo := by kernel_rfl
theorem put17 (Vp : Value) (O11 O13 O14 O15 O16 fo o : AObj) : (heapOf ⟨Vp, O11, O13, O14, O15, O16, .dead⟩ fo).put 17 o = heapOf ⟨Vp, O11, O13, O14, O15, O16, o⟩ fo := by kernel_rfl
theorem put11 (Vp : Value) (O11 O13 O14 O15 O16 O17 fo o : AObj) : (heapOf ⟨Vp, O11, O13, O14, O15, O16, O17⟩ fo).put 11 o = heapOf ⟨Vp, o, O13, O14, O15, O16, O17⟩ fo := by kernel_rfl
theorem put13 (Vp : Value) (O11 O13 O14 O15 O16 O17 fo o : AObj) : (heapOf ⟨Vp, O11, O13, O14, O15, O16, O17⟩ fo).put 13 o = heapOf ⟨Vp, O11, o, O14, O15, O16, O17⟩ fo := by kernel_rfl
theorem put15 (Vp : Value) (O11 O13 O14 O15 O16 O17 fo o : AObj) : (heapOf ⟨Vp, O11, O13, O14, O15, O16, O17⟩ fo).put 15 o = heapOf ⟨Vp, O11, O13, O14, o, O16, O17⟩ fo := by kernel_rfl

/-! ### Rows in one form -/
theorem moreO_row (f : Nat → Value) (size t : Nat) (xs : List Value) (L : Nat) : ∃ R : Row, moreO f size t xs L = .cells R t ∧ R.len = L * size + xs.length ∧ ∀ j, R.get? j = if j < L * size then some (f j) else xs[j - L * size]? := by
  cases L with
  | zero => exact ⟨_, rfl, by rw [Row.ofList_len]; omega, fun j => by rw [Row.ofList_get?, if_neg (by omega), Nat.zero_mul, Nat.sub_zero]⟩
  | succ L =>
    refine ⟨_, rfl, rfl, fun j => ?_⟩
    rw [Row.more_get?]
    show (if j < (L + 1) * size then (rowFn f ((L + 1) * size)).get? j else xs[j - (L + 1) * size]?) = _
    split
    · rename_i h; rw [rowFn_get? _ _ _ h]
    · rfl
theorem rowV_succ (f : Nat → Value) (size t L : Nat) : rowV f size t (L + 1) = .cells (rowFn f ((L + 1) * size)) t := rfl
theorem rowIn_rowV {f : Nat → Value} {size t L : Nat} (h : 0 < L) : rowIn (rowV f size t L) = some (rowFn f (L * size)) := by
  cases L with
  | zero => omega
  | succ L => rfl
theorem one_rowV {f : Nat → Value} {size t L : Nat} (h : ∀ j, j < L * size → vflat 8 (f j) = true) : OneForm (rowV f size t L) := by
  cases L with
  | zero => exact .inl rfl
  | succ L =>
    refine .inr ⟨_, _, .inr rfl, fun i v hv => ?_⟩
    obtain ⟨h1, rfl⟩ := rowFn_lt hv
    exact h i h1
theorem fO_flat (r : Nat → Rc) (j : Nat) : vflat 8 (fO r j) = true := getD_mem (p := fun v => vflat 8 v = true) rfl _ (fun x hx => by
  simp only [opL, List.mem_cons, List.not_mem_nil, or_false] at hx
  rcases hx with rfl | rfl | rfl | rfl | rfl | rfl | rfl | rfl | rfl <;> rfl) _
theorem fT_flat (st j : Nat) : vflat 8 (fT st j) = true := rfl
theorem moreO_one {f : Nat → Value} {size t : Nat} {xs : List Value} {L : Nat} (hf : ∀ j, vflat 8 (f j) = true) (hx : ∀ x ∈ xs, vflat 8 x = true) : OneForm (moreO f size t xs L) := by
  obtain ⟨R, h1, _, h3⟩ := moreO_row f size t xs L
  refine .inr ⟨R, t, .inr h1, fun i v hv => ?_⟩
  rw [h3] at hv
  split at hv
  · obtain rfl := Option.some.inj hv; exact hf i
  · exact hx v (List.mem_of_getElem? hv)
theorem opL_flat (a y : Nat) : ∀ x ∈ opL a y, vflat 8 x = true := by
  intro x hx
  simp only [opL, List.mem_cons, List.not_mem_nil, or_false] at hx
  rcases hx with rfl | rfl | rfl | rfl | rfl | rfl | rfl | rfl | rfl <;> rfl
theorem postO_row (n : Nat) : ∃ R : Row, postO (fP 0) n = .cells R 48 ∧ R.len = (n + 1) * 2 ∧ ∀ j, j < (n + 1) * 2 → R.get? j = some (fP 0 j) := by
  have two : ∀ j, j < 2 → ([ann, txtV n] : List Value)[j]? = some (fP 0 (n * 2 + j)) := by
    intro j hj
    rcases Nat.lt_or_ge j 1 with h | h
    · obtain rfl : j = 0 := by omega
      rw [Nat.add_zero, fP_even]; rfl
    · obtain rfl : j = 1 := by omega
      rw [fP_odd, Nat.zero_add]; rfl
  cases n with
  | zero =>
    refine ⟨_, rfl, rfl, fun j hj => ?_⟩
    rw [Row.ofList_get?]
    have := two j hj
    rw [Nat.zero_mul, Nat.zero_add] at this
    exact this
  | succ n =>
    have hl : (Row.ofList ((rowFn (fP 0) ((n + 1) * 2)).part 0 ((n + 1) * 2))).len = (n + 1) * 2 := by rw [Row.ofList_len, Row.part_length]
    refine ⟨_, rfl, ?_, fun j hj => ?_⟩
    · show (Row.ofList ((rowFn (fP 0) ((n + 1) * 2)).part 0 ((n + 1) * 2))).len + 2 = _
      rw [hl]; omega
    · rw [Row.more_get?, hl]
      split
      · rename_i h
        rw [Row.ofList_get?, Row.part_get? (rowFn (fP 0) ((n + 1) * 2)) _ _ _ (by show 0 + (n + 1) * 2 ≤ (n + 1) * 2; omega) h, Nat.zero_add, rowFn_get? _ _ _ h]
      · rename_i h
        rw [two _ (by omega)]
        congr 2; omega
theorem toldR_row (st T a : Nat) (ha : a = st + T) : ∀ d, 0 < T + d → (toldR (fT st) T a d).len = T + d ∧ ∀ j, j < T + d → (toldR (fT st) T a d).get? j = some (fT st j) := by
  intro d
  induction d with
  | zero =>
    intro _
    refine ⟨?_, fun j hj => ?_⟩
    · show T * 1 = T + 0
      omega
    · show (rowFn (fT st) (T * 1)).get? j = _
      rw [rowFn_get? _ _ _ (by omega)]
  | succ d ih =>
    intro _
    by_cases h0 : T = 0 ∧ d = 0
    · obtain ⟨rfl, rfl⟩ := h0
      refine ⟨rfl, fun j hj => ?_⟩
      obtain rfl : j = 0 := by omega
      subst ha
      rfl
    · obtain ⟨q1, q2⟩ := ih (by omega)
      have e : toldR (fT st) T a (d + 1) = (toldR (fT st) T a d).more [txtV (a + d)] := by
        cases T with
        | zero => cases d with
          | zero => exact absurd ⟨rfl, rfl⟩ h0
          | succ d => rfl
        | succ T => rfl
      rw [e]
      refine ⟨?_, fun j hj => ?_⟩
      · show (toldR (fT st) T a d).len + 1 = _
        rw [q1]; omega
      · rw [Row.more_get?, q1]
        split
        · rename_i h; exact q2 j h
        · rename_i h
          obtain rfl : j = T + d := by omega
          rw [Nat.sub_self]
          subst ha
          show some (txtV (st + T + d)) = some (txtV (st + (T + d)))
          rw [Nat.add_assoc]
theorem toldO_cells {st T a d : Nat} (h : 0 < T + d) : toldO (fT st) T a d = .cells (toldR (fT st) T a d) 9 := by
  cases T with
  | zero => cases d with
    | zero => omega
    | succ d => rfl
  | succ T => rfl

/-! ### What is kept -/
theorem slice_agree {m m' : Mu} {b b' o n c : Nat} {v' : Value} (e : ∀ l, m b = some l → m' b' = some l) (h : VRel m (.slice (some ⟨b, o, none⟩) n c) v') : VRel m' (.slice (some ⟨b', o, none⟩) n c) v' := by
  cases h with
  | slice _ _ _ _ l h1 h2 => exact .slice b' o n c l (e l h1) h2
  | oslice _ _ _ k l h1 h2 h3 h4 => exact .oslice b' o n k l (e l h1) h2 h3 h4
  | oslice0 _ _ k l a h1 h2 h3 => exact .oslice0 b' o k l a (e l h1) h2 h3
theorem got_agree {m m' : Mu} {b b' c : Nat} {v' : Value} (e : 0 < c → ∀ l, m b = some l → m' b' = some l) (h : VRel m (gotV b c) v') : VRel m' (gotV b' c) v' := by
  cases c with
  | zero => cases h; exact .nilSlice 0 0
  | succ c => exact slice_agree (e (Nat.succ_pos c)) h
theorem repC_agree {m m' : Mu} {b b' at_ c : Nat} {v' : Value} (e : 0 < c → ∀ l, m b = some l → m' b' = some l) (j : Nat) (hj : j < 3) (h : VRel m ((repC b at_ c).getD j undef) v') : VRel m' ((repC b' at_ c).getD j undef) v' := by
  rcases (show j = 0 ∨ j = 1 ∨ j = 2 by omega) with rfl | rfl | rfl
  · exact FixV.flat (σ := []) (v := i64 0) rfl m m' v' (fun y hy => by cases hy) h
  · exact FixV.flat (σ := []) (v := e24 at_) rfl m m' v' (fun y hy => by cases hy) h
  · exact got_agree e h
theorem rel_bool {m : Mu} {v : Value} {b : Bool} (h : VRel m v (.bool b)) : v = .bool b := by
  cases h with
  | bool => rfl
  | any r v' g => exact absurd rfl (g b)
theorem any_of {m m' : Mu} {v v' : Value} (hc : isCell v = true) (hb : ∀ b, v ≠ .bool b) (h : VRel m v v') : VRel m' un v' := by
  have hv := isCell_rel h hc
  exact .any 0 v' (fun b e => by subst e; exact hb b (rel_bool h)) (fun c e => by subst e; cases hv) (fun c e => by subst e; cases hv)
theorem repC_any {m m' : Mu} {b at_ c : Nat} {v' : Value} (j : Nat) (hj : j < 3) (h : VRel m ((repC b at_ c).getD j undef) v') : VRel m' un v' := by
  rcases (show j = 0 ∨ j = 1 ∨ j = 2 by omega) with rfl | rfl | rfl
  · exact any_of (v := i64 0) rfl (fun b e => by cases e) h
  · exact any_of (v := e24 at_) rfl (fun b e => by cases e) h
  · exact any_of (v := gotV b c) (by cases c <;> rfl) (fun b e => by cases c <;> cases e) h
/-- Of all that was answered. -/
structure Kept0 (W : World) (B : Base) (m : Mu) (L : Nat) (r : Nat → Rc) (O16 : AObj) : Prop where
  base : ∀ k, k < W.heap.size → B.prot k = W.heap[k]?
  os : B.os = W.os
  tape : B.tape = W.tape
  output : B.output = W.output
  posts : ∀ i, i < L → 0 < (r i).c → ∃ l o, m (18 + i) = some l ∧ B.prot l.blk = some o ∧ HoldsO Tryd.prog m l o (.cells (rowFn (fP (r i).fr) ((r i).c * 2)) 48)
  free : ∀ i, L ≤ i → i < 200 → m (18 + i) = none
  scr : O16 ≠ .dead → ∃ l, m 16 = some l ∧ l.blk < W.heap.size
structure Kept (W : World) (B : Base) (m : Mu) (L : Nat) (r : Nat → Rc) (O16 : AObj) : Prop where
  k0 : Kept0 W B m L r O16
  rep : 0 < L → ∃ l o, m 14 = some l ∧ W.heap.size ≤ l.blk ∧ B.prot l.blk = some o ∧ HoldsO Tryd.prog m l o (.cells (rowFn (fR r) (L * 3)) 30)
theorem Kept0.below {W : World} {B : Base} {m : Mu} {L : Nat} {r : Nat → Rc} {O16 : AObj} (hk : Kept0 W B m L r O16) : ∀ m h w, Rel Tryd.prog B m h w → Below W.heap.size W w := by
  intro m h w hr
  have hh : ∀ k, k < W.heap.size → w.heap[k]? = W.heap[k]? := by
    intro k hlt
    have e := hk.base k hlt
    rw [Array.getElem?_eq_getElem hlt] at e
    rw [hr.prot k _ e, Array.getElem?_eq_getElem hlt]
  refine ⟨hr.os.trans hk.os, hr.tape.trans hk.tape, hr.output.trans hk.output, ?_, hh⟩
  rcases Nat.lt_or_ge w.heap.size W.heap.size with c | c
  · have := hh w.heap.size c
    rw [Array.getElem?_eq_none (Nat.le_refl _), Array.getElem?_eq_getElem c] at this
    cases this
  · exact c
theorem holds_flat {m m2 : Mu} {l : Ab.Loc} {o : Obj} {ob : AObj} (h1 : OneForm ob) (h : HoldsO Tryd.prog m l o ob) : HoldsO Tryd.prog m2 l o ob :=
  fun w hw => FixO.of_one (σ := []) h1 m m2 l w (fun y hy => by cases hy) (h w hw)
theorem posts_one (a N : Nat) : OneForm (.cells (rowFn (fP a) N) 48) := .inr ⟨_, _, .inr rfl, fun i v hv => by obtain ⟨_, rfl⟩ := rowFn_lt hv; exact fP_flat a i⟩
theorem Kept0.agree {W : World} {B : Base} {m m2 : Mu} {L : Nat} {r : Nat → Rc} {O16 : AObj} (hk : Kept0 W B m L r O16) (hL : L ≤ 200) (h16 : m2 16 = m 16) (ht : ∀ i, i < 200 → m2 (18 + i) = m (18 + i)) : Kept0 W B m2 L r O16 :=
  ⟨hk.base, hk.os, hk.tape, hk.output, fun i hi hc => by
    obtain ⟨l, o, q1, q2, q3⟩ := hk.posts i hi hc
    exact ⟨l, o, by rw [ht i (by omega)]; exact q1, q2, holds_flat (posts_one _ _) q3⟩, fun i h1 h2 => by rw [ht i h2]; exact hk.free i h1 h2, fun h => by rw [h16]; exact hk.scr h⟩
theorem fR_lt {L j : Nat} (h : j < L * 3) : j / 3 < L ∧ j % 3 < 3 := ⟨by omega, Nat.mod_lt _ (by decide)⟩
theorem Kept.agree {W : World} {B : Base} {m m2 : Mu} {L : Nat} {r : Nat → Rc} {O16 : AObj} (hk : Kept W B m L r O16) (hL : L ≤ 200) (h14 : m2 14 = m 14) (h16 : m2 16 = m 16) (ht : ∀ i, i < 200 → m2 (18 + i) = m (18 + i)) : Kept W B m2 L r O16 := by
  refine ⟨hk.k0.agree hL h16 ht, fun h0 => ?_⟩
  obtain ⟨l, o, q1, q2, q3, q4⟩ := hk.rep h0
  refine ⟨l, o, by rw [h14]; exact q1, q2, q3, fun w hw => okRow_map rfl (fun j v hv => ?_) (q4 w hw)⟩
  obtain ⟨hj, rfl⟩ := rowFn_lt hv
  obtain ⟨p1, p2⟩ := fR_lt hj
  exact ⟨_, rowFn_get? _ _ _ hj, fun v' hv' => repC_agree (fun _ l hl => by rw [ht _ (by omega)]; exact hl) _ p2 hv'⟩

/-! ### Numbers that are kept -/
theorem atOf_app : ∀ (l t : List Nat) (i : Nat), atOf (l ++ t) (l.length + i) = atOf t i := by
  intro l
  induction l with
  | nil => intro t i; rw [List.nil_append, List.length_nil, Nat.zero_add]
  | cons x l ih =>
    intro t i
    rw [List.length_cons, show l.length + 1 + i = (l.length + i) + 1 by omega]
    exact ih t i
theorem atOf_upTo (f : Nat → Nat) : ∀ (k s i : Nat), i < k → atOf (upTo f k s) i = some (f (s + i)) := by
  intro k
  induction k with
  | zero => intro s i h; omega
  | succ k ih =>
    intro s i h
    cases i with
    | zero => rfl
    | succ i =>
      show atOf (upTo f k (s + 1)) i = _
      rw [ih _ _ (by omega), show s + 1 + i = s + (i + 1) by omega]
theorem atOf_tok {l : List Nat} (hl : l.length = 18) {i : Nat} (h : i < 200) : atOf (l ++ toks) (18 + i) = some (18 + i) := by
  rw [← hl, atOf_app]
  unfold toks
  rw [atOf_upTo _ _ _ _ h, hl, Nat.zero_add]
theorem atOf_tokA {l : List Nat} (hl : l.length = 18) {i : Nat} (h : i < 200) : atOf (l ++ toksA) (18 + i) = some (1018 + i) := by
  rw [← hl, atOf_app]
  unfold toksA
  rw [atOf_upTo _ _ _ _ h, Nat.zero_add]
theorem zOk {σ : List Nat} {x : Ob} {fo : AObj} (h11 : FixO Tryd.prog σ x.O11) (h13 : FixO Tryd.prog σ x.O13) (h14 : FixO Tryd.prog σ x.O14) (h15 : FixO Tryd.prog σ x.O15) (h16 : FixO Tryd.prog σ x.O16) (h17 : FixO Tryd.prog σ x.O17) (y : Nat) (h : inL [11, 13, 14, 15, 16, 17] y = true) : FixO Tryd.prog σ ((heapOf x fo).get y) := by
  rw [heapOf_get]
  simp only [inL, List.any_cons, List.any_nil, Bool.or_false, Bool.or_eq_true, Nat.beq_eq] at h
  rcases h with rfl | rfl | rfl | rfl | rfl | rfl
  · exact h11
  · exact h13
  · exact h14
  · exact h15
  · exact h16
  · exact h17
theorem fix_sliceV {σ : List Nat} {b : Nat} (h : atOf σ b = some b) (n : Nat) : FixV σ (sliceV b n) := by
  cases n with
  | zero => exact FixV.flat rfl
  | succ n => exact FixV.slice h
theorem zOk9 {σ : List Nat} {x : Ob} {fo : AObj} (h10 : atOf σ 10 = some 10) (hVp : FixV σ x.Vp) (h11 : FixO Tryd.prog σ x.O11) (h13 : FixO Tryd.prog σ x.O13) (h14 : FixO Tryd.prog σ x.O14) (h15 : FixO Tryd.prog σ x.O15) (h16 : FixO Tryd.prog σ x.O16) (h17 : FixO Tryd.prog σ x.O17) (y : Nat) (h : inL [9, 11, 13, 14, 15, 16, 17] y = true) : FixO Tryd.prog σ ((heapOf x fo).get y) := by
  by_cases h9 : y = 9
  · subst h9
    rw [heapOf_get]
    show FixO Tryd.prog σ (cellsOfL [str [119], str [99], .slice (Option.some ⟨10, 0, none⟩) 1 openN, x.Vp] 84)
    refine FixO.row fun i v hv => ?_
    have hv1 : (rowFn (fun i => ([str [119], str [99], .slice (Option.some ⟨10, 0, none⟩) 1 openN, x.Vp] : List Value).getD i undef) 4).get? i = some v := hv
    obtain ⟨_, rfl⟩ := rowFn_lt hv1
    refine getD_mem (p := fun v => FixV σ v) (FixV.flat rfl) _ (fun x hx => ?_) i
    simp only [List.mem_cons, List.not_mem_nil, or_false] at hx
    rcases hx with rfl | rfl | rfl | rfl
    · exact FixV.flat rfl
    · exact FixV.flat rfl
    · exact FixV.slice h10
    · exact hVp
  · refine zOk h11 h13 h14 h15 h16 h17 y ?_
    simp only [inL, List.any_cons, List.any_nil, Bool.or_false, Bool.or_eq_true, Nat.beq_eq] at h ⊢
    rcases h with h | h
    · exact absurd h h9
    · exact h
theorem ztOk {σ : List Nat} {v : Sl} {x : Ob} {st a t n i : Nat} {jt : Nat → Value} {zt : List Nat} (hzt : zt.all (inL [1, 9, 10, 11]) = true) (h1 : FixV σ v.V1) (h9 : FixV σ v.V9) (h10 : FixV σ v.V10) (h11 : FixV σ v.V11) (y : Nat) (h : inL zt y = true) : FixV σ (Tget (SL v x st a t n i jt).1 y) := by
  obtain ⟨z, hz, e⟩ := List.any_eq_true.1 (show zt.any (Nat.beq y) = true from h)
  obtain rfl := Nat.eq_of_beq_eq_true e
  have h2 := List.all_eq_true.1 hzt y hz
  simp only [inL, List.any_cons, List.any_nil, Bool.or_false, Bool.or_eq_true, Nat.beq_eq] at h2
  rcases h2 with rfl | rfl | rfl | rfl
  · exact h1
  · exact h9
  · exact h10
  · exact h11
theorem get11 (v : Sl) (x : Ob) (st a t n i : Nat) (jt : Nat → Value) : (SL v x st a t n i jt).2.get 11 = x.O11 := by kernel_rfl
theorem get13 (v : Sl) (x : Ob) (st a t n i : Nat) (jt : Nat → Value) : (SL v x st a t n i jt).2.get 13 = x.O13 := by kernel_rfl
theorem get14 (v : Sl) (x : Ob) (st a t n i : Nat) (jt : Nat → Value) : (SL v x st a t n i jt).2.get 14 = x.O14 := by kernel_rfl
theorem get15 (v : Sl) (x : Ob) (st a t n i : Nat) (jt : Nat → Value) : (SL v x st a t n i jt).2.get 15 = x.O15 := by kernel_rfl
theorem get17 (v : Sl) (x : Ob) (st a t n i : Nat) (jt : Nat → Value) : (SL v x st a t n i jt).2.get 17 = x.O17 := by kernel_rfl
theorem SL_heap (v : Sl) (x : Ob) (st a t n i : Nat) (jt : Nat → Value) : (SL v x st a t n i jt).2 = heapOf x (feedO a t) := rfl
theorem SL_next (v : Sl) (x : Ob) (st a t n i : Nat) (jt : Nat → Value) : (SL v x st a t n i jt).2.next = 218 := rfl
theorem zOkS {v : Sl} {x : Ob} {st a t n i : Nat} {jt : Nat → Value} {σ : List Nat} (h11 : FixO Tryd.prog σ x.O11) (h13 : FixO Tryd.prog σ x.O13) (h14 : FixO Tryd.prog σ x.O14) (h15 : FixO Tryd.prog σ x.O15) (h16 : FixO Tryd.prog σ x.O16) (h17 : FixO Tryd.prog σ x.O17) (y : Nat) (h : inL [11, 13, 14, 15, 16, 17] y = true) : FixO Tryd.prog σ ((SL v x st a t n i jt).2.get y) := by
  rw [SL_heap]
  exact zOk h11 h13 h14 h15 h16 h17 y h
theorem zOkS9 {v : Sl} {x : Ob} {st a t n i : Nat} {jt : Nat → Value} {σ : List Nat} (h10 : atOf σ 10 = some 10) (hVp : FixV σ x.Vp) (h11 : FixO Tryd.prog σ x.O11) (h13 : FixO Tryd.prog σ x.O13) (h14 : FixO Tryd.prog σ x.O14) (h15 : FixO Tryd.prog σ x.O15) (h16 : FixO Tryd.prog σ x.O16) (h17 : FixO Tryd.prog σ x.O17) (y : Nat) (h : inL [9, 11, 13, 14, 15, 16, 17] y = true) : FixO Tryd.prog σ ((SL v x st a t n i jt).2.get y) := by
  rw [SL_heap]
  exact zOk9 h10 hVp h11 h13 h14 h15 h16 h17 y h
theorem put11S (v : Sl) (Vp : Value) (O11 O13 O14 O15 O16 O17 o : AObj) (st a t n i : Nat) (jt : Nat → Value) : (SL v ⟨Vp, O11, O13, O14, O15, O16, O17⟩ st a t n i jt).2.put 11 o = (SL v ⟨Vp, o, O13, O14, O15, O16, O17⟩ st a t n i jt).2 := put11 ..
theorem put13S (v : Sl) (Vp : Value) (O11 O13 O14 O15 O16 O17 o : AObj) (st a t n i : Nat) (jt : Nat → Value) : (SL v ⟨Vp, O11, O13, O14, O15, O16, O17⟩ st a t n i jt).2.put 13 o = (SL v ⟨Vp, O11, o, O14, O15, O16, O17⟩ st a t n i jt).2 := put13 ..
theorem put14S (v : Sl) (Vp : Value) (O11 O13 O15 O16 O17 o : AObj) (st a t n i : Nat) (jt : Nat → Value) : (SL v ⟨Vp, O11, O13, .dead, O15, O16, O17⟩ st a t n i jt).2.put 14 o = (SL v ⟨Vp, O11, O13, o, O15, O16, O17⟩ st a t n i jt).2 := put14 ..
theorem put15S (v : Sl) (Vp : Value) (O11 O13 O14 O15 O16 O17 o : AObj) (st a t n i : Nat) (jt : Nat → Value) : (SL v ⟨Vp, O11, O13, O14, O15, O16, O17⟩ st a t n i jt).2.put 15 o = (SL v ⟨Vp, O11, O13, O14, o, O16, O17⟩ st a t n i jt).2 := put15 ..
theorem put17S (v : Sl) (Vp : Value) (O11 O13 O14 O15 O16 o : AObj) (st a t n i : Nat) (jt : Nat → Value) : (SL v ⟨Vp, O11, O13, O14, O15, O16, .dead⟩ st a t n i jt).2.put 17 o = (SL v ⟨Vp, O11, O13, O14, O15, O16, o⟩ st a t n i jt).2 := put17 ..
/-- Another word for a row. -/
theorem re11 {v : Sl} {Vp : Value} {O11 O13 O14 O15 O16 O17 o : AObj} {st a t n i : Nat} {jt : Nat → Value} {B : Base} {m : Mu} {w : World} (hr : Rel Tryd.prog B m (SL v ⟨Vp, O11, O13, O14, O15, O16, O17⟩ st a t n i jt).2 w) (hd : O11 ≠ .dead) (hro : isRo o = isRo O11) (hok : ∀ l, OKObj Tryd.prog m l w O11 → OKObj Tryd.prog m l w o) : Rel Tryd.prog B m (SL v ⟨Vp, o, O13, O14, O15, O16, O17⟩ st a t n i jt).2 w := by
  have e := get11 v ⟨Vp, O11, O13, O14, O15, O16, O17⟩ st a t n i jt
  rw [← put11S v Vp O11]
  exact hr.reobj (by rw [e]; exact hd) (by rw [e]; exact hro) (fun l _ h => by rw [e] at h; exact hok l h)
theorem re13 {v : Sl} {Vp : Value} {O11 O13 O14 O15 O16 O17 o : AObj} {st a t n i : Nat} {jt : Nat → Value} {B : Base} {m : Mu} {w : World} (hr : Rel Tryd.prog B m (SL v ⟨Vp, O11, O13, O14, O15, O16, O17⟩ st a t n i jt).2 w) (hd : O13 ≠ .dead) (hro : isRo o = isRo O13) (hok : ∀ l, OKObj Tryd.prog m l w O13 → OKObj Tryd.prog m l w o) : Rel Tryd.prog B m (SL v ⟨Vp, O11, o, O14, O15, O16, O17⟩ st a t n i jt).2 w := by
  have e := get13 v ⟨Vp, O11, O13, O14, O15, O16, O17⟩ st a t n i jt
  rw [← put13S v Vp O11 O13]
  exact hr.reobj (by rw [e]; exact hd) (by rw [e]; exact hro) (fun l _ h => by rw [e] at h; exact hok l h)
theorem re15 {v : Sl} {Vp : Value} {O11 O13 O14 O15 O16 O17 o : AObj} {st a t n i : Nat} {jt : Nat → Value} {B : Base} {m : Mu} {w : World} (hr : Rel Tryd.prog B m (SL v ⟨Vp, O11, O13, O14, O15, O16, O17⟩ st a t n i jt).2 w) (hd : O15 ≠ .dead) (hro : isRo o = isRo O15) (hok : ∀ l, OKObj Tryd.prog m l w O15 → OKObj Tryd.prog m l w o) : Rel Tryd.prog B m (SL v ⟨Vp, O11, O13, O14, o, O16, O17⟩ st a t n i jt).2 w := by
  have e := get15 v ⟨Vp, O11, O13, O14, O15, O16, O17⟩ st a t n i jt
  rw [← put15S v Vp O11 O13 O14 O15]
  exact hr.reobj (by rw [e]; exact hd) (by rw [e]; exact hro) (fun l _ h => by rw [e] at h; exact hok l h)
end Go.Proofs.YtbkgnlcjnimpcaaDoor.fanWhole
