/- Texts: a number with a sign, of any text; the number in a text, inside. -/
import Derived.Test.YtbkgnlcjnimpcaaDoorStrJ
namespace Go.Proofs.YtbkgnlcjnimpcaaDoor.strs.int
open Go Go.Ab Go.RowKit Go.Proofs.YtbkgnlcjnimpcaaDoor.strs
open Go.Proofs.YtbkgnlcjnimpcaaDoor.strs.num (tupV ngI)
open Go.Proofs.YtbkgnlcjnimpcaaDoor.strs.uin (tupU okE u64 NotedOk.app)
set_option maxRecDepth 100000
theorem tup_flat {n : Int} {e : Value} (h : okE e) : vflat 8 (tupV n e) = true := by
  rcases h with rfl | rfl | rfl <;> rfl
theorem okE2 : okE (num.errV 2) := .inr (.inr rfl)
theorem eq_nil {l : List UInt8} {x : UInt8} (h : l[0]? = some x) : eqL l [] = false := by
  cases l with
  | nil => cases h
  | cons _ _ => rfl
theorem drop_sl {l : List UInt8} {x : UInt8} (h : l[0]? = some x) : cut.slN l (some (e24 1)) none (l.drop 1) := by
  have hpos : 1 ≤ l.length := by
    rcases Nat.lt_or_ge 0 l.length with h2 | h2
    · exact h2
    · rw [List.getElem?_eq_none h2] at h; cases h
  have := cut.sl_ok (l := l) (lo := some (e24 1)) (hi := none) (x := 1) (y := l.length) (.inl rfl) (.inr ⟨rfl, rfl⟩) hpos (Nat.le_refl _)
  rw [List.take_of_length_le (by rw [List.length_drop]; exact Nat.le_refl _)] at this
  exact this
noncomputable def signOf (c : Nat) : Sign := match Nat.beq c 43 with
  | true => .plus
  | false => match Nat.beq c 45 with
    | true => .minus
    | false => .no
theorem sign_ok {l : List UInt8} {x : UInt8} (h : l[0]? = some x) : NotedOk (signH l (u8n x) (l.drop 1) (signOf (u8n x))) := by
  have h0 : pr (.bool (eqL l [])) F := congrArg Value.bool (eq_nil h)
  have hi := num.head_ok h
  unfold signOf
  cases h1 : Nat.beq (u8n x) 43 with
  | true => exact NotedOk.cons h0 (NotedOk.cons hi (NotedOk.cons (num.is_ok h1) (NotedOk.cons (drop_sl h) NotedOk.nil)))
  | false => cases h2 : Nat.beq (u8n x) 45 with
    | true => exact NotedOk.cons h0 (NotedOk.cons hi (NotedOk.cons (num.is_ok h1) (NotedOk.cons (num.is_ok h2) (NotedOk.cons (drop_sl h) NotedOk.nil))))
    | false => exact NotedOk.cons h0 (NotedOk.cons hi (NotedOk.cons (num.is_ok h1) (NotedOk.cons (num.is_ok h2) NotedOk.nil)))
theorem rest_len (l : List UInt8) (g : Sign) : (restL l (l.drop 1) g).length ≤ l.length := by
  cases g
  · exact Nat.le_refl _
  · show (l.drop 1).length ≤ _; rw [List.length_drop]; omega
  · show (l.drop 1).length ≤ _; rw [List.length_drop]; omega
theorem uint_form (l : List UInt8) : ∃ m e, okE e ∧ uin.uintV l = tupU m e := by
  unfold uin.uintV
  split
  · exact ⟨_, _, okE2, rfl⟩
  · exact uin.valU_form l 0
theorem many_all (g : Sign) {e : Value} (h : e = .nilIface ∨ e = num.errV 1) : (g, e) ∈ many := by
  rcases h with rfl | rfl <;> cases g <;> simp [many, signs, errs]
theorem lim_ok (u : Int) (g : Sign) : ∃ b, NotedOk (limN u b g) := by
  cases g
  · exact ⟨_, NotedOk.cons rfl NotedOk.nil⟩
  · exact ⟨_, NotedOk.cons rfl NotedOk.nil⟩
  · exact ⟨_, NotedOk.cons rfl NotedOk.nil⟩
theorem end_ok (u : Int) (g : Sign) : ∃ d d2, NotedOk (endN u d d2 g) := by
  cases g
  · exact ⟨_, 0, NotedOk.cons rfl NotedOk.nil⟩
  · exact ⟨_, 0, NotedOk.cons rfl NotedOk.nil⟩
  · exact ⟨_, _, NotedOk.cons rfl (NotedOk.cons rfl NotedOk.nil)⟩
theorem int_ok (l : List UInt8) (hl : l.length < 140737488355328) : ∃ n e, okE e ∧ MemoOk Tryd.prog ⟨57, [str l, e24 10, e24 0], tupV n e⟩ := by
  cases hx : l[0]? with
  | none =>
    have : l = [] := by
      cases l with
      | nil => rfl
      | cons _ _ => cases hx
    subst this
    exact ⟨_, _, okE2, memoK' (kn := kn73) (mk := mk) kn73ok rfl (tup_flat okE2) (r_empty []) (NotedOk.cons rfl NotedOk.nil)⟩
  | some x =>
    have hs := sign_ok hx
    generalize signOf (u8n x) = g at hs
    obtain ⟨u, e, he, hu⟩ := uint_form (restL l (l.drop 1) g)
    have hk := is73_ok (restL l (l.drop 1) g) (Nat.lt_of_le_of_lt (rest_len l g) hl)
    rw [hu] at hk
    have key : e = .nilIface ∨ e = num.errV 1 → ∃ n e, okE e ∧ MemoOk Tryd.prog ⟨57, [str l, e24 10, e24 0], tupV n e⟩ := by
      intro h
      have hm := many_all g h
      obtain ⟨b, hb⟩ := lim_ok u g
      cases b with
      | true => exact ⟨_, _, .inr (.inl rfl), memoK' (kn := kn73) (mk := mk) kn73ok rfl rfl (map_mem (r_lim l (l.drop 1) (u8n x) u) _ hm) (revN_ok _ _ (NotedOk.app hs (NotedOk.cons hk hb)) NotedOk.nil)⟩
      | false =>
        obtain ⟨d, d2, hd⟩ := end_ok u g
        exact ⟨_, _, .inl rfl, memoK' (kn := kn73) (mk := mk) kn73ok rfl rfl (map_mem (r_end l (l.drop 1) (u8n x) u d d2) _ hm) (revN_ok _ _ (NotedOk.app hs (NotedOk.cons hk (NotedOk.app hb hd))) NotedOk.nil)⟩
    rcases he with h | h | h
    · exact key (.inl h)
    · exact key (.inr h)
    · subst h
      exact ⟨_, _, okE2, memoK' (kn := kn73) (mk := mk) kn73ok rfl (tup_flat okE2) (map_mem (r_syn l (l.drop 1) (u8n x) u) g (by cases g <;> simp [signs])) (revN_ok _ _ (NotedOk.app hs (NotedOk.cons hk NotedOk.nil)) NotedOk.nil)⟩
noncomputable def intV (l : List UInt8) : Value := match Nat.blt l.length 140737488355328 with
  | true => tupV (Classical.epsilon fun n => ∃ e, okE e ∧ MemoOk Tryd.prog ⟨57, [str l, e24 10, e24 0], tupV n e⟩) (Classical.epsilon fun e => okE e ∧ MemoOk Tryd.prog ⟨57, [str l, e24 10, e24 0], tupV (Classical.epsilon fun n => ∃ e, okE e ∧ MemoOk Tryd.prog ⟨57, [str l, e24 10, e24 0], tupV n e⟩) e⟩)
  | false => undef
theorem intV_ok {l : List UInt8} (hl : l.length < 140737488355328) : ∃ n e, okE e ∧ intV l = tupV n e ∧ MemoOk Tryd.prog ⟨57, [str l, e24 10, e24 0], tupV n e⟩ := by
  have h1 := Classical.epsilon_spec (int_ok l hl)
  have h2 := Classical.epsilon_spec h1
  refine ⟨_, _, h2.1, ?_, h2.2⟩
  unfold intV
  rw [blt_t hl]
end Go.Proofs.YtbkgnlcjnimpcaaDoor.strs.int
namespace Go.Proofs.YtbkgnlcjnimpcaaDoor.strs.num
open Go Go.Ab Go.RowKit Go.Proofs.YtbkgnlcjnimpcaaDoor.strs
open Go.Proofs.YtbkgnlcjnimpcaaDoor.strs.uin (okE)
open Go.Proofs.YtbkgnlcjnimpcaaDoor.strs.int (intV drop_sl intV_ok tup_flat)
set_option maxRecDepth 100000
noncomputable def g57 (l : List Value) : Option Value := match l with
  | [.string ⟨⟨l⟩⟩, .int .i64 (.ofNat a), .int .i64 (.ofNat b)] => match Nat.beq a 10 && (Nat.beq b 0 && Nat.blt l.length 140737488355328) with
    | true => some (intV l)
    | false => none
  | _ => none
noncomputable def kn57 : Known := pureK 57 g57
theorem kn57ok : Kok kn57 := pureK_sound fun l v h => by
  unfold g57 at h
  split at h
  · rename_i l a b
    split at h
    · rename_i h1
      cases h
      simp only [Bool.and_eq_true, Nat.blt_eq] at h1
      obtain ⟨ha, hb, hl⟩ := h1
      obtain rfl := Nat.eq_of_beq_eq_true ha
      obtain rfl := Nat.eq_of_beq_eq_true hb
      obtain ⟨n, e, _, h2, h3⟩ := intV_ok hl
      rw [h2]
      exact h3
    · cases h
  · cases h
noncomputable def is57 (l : List UInt8) (v : Value) : Prop := ∀ h' : AHeap, (CBk kn57 57).un ⟨[str l, e24 10, e24 0]⟩ h' = some (v, h')
theorem is57_ok (l : List UInt8) (hl : l.length < 140737488355328) : is57 l (intV l) := fun h' => (CBk_known (kn := kn57) (f := 57) (g := fun args h => match g57 (listOf args) with | some v => some (v, h) | none => none) rfl _ h').trans (by
  show (match (match Nat.blt l.length 140737488355328 with | true => some (intV l) | false => none) with | some v => some (v, h') | none => none) = _
  rw [blt_t hl])
noncomputable def runS (l : List UInt8) (tp : Ab.Tape) : Option OutC := (CCk kn57 mk 49).un [str l].toArray (bareOf 8) tp []
theorem slow_none (l : List UInt8) (n : Int) (e : Value) : saidOf (runS l [F, tupV n e]) = some (tupV n e, revN [lenP l false, is57 l (tupV n e)] []) := by kernel_rfl
theorem slow_long (l : List UInt8) (n : Int) (e : Value) : saidOf (runS l [Tr, F, tupV n e]) = some (tupV n e, revN [lenP l true, shortP l false, is57 l (tupV n e)] []) := by kernel_rfl
/-- The number in a text, inside. -/
theorem slow_ok {l : List UInt8} (hl : l.length < 140737488355328) (h : l.length = 0 ∨ 19 ≤ l.length) : ∃ n e, okE e ∧ MemoOk Tryd.prog ⟨49, [str l], tupV n e⟩ := by
  obtain ⟨n, e, he, h1, _⟩ := intV_ok hl
  have hk := is57_ok l hl
  rw [h1] at hk
  refine ⟨n, e, he, ?_⟩
  rcases h with h | h
  · refine memoK' (kn := kn57) (mk := mk) kn57ok rfl (tup_flat he) (slow_none l n e) (revN_ok _ _ (NotedOk.cons ?_ (NotedOk.cons hk NotedOk.nil)) NotedOk.nil)
    unfold lenP; rw [lenL_len, h]; rfl
  · refine memoK' (kn := kn57) (mk := mk) kn57ok rfl (tup_flat he) (slow_long l n e) (revN_ok _ _ (NotedOk.cons ?_ (NotedOk.cons ?_ (NotedOk.cons hk NotedOk.nil))) NotedOk.nil)
    · unfold lenP; rw [lenL_len]; exact congrArg Value.bool (lt_yes (a := 0) (by omega))
    · unfold shortP; rw [lenL_len]; exact congrArg Value.bool (lt_no (b := 19) h)
theorem outV_form (c : Nat) (r : Option Int) : ∃ n e, okE e ∧ outV c r = tupV n e := by
  cases r with
  | none => exact ⟨_, _, .inr (.inr rfl), rfl⟩
  | some n =>
    unfold outV
    cases Nat.beq c 45
    · exact ⟨_, _, .inl rfl, rfl⟩
    · exact ⟨_, _, .inl rfl, rfl⟩
/-- Of a text without a sign. -/
theorem fast_ok {l : List UInt8} {x : UInt8} (hx : l[0]? = some x) (hl : l.length < 19) (h1 : Nat.beq (u8n x) 45 = false) (h2 : Nat.beq (u8n x) 43 = false) : MemoOk Tryd.prog ⟨49, [str l], outV (u8n x) (fastL l 0)⟩ :=
  walk hx (by omega) hl (plain l (u8n x)) (NotedOk.cons (head_ok hx) (NotedOk.cons (is_ok h1) (NotedOk.cons (head_ok hx) (NotedOk.cons (is_ok h2) NotedOk.nil))))
theorem sgN_ok {l : List UInt8} {x : UInt8} (hx : l[0]? = some x) {b q : Bool} (hb : intLt (.ofNat (l.drop 1).length) 1 = b) (hq : (q = true ∧ Nat.beq (u8n x) 45 = true) ∨ (q = false ∧ Nat.beq (u8n x) 45 = false ∧ Nat.beq (u8n x) 43 = true)) : NotedOk (sgN l (l.drop 1) (u8n x) b q) := by
  have hlen : pr (.bool (intLt (.ofNat (lenL (l.drop 1))) 1)) (bV b) := by rw [lenL_len]; exact congrArg Value.bool hb
  rcases hq with ⟨rfl, h⟩ | ⟨rfl, h, h3⟩
  · exact NotedOk.cons (head_ok hx) (NotedOk.cons (is_ok h) (NotedOk.cons (drop_sl hx) (NotedOk.cons hlen NotedOk.nil)))
  · exact NotedOk.cons (head_ok hx) (NotedOk.cons (is_ok h) (NotedOk.cons (head_ok hx) (NotedOk.cons (is_ok h3) (NotedOk.cons (drop_sl hx) (NotedOk.cons hlen NotedOk.nil)))))
theorem sign_ok {l : List UInt8} {x : UInt8} (hx : l[0]? = some x) (hl : l.length < 19) {q : Bool} (hq : (q = true ∧ Nat.beq (u8n x) 45 = true) ∨ (q = false ∧ Nat.beq (u8n x) 45 = false ∧ Nat.beq (u8n x) 43 = true)) : ∃ n e, okE e ∧ MemoOk Tryd.prog ⟨49, [str l], tupV n e⟩ := by
  have hqm : q ∈ [true, false] := by cases q <;> simp
  cases hb : intLt (.ofNat (l.drop 1).length) 1 with
  | true =>
    have hpos : 0 < l.length := by
      rcases Nat.lt_or_ge 0 l.length with h | h
      · exact h
      · rw [List.getElem?_eq_none h] at hx; cases hx
    refine ⟨_, _, .inr (.inr rfl), memoK' (kn := noneK) (mk := mk) noneK_sound rfl rfl (map_mem (alone l (l.drop 1) (u8n x)) q hqm) (revN_ok _ _ (NotedOk.cons ?_ (NotedOk.cons ?_ (sgN_ok hx hb hq))) NotedOk.nil)⟩
    · unfold lenP; rw [lenL_len]; exact congrArg Value.bool (lt_yes (a := 0) hpos)
    · unfold shortP; rw [lenL_len]; exact congrArg Value.bool (lt_yes (b := 19) hl)
  | false =>
    have h := walk hx (s := l.drop 1) (by rw [List.length_drop]; omega) hl (fun jt jh => map_mem (signed l (l.drop 1) (u8n x) jt jh) q hqm) (sgN_ok hx hb hq)
    obtain ⟨n, e, he, h2⟩ := outV_form (u8n x) (fastL (l.drop 1) 0)
    rw [h2] at h
    exact ⟨n, e, he, h⟩
theorem atoi_some {l : List UInt8} (hl : l.length < 140737488355328) : ∃ n e, okE e ∧ MemoOk Tryd.prog ⟨49, [str l], tupV n e⟩ := by
  by_cases h : l.length = 0 ∨ 19 ≤ l.length
  · exact slow_ok hl h
  · have hlt : 0 < l.length ∧ l.length < 19 := by omega
    obtain ⟨x, hx⟩ : ∃ x, l[0]? = some x := ⟨_, List.getElem?_eq_getElem hlt.1⟩
    cases h1 : Nat.beq (u8n x) 45 with
    | true => exact sign_ok hx hlt.2 (.inl ⟨rfl, h1⟩)
    | false => cases h2 : Nat.beq (u8n x) 43 with
      | true => exact sign_ok hx hlt.2 (.inr ⟨rfl, h1, h2⟩)
      | false =>
        have h := fast_ok hx hlt.2 h1 h2
        obtain ⟨n, e, he, h3⟩ := outV_form (u8n x) (fastL l 0)
        rw [h3] at h
        exact ⟨n, e, he, h⟩
end Go.Proofs.YtbkgnlcjnimpcaaDoor.strs.num
