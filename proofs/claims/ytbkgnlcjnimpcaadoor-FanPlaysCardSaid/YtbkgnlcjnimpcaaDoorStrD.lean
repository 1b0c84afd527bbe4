/- Texts: which names a channel may have, by the program's function. -/
import Derived.Test.YtbkgnlcjnimpcaaDoorStrC
namespace Go.Proofs.YtbkgnlcjnimpcaaDoor.strs
open Go Go.Ab Go.RowKit
set_option maxRecDepth 100000
theorem CBk_known {kn : Known} {f : FuncId} {g : Array Value → AHeap → Option (Value × AHeap)} (h : kn f = some g) (args : Array Value) (hp : AHeap) : (CBk kn f).un args hp = g args hp := by
  show (match kn f with
    | some g => (⟨g⟩ : Box (Array Value → AHeap → Option (Value × AHeap)))
    | none => bodyB Tryd.prog enters (callB Tryd.prog enters FT kn draw 1048576 39) (draw (callB Tryd.prog enters FT kn draw 1048576 39)) 1048576 (FT f)).un args hp = _
  rw [h]
def fn52 : Value := odd.fn52
def g76 (l : List Value) : Option Value := match l with
  | [.string ⟨⟨l⟩⟩, .func (.func 52) ⟨[]⟩ ⟨[]⟩, .bool true] => some (odd.oddV l)
  | _ => none
def kn76 : Known := pureK 76 g76
theorem kn76ok : Kok kn76 := pureK_sound fun l v h => by
  unfold g76 at h
  split at h
  · cases h; exact odd.index_ok _
  · cases h
def mk53 : Marks := fun g t => match Nat.beq g 63 && Nat.beq t 7 with | true => 9 | false => marksIn [] g t
noncomputable def is76 (l : List UInt8) (v : Value) : Prop := ∀ h' : AHeap, (CBk kn76 76).un ⟨[str l, fn52, Tr]⟩ h' = some (v, h')
theorem run53 (l : List UInt8) (i : Nat) : saidOf ((CCk kn76 mk53 53).un [str l, fn52].toArray (bareOf 8) [e24 i] []) = some (.bool true, [is76 l (e24 i)]) := by kernel_rfl
theorem run53n (l : List UInt8) : saidOf ((CCk kn76 mk53 53).un [str l, fn52].toArray (bareOf 8) [i64 (-1)] []) = some (.bool false, [is76 l (i64 (-1))]) := by kernel_rfl
theorem is76_ok (l : List UInt8) : is76 l (odd.oddV l) := fun h' => (CBk_known (kn := kn76) (f := 76) (g := fun args h => match g76 (listOf args) with | some v => some (v, h) | none => none) rfl _ h').trans rfl
theorem contains_ok (l : List UInt8) : MemoOk Tryd.prog ⟨53, [str l, fn52], .bool (oddL l)⟩ := by
  have hi := is76_ok l
  unfold odd.oddV at hi
  cases hf : l.findIdx? (fun x => odd1 (u8n x)) with
  | some i =>
    rw [hf] at hi
    have ho : oddL l = true := by
      unfold oddL
      have := List.findIdx?_eq_some_iff_getElem.1 hf
      obtain ⟨h1, h2, _⟩ := this
      rw [List.any_eq_true]
      exact ⟨_, List.getElem_mem h1, h2⟩
    rw [ho]
    exact memoK' (kn := kn76) (mk := mk53) kn76ok rfl rfl (run53 l i) (NotedOk.cons hi NotedOk.nil)
  | none =>
    rw [hf] at hi
    have ho : oddL l = false := by
      unfold oddL
      rw [List.findIdx?_eq_none_iff] at hf
      rw [List.any_eq_false]
      intro x hx
      rw [hf x hx]
      exact Bool.false_ne_true
    rw [ho]
    exact memoK' (kn := kn76) (mk := mk53) kn76ok rfl rfl (run53n l) (NotedOk.cons hi NotedOk.nil)
def g53 (l : List Value) : Option Value := match l with
  | [.string ⟨⟨l⟩⟩, .func (.func 52) ⟨[]⟩ ⟨[]⟩] => some (.bool (oddL l))
  | _ => none
def kn53 : Known := pureK 53 g53
theorem kn53ok : Kok kn53 := pureK_sound fun l v h => by
  unfold g53 at h
  split at h
  · cases h; exact contains_ok _
  · cases h
/-! ### Check -/
def mk32 : Marks := marksIn [(45, [13, 17, 22], [], []), (32, [129], [], [])]
def opMake (sp ch : List UInt8) : Value := .agg ⟨[i64 1, str sp, str ch, str [], str [], str [], str [], i64 0, i64 0]⟩
/-- Of a text: none, too long, odd, a label. -/
def labT : Nat → Ab.Tape → Ab.Tape
  | 0, t => Tr :: t
  | 1, t => F :: Tr :: t
  | 2, t => F :: F :: Tr :: t
  | _, t => F :: F :: F :: t
noncomputable def labN (l : List UInt8) : Nat → Noted → Noted
  | 0, t => pr (.bool (eqL l [])) Tr :: t
  | 1, t => pr (.bool (eqL l [])) F :: pr (.bool (intLt 16 (.ofNat (lenL l)))) Tr :: t
  | 2, t => pr (.bool (eqL l [])) F :: pr (.bool (intLt 16 (.ofNat (lenL l)))) F :: pr (.bool (oddL l)) Tr :: t
  | _, t => pr (.bool (eqL l [])) F :: pr (.bool (intLt 16 (.ofNat (lenL l)))) F :: pr (.bool (oddL l)) F :: t
noncomputable def sameN (sp ch : List UInt8) : Noted := [pr (.bool (notB (andB (eqL sp sp) (andB (eqL ch ch) true)))) F]
theorem check_bad (sp ch : List UInt8) : [0, 1, 2].map (fun k => saidOf ((CCk kn53 mk32 32).un [opMake sp ch].toArray (bareOf 8) (labT k []) [])) = [0, 1, 2].map (fun k => some (i64 1, revN (labN sp k []) [])) := by kernel_rfl
theorem check_bad2 (sp ch : List UInt8) : [0, 1, 2].map (fun k => saidOf ((CCk kn53 mk32 32).un [opMake sp ch].toArray (bareOf 8) (labT 3 (labT k [])) [])) = [0, 1, 2].map (fun k => some (i64 1, revN (labN sp 3 (labN ch k [])) [])) := by kernel_rfl
theorem check_good (sp ch : List UInt8) : saidOf ((CCk kn53 mk32 32).un [opMake sp ch].toArray (bareOf 8) (labT 3 (labT 3 [F])) []) = some (i64 0, revN (labN sp 3 (labN ch 3 (sameN sp ch))) []) := by kernel_rfl
theorem eqL_refl (l : List UInt8) : eqL l l = true := by rw [eqL_eq]; simp
theorem labN_ok (l : List UInt8) : (lab l = false → ∃ k, k ∈ [0, 1, 2] ∧ ∀ t, NotedOk t → NotedOk (labN l k t)) ∧ (lab l = true → ∀ t, NotedOk t → NotedOk (labN l 3 t)) := by
  have h0 : l ≠ [] → pr (.bool (eqL l [])) F := fun h => by
    refine congrArg Value.bool ?_
    rw [eqL_eq]
    simpa using h
  have hlen : l ≠ [] → 1 ≤ l.length := fun h => by
    cases l with
    | nil => exact absurd rfl h
    | cons => simp
  have h1 : ∀ b, (b = true ↔ 16 < l.length) → pr (.bool (intLt 16 (.ofNat (lenL l)))) (bV b) := fun b hb => by
    refine congrArg Value.bool ?_
    rw [lenL_len]
    cases b with
    | true => exact lt_yes (a := 16) (hb.1 rfl)
    | false => exact lt_no (a := 16) (by
        rcases Nat.lt_or_ge 16 l.length with h | h
        · have := hb.2 h; cases this
        · exact h)
  constructor
  · intro hl
    by_cases e : l = []
    · subst e
      exact ⟨0, by simp, fun t ht => NotedOk.cons rfl ht⟩
    by_cases e2 : 16 < l.length
    · exact ⟨1, by simp, fun t ht => NotedOk.cons (h0 e) (NotedOk.cons (h1 true ⟨fun _ => e2, fun _ => rfl⟩) ht)⟩
    refine ⟨2, by simp, fun t ht => NotedOk.cons (h0 e) (NotedOk.cons (h1 false ⟨(fun h => by cases h), fun h => absurd h e2⟩) (NotedOk.cons ?_ ht))⟩
    refine congrArg Value.bool ?_
    cases ho : oddL l with
    | true => rfl
    | false =>
      unfold lab at hl
      rw [ho, show Nat.ble 1 l.length = true by rw [Nat.ble_eq]; exact hlen e, show Nat.ble l.length 16 = true by rw [Nat.ble_eq]; omega] at hl
      cases hl
  · intro hl t ht
    unfold lab at hl
    simp only [Bool.and_eq_true, Nat.ble_eq] at hl
    obtain ⟨q1, q2, q3⟩ := hl
    have e : l ≠ [] := by rintro rfl; simp at q2
    have ho : oddL l = false := by
      cases h : oddL l with
      | true => rw [h] at q1; cases q1
      | false => rfl
    exact NotedOk.cons (h0 e) (NotedOk.cons (h1 false ⟨(fun h => by cases h), (fun h => by omega)⟩) (NotedOk.cons (congrArg Value.bool ho) ht))
def errV (b : Bool) : Value := match b with
  | true => i64 0
  | false => i64 1
theorem check_ok (sp ch : List UInt8) : MemoOk Tryd.prog ⟨32, [opMake sp ch], errV (lab sp && lab ch)⟩ := by
  cases h1 : lab sp with
  | false =>
    obtain ⟨k, hk, hno⟩ := (labN_ok sp).1 h1
    exact memoK' (kn := kn53) (mk := mk32) kn53ok rfl rfl (map_mem (check_bad sp ch) k hk) (revN_ok _ _ (hno _ NotedOk.nil) NotedOk.nil)
  | true =>
    have hno1 := (labN_ok sp).2 h1
    cases h2 : lab ch with
    | false =>
      obtain ⟨k, hk, hno⟩ := (labN_ok ch).1 h2
      exact memoK' (kn := kn53) (mk := mk32) kn53ok rfl rfl (map_mem (check_bad2 sp ch) k hk) (revN_ok _ _ (hno1 _ (hno _ NotedOk.nil)) NotedOk.nil)
    | true =>
      have hno2 := (labN_ok ch).2 h2
      refine memoK' (kn := kn53) (mk := mk32) kn53ok rfl rfl (check_good sp ch) (revN_ok _ _ (hno1 _ (hno2 _ (NotedOk.cons ?_ NotedOk.nil))) NotedOk.nil)
      refine congrArg Value.bool ?_
      rw [eqL_refl, eqL_refl]
      rfl
end Go.Proofs.YtbkgnlcjnimpcaaDoor.strs
