import Derived.Test.YthapjgecggdliaaGreatDoorAbFb
namespace Go.Ab
open Go
section
variable {P : Program}

/-! ## Two operands -/
def chk (c : Bool) (v : Value) : Option Value := match c with | true => some v | false => none
theorem chk_some {c : Bool} {v r : Value} (h : chk c v = some r) : c = true ∧ r = v := by
  cases c with
  | true => exact ⟨rfl, (Option.some.inj h).symm⟩
  | false => cases h
noncomputable def binB : BinOp → Box (Value → Value → Option Value)
  | .add => ⟨fun v w => vInt v (fun _ _ => ints v w fun k a b => some (.int k (wrapF k (Int.add a b)))) (vStr v (fun s => vStr w (fun t => chk (Nat.blt (Nat.add (lenL (byteList s)) (lenL (byteList t))) 9223372036854775808) (.string ⟨⟨appL (byteList s) (byteList t)⟩⟩)) none) none)⟩
  | .sub => ⟨fun v w => ints v w fun k a b => some (.int k (wrapF k (Int.sub a b)))⟩
  | .mul => ⟨fun v w => ints v w fun k a b => some (.int k (wrapF k (Int.mul a b)))⟩
  | .quo => ⟨fun v w => ints v w fun k a b => match b with | .ofNat 0 => none | .ofNat (q + 1) => some (.int k (wrapF k (quoF a (Nat.succ q)))) | .negSucc _ => none⟩
  | .rem => ⟨fun v w => ints v w fun k a b => match b with | .ofNat 0 => none | .ofNat (q + 1) => some (.int k (remF a (Nat.succ q))) | .negSucc _ => none⟩
  | .and => ⟨fun v w => ints v w fun k a b => some (.int k (bitI Nat.land (k.wrap ((BitVec.ofInt k.bits a &&& BitVec.ofInt k.bits b).toNat : Int)) k a b))⟩
  | .or => ⟨fun v w => ints v w fun k a b => some (.int k (bitI Nat.lor (k.wrap ((BitVec.ofInt k.bits a ||| BitVec.ofInt k.bits b).toNat : Int)) k a b))⟩
  | .xor => ⟨fun v w => ints v w fun k a b => some (.int k (bitI Nat.xor (k.wrap ((BitVec.ofInt k.bits a ^^^ BitVec.ofInt k.bits b).toNat : Int)) k a b))⟩
  | .shl => ⟨fun v w => vInt v (fun k a => vInt w (fun _ y => match y with | .ofNat n => (match Nat.ble n k.bits with | true => some (.int k (wrapF k (Int.mul a (Int.ofNat (Nat.pow 2 n))))) | false => none) | .negSucc _ => none) none) none⟩
  | .shr => ⟨fun v w => vInt v (fun k a => vInt w (fun _ y => match y with | .ofNat n => (match Nat.ble n k.bits with | true => some (.int k (shrF a n)) | false => none) | .negSucc _ => none) none) none⟩
  | .eql => ⟨fun v w => vInt v (fun _ _ => ints v w fun _ a b => some (.bool (intEq a b))) (vStr v (fun s => vStr w (fun t => some (.bool (eqL (byteList s) (byteList t)))) none) none)⟩
  | .neq => ⟨fun v w => vInt v (fun _ _ => ints v w fun _ a b => some (.bool (notB (intEq a b)))) (vStr v (fun s => vStr w (fun t => some (.bool (notB (eqL (byteList s) (byteList t))))) none) none)⟩
  | .lss => ⟨fun v w => ints v w fun _ a b => some (.bool (intLt a b))⟩
  | .leq => ⟨fun v w => ints v w fun _ a b => some (.bool (notB (intLt b a)))⟩
  | .gtr => ⟨fun v w => ints v w fun _ a b => some (.bool (intLt b a))⟩
  | .geq => ⟨fun v w => ints v w fun _ a b => some (.bool (notB (intLt a b)))⟩
  | .andNot => ⟨fun _ _ => none⟩

theorem eqGuard_int (op : BinOp) (t : TypeId) (x y : Operand) (k k' : IntKind) (a b : Int) : eqGuard op t x y (.int k a) (.int k' b) = pure () := by
  cases op <;> rfl
theorem eqGuard_str (op : BinOp) (t : TypeId) (x y : Operand) (a b : ByteArray) : eqGuard op t x y (.string a) (.string b) = pure () := by
  cases op <;> rfl
def BinGood (P : Program) (op : BinOp) (v w r : Value) : Prop := ∀ (t : TypeId) (x y : Operand), Sem.runP P (do eqGuard op t x y v w; binOp op t v w) = some r ∧ flatV v = true ∧ flatV w = true ∧ flatV r = true
theorem BinGood.int {op : BinOp} {k k' : IntKind} {a b : Int} {r : Value} (h : ∀ t, binOp op t (.int k a) (.int k' b) = pure r) (hr : flatV r = true) : BinGood P op (.int k a) (.int k' b) r := by
  intro t x y
  refine ⟨?_, rfl, rfl, hr⟩
  rw [eqGuard_int, pure_bind, h]
  rfl
theorem BinGood.str {op : BinOp} {a b : ByteArray} {r : Value} (h : ∀ t, binOp op t (.string a) (.string b) = pure r) (hr : flatV r = true) : BinGood P op (.string a) (.string b) r := by
  intro t x y
  refine ⟨?_, rfl, rfl, hr⟩
  rw [eqGuard_str, pure_bind, h]
  rfl
theorem vInt_ints {β : Type} {v w : Value} {f : IntKind → Int → Int → Option β} {d : Option β} {r : β} (h : vInt v (fun _ _ => ints v w f) d = some r) : ints v w f = some r ∨ ((∀ k n, v ≠ .int k n) ∧ d = some r) := by
  cases v <;> first | exact .inl h | exact .inr ⟨fun k n e => (by cases e), h⟩
theorem topOf_pow (k : IntKind) : ∃ e, topOf k = 2 ^ e := by
  cases k <;> first | exact ⟨7, rfl⟩ | exact ⟨15, rfl⟩ | exact ⟨31, rfl⟩ | exact ⟨63, rfl⟩ | exact ⟨8, rfl⟩ | exact ⟨16, rfl⟩ | exact ⟨32, rfl⟩ | exact ⟨64, rfl⟩
theorem binB_good {op : BinOp} {v w r : Value} (h : (binB op).un v w = some r) : BinGood P op v w r := by
  cases op <;> simp only [binB] at h
  case add =>
    rcases vInt_ints h with h | ⟨_, h⟩
    · obtain ⟨k, a, b, rfl, rfl, h2⟩ := ints_some h; clear h; have h := h2; clear h2
      obtain rfl := Option.some.inj h
      exact .int (fun t => by simp [binOp, Op.intArith, wrapF_eq] <;> rfl) rfl
    · obtain ⟨s, rfl, h2⟩ := vStr_some h; clear h; have h := h2; clear h2
      obtain ⟨t, rfl, h2⟩ := vStr_some h; clear h; have h := h2; clear h2
      obtain ⟨h1, rfl⟩ := chk_some h
      rw [Nat.blt_eq, lenL_eq, lenL_eq] at h1
      refine .str (fun t' => ?_) rfl
      have hs : (byteList s).length = s.size := Array.length_toList
      have ht : (byteList t).length = t.size := Array.length_toList
      have hmax : IntKind.i64.max = 9223372036854775807 := rfl
      have e : (⟨⟨appL (byteList s) (byteList t)⟩⟩ : ByteArray) = s ++ t := by
        apply WideShapes.bytes_inj
        simp [appL_eq, byteList_eq]
      have h2 : ¬ ((s.size + t.size : Nat) : Int) > IntKind.i64.max := by
        rw [hmax]
        have : Nat.add (byteList s).length (byteList t).length = (byteList s).length + (byteList t).length := rfl
        omega
      rw [e]
      simp only [binOp, Op.stringOp]
      rw [if_neg h2]
  case sub =>
    obtain ⟨k, a, b, rfl, rfl, h2⟩ := ints_some h; clear h; have h := h2; clear h2
    obtain rfl := Option.some.inj h
    exact .int (fun t => by simp [binOp, Op.intArith, wrapF_eq] <;> rfl) rfl
  case mul =>
    obtain ⟨k, a, b, rfl, rfl, h2⟩ := ints_some h; clear h; have h := h2; clear h2
    obtain rfl := Option.some.inj h
    exact .int (fun t => by simp [binOp, Op.intArith, wrapF_eq] <;> rfl) rfl
  case quo =>
    obtain ⟨k, a, b, rfl, rfl, h2⟩ := ints_some h; clear h; have h := h2; clear h2
    split at h
    · cases h
    · rename_i q
      obtain rfl := Option.some.inj h
      refine .int (fun t => ?_) rfl
      have hz : ¬ (Int.ofNat (q + 1) = 0) := by simp only [Int.ofNat_eq_natCast]; omega
      simp only [binOp, Op.intDiv, ne_eq, not_true, if_false, if_neg hz, wrapF_eq, quoF_eq]
    · cases h
  case rem =>
    obtain ⟨k, a, b, rfl, rfl, h2⟩ := ints_some h; clear h; have h := h2; clear h2
    split at h
    · cases h
    · rename_i q
      obtain rfl := Option.some.inj h
      refine .int (fun t => ?_) rfl
      have hz : ¬ (Int.ofNat (q + 1) = 0) := by simp only [Int.ofNat_eq_natCast]; omega
      simp only [binOp, Op.intDiv, ne_eq, not_true, if_false, if_neg hz, remF_eq]
    · cases h
  case and =>
    obtain ⟨k, a, b, rfl, rfl, h2⟩ := ints_some h; clear h; have h := h2; clear h2
    obtain rfl := Option.some.inj h
    refine .int (fun t => ?_) rfl
    simp only [binOp, Op.intBits, ne_eq, not_true, if_false]
    rw [bitI_eq]
    rintro m n rfl rfl h1 h2
    rw [BitVec.toNat_and, ofNat_toNat h1, ofNat_toNat h2]
    exact wrap_u (Nat.lt_of_le_of_lt Nat.and_le_left h1)
  case or =>
    obtain ⟨k, a, b, rfl, rfl, h2⟩ := ints_some h; clear h; have h := h2; clear h2
    obtain rfl := Option.some.inj h
    refine .int (fun t => ?_) rfl
    simp only [binOp, Op.intBits, ne_eq, not_true, if_false]
    rw [bitI_eq]
    rintro m n rfl rfl h1 h2
    rw [BitVec.toNat_or, ofNat_toNat h1, ofNat_toNat h2]
    obtain ⟨e, he⟩ := topOf_pow k
    exact wrap_u (by rw [he] at h1 h2 ⊢; exact Nat.or_lt_two_pow h1 h2)
  case xor =>
    obtain ⟨k, a, b, rfl, rfl, h2⟩ := ints_some h; clear h; have h := h2; clear h2
    obtain rfl := Option.some.inj h
    refine .int (fun t => ?_) rfl
    simp only [binOp, Op.intBits, ne_eq, not_true, if_false]
    rw [bitI_eq]
    rintro m n rfl rfl h1 h2
    rw [BitVec.toNat_xor, ofNat_toNat h1, ofNat_toNat h2]
    obtain ⟨e, he⟩ := topOf_pow k
    exact wrap_u (by rw [he] at h1 h2 ⊢; exact Nat.xor_lt_two_pow h1 h2)
  case shl =>
    obtain ⟨k, a, rfl, h2⟩ := vInt_some h; clear h; have h := h2; clear h2
    obtain ⟨k', b, rfl, h2⟩ := vInt_some h; clear h; have h := h2; clear h2
    split at h
    · rename_i n
      split at h
      · rename_i hn
        rw [Nat.ble_eq] at hn
        obtain rfl := Option.some.inj h
        refine .int (fun t => ?_) rfl
        have hneg : ¬ (Int.ofNat n < 0) := by simp only [Int.ofNat_eq_natCast]; omega
        have hmin : min (Int.ofNat n).toNat k.bits = n := by simp only [Int.ofNat_eq_natCast, Int.toNat_natCast]; omega
        have hp : ((2 : Int) ^ n) = Int.ofNat (Nat.pow 2 n) := by simp
        simp only [binOp, Op.shift, if_neg hneg, hmin, wrapF_eq, hp]
        rfl
      · cases h
    · cases h
  case shr =>
    obtain ⟨k, a, rfl, h2⟩ := vInt_some h; clear h; have h := h2; clear h2
    obtain ⟨k', b, rfl, h2⟩ := vInt_some h; clear h; have h := h2; clear h2
    split at h
    · rename_i n
      split at h
      · rename_i hn
        rw [Nat.ble_eq] at hn
        obtain rfl := Option.some.inj h
        refine .int (fun t => ?_) rfl
        have hneg : ¬ (Int.ofNat n < 0) := by simp only [Int.ofNat_eq_natCast]; omega
        have hmin : min (Int.ofNat n).toNat k.bits = n := by simp only [Int.ofNat_eq_natCast, Int.toNat_natCast]; omega
        simp only [binOp, Op.shift, if_neg hneg, hmin, shrF_eq]
      · cases h
    · cases h
  case eql =>
    rcases vInt_ints h with h | ⟨_, h⟩
    · obtain ⟨k, a, b, rfl, rfl, h2⟩ := ints_some h; clear h; have h := h2; clear h2
      obtain rfl := Option.some.inj h
      exact .int (fun t => by simp only [binOp, Op.intCmp, ne_eq, not_true, if_false, intEq_eq]) rfl
    · obtain ⟨s, rfl, h2⟩ := vStr_some h; clear h; have h := h2; clear h2
      obtain ⟨t, rfl, h2⟩ := vStr_some h; clear h; have h := h2; clear h2
      obtain rfl := Option.some.inj h
      exact .str (fun t' => by simp only [binOp, Op.stringOp, toList_eq, eqL_eq, byteList_eq]) rfl
  case neq =>
    rcases vInt_ints h with h | ⟨_, h⟩
    · obtain ⟨k, a, b, rfl, rfl, h2⟩ := ints_some h; clear h; have h := h2; clear h2
      obtain rfl := Option.some.inj h
      exact .int (fun t => by simp only [binOp, Op.intCmp, ne_eq, not_true, if_false, intEq_eq, notB_eq] <;> rfl) rfl
    · obtain ⟨s, rfl, h2⟩ := vStr_some h; clear h; have h := h2; clear h2
      obtain ⟨t, rfl, h2⟩ := vStr_some h; clear h; have h := h2; clear h2
      obtain rfl := Option.some.inj h
      exact .str (fun t' => by simp only [binOp, Op.stringOp, toList_eq, eqL_eq, byteList_eq, notB_eq]) rfl
  case lss =>
    obtain ⟨k, a, b, rfl, rfl, h2⟩ := ints_some h; clear h; have h := h2; clear h2
    obtain rfl := Option.some.inj h
    exact .int (fun t => by simp only [binOp, Op.intCmp, ne_eq, not_true, if_false, intLt_eq]) rfl
  case leq =>
    obtain ⟨k, a, b, rfl, rfl, h2⟩ := ints_some h; clear h; have h := h2; clear h2
    obtain rfl := Option.some.inj h
    refine .int (fun t => ?_) rfl
    simp only [binOp, Op.intCmp, ne_eq, not_true, if_false, intLt_eq, notB_eq]
    congr 2
    rw [Bool.eq_iff_iff]; simp
  case gtr =>
    obtain ⟨k, a, b, rfl, rfl, h2⟩ := ints_some h; clear h; have h := h2; clear h2
    obtain rfl := Option.some.inj h
    exact .int (fun t => by simp only [binOp, Op.intCmp, ne_eq, not_true, if_false, intLt_eq] <;> rfl) rfl
  case geq =>
    obtain ⟨k, a, b, rfl, rfl, h2⟩ := ints_some h; clear h; have h := h2; clear h2
    obtain rfl := Option.some.inj h
    refine .int (fun t => ?_) rfl
    simp only [binOp, Op.intCmp, ne_eq, not_true, if_false, intLt_eq, notB_eq]
    congr 2
    rw [Bool.eq_iff_iff]; simp
  case andNot => cases h
end
end Go.Ab
