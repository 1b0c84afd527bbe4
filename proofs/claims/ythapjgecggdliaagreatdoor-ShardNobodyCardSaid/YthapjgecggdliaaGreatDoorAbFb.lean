import Derived.Test.YthapjgecggdliaaGreatDoorAbFa
namespace Go.Ab
open Go

/-! ## Whole numbers -/
def kb : IntKind → Nat
  | .i8 => 0 | .i16 => 1 | .i32 => 2 | .i64 => 3 | .u8 => 4 | .u16 => 5 | .u32 => 6 | .u64 => 7
theorem kb_inj {a b : IntKind} (h : kb a = kb b) : a = b := by cases a <;> cases b <;> first | rfl | cases h
/-- Above all of a kind; how many lie below nought. -/
def topOf : IntKind → Nat
  | .i8 => 128 | .i16 => 32768 | .i32 => 2147483648 | .i64 => 9223372036854775808 | .u8 => 256 | .u16 => 65536 | .u32 => 4294967296 | .u64 => 18446744073709551616
def negOf : IntKind → Nat
  | .i8 => 128 | .i16 => 32768 | .i32 => 2147483648 | .i64 => 9223372036854775808 | _ => 0
def modOf : IntKind → Nat
  | .i8 | .u8 => 256 | .i16 | .u16 => 65536 | .i32 | .u32 => 4294967296 | .i64 | .u64 => 18446744073709551616
theorem wrap_small {k : IntKind} {n : Int} (h1 : -(negOf k : Int) ≤ n) (h2 : n < (topOf k : Int)) : k.wrap n = n := by
  cases k <;> simp only [IntKind.wrap, IntKind.bits, IntKind.signed, negOf, topOf] at * <;> simp <;> omega
noncomputable def wrapF (k : IntKind) (n : Int) : Int :=
  Int.rec (motive := fun _ => Int) (fun m => Bool.rec (motive := fun _ => Int) (k.wrap (Int.ofNat m)) (Int.ofNat m) (Nat.blt m (topOf k))) (fun m => Bool.rec (motive := fun _ => Int) (k.wrap (Int.negSucc m)) (Int.negSucc m) (Nat.blt m (negOf k))) n
theorem wrapF_eq (k : IntKind) (n : Int) : wrapF k n = k.wrap n := by
  unfold wrapF
  cases n with
  | ofNat m =>
    dsimp only
    cases h : Nat.blt m (topOf k) with
    | false => rfl
    | true =>
      rw [Nat.blt_eq] at h
      exact (wrap_small (by simp only [Int.ofNat_eq_natCast]; omega) (by simp only [Int.ofNat_eq_natCast]; omega)).symm
  | negSucc m =>
    dsimp only
    cases h : Nat.blt m (negOf k) with
    | false => rfl
    | true =>
      rw [Nat.blt_eq] at h
      show Int.negSucc m = k.wrap (Int.negSucc m)
      exact (wrap_small (by rw [Int.negSucc_eq]; omega) (by rw [Int.negSucc_eq]; omega)).symm
theorem wrap_u {k : IntKind} {m : Nat} (h : m < topOf k) : k.wrap (Int.ofNat m) = Int.ofNat m := wrap_small (by simp only [Int.ofNat_eq_natCast]; omega) (by simp only [Int.ofNat_eq_natCast]; omega)

/-- '<' -/
noncomputable def intLt (a b : Int) : Bool :=
  Int.rec (motive := fun _ => Int → Bool) (fun m b => Int.rec (motive := fun _ => Bool) (fun n => Nat.blt m n) (fun _ => false) b) (fun m b => Int.rec (motive := fun _ => Bool) (fun _ => true) (fun n => Nat.blt n m) b) a b
theorem intLt_eq (a b : Int) : intLt a b = decide (a < b) := by
  rw [Bool.eq_iff_iff, decide_eq_true_iff]
  cases a with
  | ofNat m =>
    cases b with
    | ofNat n => show Nat.blt m n = true ↔ _; rw [Nat.blt_eq]; simp only [Int.ofNat_eq_natCast]; omega
    | negSucc n => show false = true ↔ _; simp only [Int.ofNat_eq_natCast, Int.negSucc_eq, Bool.false_eq_true, false_iff]; omega
  | negSucc m =>
    cases b with
    | ofNat n => show true = true ↔ _; simp only [Int.ofNat_eq_natCast, Int.negSucc_eq, true_iff]; omega
    | negSucc n => show Nat.blt n m = true ↔ _; rw [Nat.blt_eq]; simp only [Int.negSucc_eq]; omega
noncomputable def intEq (a b : Int) : Bool :=
  Int.rec (motive := fun _ => Int → Bool) (fun m b => Int.rec (motive := fun _ => Bool) (fun n => Nat.beq m n) (fun _ => false) b) (fun m b => Int.rec (motive := fun _ => Bool) (fun _ => false) (fun n => Nat.beq n m) b) a b
theorem intEq_eq (a b : Int) : intEq a b = (a == b) := by
  rw [Bool.eq_iff_iff, beq_iff_eq]
  cases a <;> cases b <;> simp only [intEq, Nat.beq_eq, Int.ofNat_eq_natCast, Int.negSucc_eq] <;> (first | omega | (constructor <;> intro h <;> first | (cases h; done) | rfl | omega))
def notB : Bool → Bool
  | true => false
  | false => true
theorem notB_eq (b : Bool) : notB b = !b := by cases b <;> rfl

/-- Two that are not below nought. -/
def nats {β : Type} (a b : Int) (f : Nat → Nat → β) (d : β) : β := match a with | .ofNat m => (match b with | .ofNat n => f m n | .negSucc _ => d) | .negSucc _ => d
theorem nats_some {β : Type} {a b : Int} {f : Nat → Nat → Option β} {r : β} (h : nats a b f none = some r) : ∃ m n, a = Int.ofNat m ∧ b = Int.ofNat n ∧ f m n = some r := by
  unfold nats at h
  split at h
  · split at h
    · exact ⟨_, _, rfl, rfl, h⟩
    · cases h
  · cases h
def ints {β : Type} (v w : Value) (f : IntKind → Int → Int → Option β) : Option β :=
  vInt v (fun k a => vInt w (fun k' b => match Nat.beq (kb k) (kb k') with | true => f k a b | false => none) none) none
theorem ints_some {β : Type} {v w : Value} {f : IntKind → Int → Int → Option β} {r : β} (h : ints v w f = some r) : ∃ k a b, v = .int k a ∧ w = .int k b ∧ f k a b = some r := by
  unfold ints at h
  obtain ⟨k, a, rfl, h1⟩ := vInt_some h
  obtain ⟨k', b, rfl, h2⟩ := vInt_some h1
  split at h2
  · rename_i e
    rw [Nat.beq_eq] at e
    obtain rfl := kb_inj e
    exact ⟨k, a, b, rfl, rfl, h2⟩
  · cases h2

theorem bits_top {k : IntKind} {m : Nat} (h : m < topOf k) : m < 2 ^ k.bits := by
  cases k <;> simp only [topOf, IntKind.bits] at * <;> omega
theorem ofNat_toNat {k : IntKind} {m : Nat} (h : m < topOf k) : (BitVec.ofInt k.bits (Int.ofNat m)).toNat = m := by
  have := bits_top h
  simp only [BitVec.toNat_ofInt, Int.ofNat_eq_natCast]
  norm_cast
  rw [Int.toNat_natCast]
  exact Nat.mod_eq_of_lt this

/-- Numbers that stand in their kind, bit by bit. -/
def bitI (g : Nat → Nat → Nat) (s : Int) (k : IntKind) (a b : Int) : Int :=
  nats a b (fun m n => match Nat.blt m (topOf k) with
    | true => (match Nat.blt n (topOf k) with | true => Int.ofNat (g m n) | false => s)
    | false => s) s
theorem bitI_eq {g : Nat → Nat → Nat} {s : Int} {k : IntKind} {a b : Int} (h : ∀ m n, a = Int.ofNat m → b = Int.ofNat n → m < topOf k → n < topOf k → s = Int.ofNat (g m n)) : bitI g s k a b = s := by
  unfold bitI nats
  split
  · split
    · dsimp only
      split
      · rename_i h1
        split
        · rename_i h2
          rw [Nat.blt_eq] at h1 h2
          exact (h _ _ rfl rfl h1 h2).symm
        · rfl
      · rfl
    · rfl
  · rfl
def quoF (a : Int) (n : Nat) : Int := match a with | .ofNat m => Int.ofNat (Nat.div m n) | .negSucc m => Int.tdiv (.negSucc m) (Int.ofNat n)
theorem quoF_eq (a : Int) (n : Nat) : quoF a n = Int.tdiv a (Int.ofNat n) := by cases a <;> rfl
def remF (a : Int) (n : Nat) : Int := match a with | .ofNat m => Int.ofNat (Nat.mod m n) | .negSucc m => Int.tmod (.negSucc m) (Int.ofNat n)
theorem remF_eq (a : Int) (n : Nat) : remF a n = Int.tmod a (Int.ofNat n) := by cases a <;> rfl
def shrF (a : Int) (n : Nat) : Int := match a with | .ofNat m => Int.ofNat (Nat.div m (Nat.pow 2 n)) | .negSucc m => Int.fdiv (.negSucc m) (2 ^ n)
theorem shrF_eq (a : Int) (n : Nat) : shrF a n = Int.fdiv a (2 ^ n) := by
  cases a with
  | ofNat m =>
    have : ((2 : Int) ^ n) = Int.ofNat (2 ^ n) := by simp
    rw [this]
    show ((m / 2 ^ n : Nat) : Int) = (Int.fdiv (m : Int) ((2 ^ n : Nat) : Int))
    rw [Int.fdiv_eq_ediv_of_nonneg _ (Int.natCast_nonneg _)]
    simp
  | negSucc m => rfl

/-! ## Bytes -/
theorem toList_loop (bs : ByteArray) : ∀ (d i : Nat) (r : List UInt8), bs.size - i = d → ByteArray.toList.loop bs i r = r.reverse ++ bs.data.toList.drop i := by
  intro d
  induction d with
  | zero =>
    intro i r h
    have hs : bs.data.toList.length = bs.size := Array.length_toList
    rw [ByteArray.toList.loop, if_neg (by omega), List.drop_eq_nil_of_le (by omega)]
    simp
  | succ d ih =>
    intro i r h
    have hs : bs.data.toList.length = bs.size := Array.length_toList
    rw [ByteArray.toList.loop, if_pos (by omega), ih (i + 1) _ (by omega)]
    have hi : i < bs.data.toList.length := by omega
    rw [List.drop_eq_getElem_cons hi]
    simp only [List.reverse_cons, List.append_assoc, List.cons_append, List.nil_append]
    congr 2
    have hi2 : i < bs.data.size := by simpa using hi
    show bs.data[i]! = _
    rw [getElem!_pos bs.data i hi2]
    simp
theorem toList_eq (bs : ByteArray) : bs.toList = bs.data.toList := by
  unfold ByteArray.toList
  rw [toList_loop bs _ 0 [] rfl]; simp
def byteList (s : ByteArray) : List UInt8 := match s with | ⟨⟨l⟩⟩ => l
theorem byteList_eq (s : ByteArray) : byteList s = s.data.toList := rfl
def u8n (b : UInt8) : Nat := match b with | ⟨⟨⟨n, _⟩⟩⟩ => n
theorem u8n_eq (b : UInt8) : u8n b = b.toNat := rfl
noncomputable def appL (a b : List UInt8) : List UInt8 := List.rec (motive := fun _ => List UInt8) b (fun x _ ih => x :: ih) a
theorem appL_eq (a b : List UInt8) : appL a b = a ++ b := by
  induction a with
  | nil => rfl
  | cons x a ih => exact congrArg (x :: ·) ih
noncomputable def eqL (a : List UInt8) : List UInt8 → Bool :=
  List.rec (motive := fun _ => List UInt8 → Bool) (fun b => List.rec (motive := fun _ => Bool) true (fun _ _ _ => false) b)
    (fun x _ ih b => List.rec (motive := fun _ => Bool) false (fun y b' _ => Bool.rec (motive := fun _ => Bool) false (ih b') (Nat.beq (u8n x) (u8n y))) b) a
theorem eqL_eq : ∀ (a b : List UInt8), eqL a b = (a == b) := by
  intro a
  induction a with
  | nil => intro b; cases b <;> rfl
  | cons x a ih =>
    intro b
    cases b with
    | nil => rfl
    | cons y b =>
      have e : eqL (x :: a) (y :: b) = Bool.rec (motive := fun _ => Bool) false (eqL a b) (Nat.beq (u8n x) (u8n y)) := rfl
      rw [e, List.cons_beq_cons, ih]
      cases h : Nat.beq (u8n x) (u8n y) with
      | true =>
        have hx : x = y := by
          rw [Nat.beq_eq, u8n_eq, u8n_eq] at h
          exact UInt8.toNat_inj.1 h
        subst hx; simp
      | false =>
        have hx : x ≠ y := by
          rintro rfl
          have h2 : Nat.beq (u8n x) (u8n x) = true := by simp
          rw [h2] at h; cases h
        have h3 : (x == y) = false := by simp [hx]
        rw [h3]; rfl
noncomputable def nthL (l : List UInt8) : Nat → Option Nat :=
  List.rec (motive := fun _ => Nat → Option Nat) (fun _ => none) (fun x _ ih n => Nat.rec (motive := fun _ => Option Nat) (some (u8n x)) (fun m _ => ih m) n) l
theorem nthL_eq : ∀ (l : List UInt8) (n : Nat), nthL l n = (l[n]?).map (·.toNat) := by
  intro l
  induction l with
  | nil => intro n; rfl
  | cons x l ih =>
    intro n
    cases n with
    | zero => rfl
    | succ n => rw [List.getElem?_cons_succ, ← ih n]; rfl
noncomputable def lenL (l : List UInt8) : Nat := List.rec (motive := fun _ => Nat) 0 (fun _ _ ih => Nat.succ ih) l
theorem lenL_eq (l : List UInt8) : lenL l = l.length := by
  induction l with
  | nil => rfl
  | cons x l ih => exact congrArg Nat.succ ih
noncomputable def dropL (n : Nat) : List UInt8 → List UInt8 := Nat.rec (motive := fun _ => List UInt8 → List UInt8) (fun l => l) (fun _ ih l => List.rec (motive := fun _ => List UInt8) [] (fun _ r _ => ih r) l) n
theorem dropL_eq : ∀ (n : Nat) (l : List UInt8), dropL n l = l.drop n := by
  intro n
  induction n with
  | zero => intro l; rfl
  | succ n ih => intro l; cases l with | nil => rfl | cons x l => exact ih l
noncomputable def takeL' (n : Nat) : List UInt8 → List UInt8 := Nat.rec (motive := fun _ => List UInt8 → List UInt8) (fun _ => []) (fun _ ih l => List.rec (motive := fun _ => List UInt8) [] (fun x r _ => x :: ih r) l) n
theorem takeL'_eq : ∀ (n : Nat) (l : List UInt8), takeL' n l = l.take n := by
  intro n
  induction n with
  | zero => intro l; rfl
  | succ n ih => intro l; cases l with | nil => rfl | cons x l => exact congrArg (x :: ·) (ih l)
end Go.Ab
