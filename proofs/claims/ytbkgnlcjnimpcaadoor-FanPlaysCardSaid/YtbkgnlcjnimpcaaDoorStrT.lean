/- Texts: the document's reading of a subscription's text. -/
import Derived.Test.YtbkgnlcjnimpcaaDoorStrR
namespace Go.Proofs.YtbkgnlcjnimpcaaDoor.strs.rf
open Go Go.Ab Go.RowKit Go.Proofs.YtbkgnlcjnimpcaaDoor.strs
open Go.Proofs.YtbkgnlcjnimpcaaDoor.strs.dig (tblO MT memoT' memoT_of)
open Go.Proofs.YtbkgnlcjnimpcaaDoor.strs.uin (NotedOk.app)
open Go.Proofs.YtbkgnlcjnimpcaaDoor.strs.cut (posOf)
set_option maxRecDepth 100000
def posI (c : UInt8) (l : List UInt8) : Int := match posOf c l with | some k => .ofNat k | none => .negSucc 0
def digV : List UInt8 → Nat → Option Nat
  | [], n => some n
  | x :: r, n => match Nat.blt (u8n x) 48 || (Nat.blt 57 (u8n x) || Nat.blt 1073741824 n) with
    | true => none
    | false => digV r (10 * n + (u8n x - 48))
noncomputable def textOf (sp ch : List UInt8) (n : Nat) : List UInt8 := sp ++ [47] ++ ch ++ [64] ++ itoa n
noncomputable def endV (l sp ch : List UInt8) (n : Nat) : Value := match lab sp with
  | false => badV
  | true => match lab ch with
    | false => badV
    | true => match Nat.blt 1073741824 n with
      | true => badV
      | false => match eqL (textOf sp ch n) l with
        | false => badV
        | true => tupR (resR sp ch n) 0
noncomputable def midV (l sp ch : List UInt8) : Option Nat → Value
  | none => badV
  | some n => endV l sp ch n
noncomputable def fromV (l : List UInt8) : Value := match posOf 47 l, posOf 64 l with
  | some i, some j => match Nat.blt j i || Nat.blt 60 l.length with
    | true => badV
    | false => midV l (l.take i) ((l.drop (i + 1)).take (j - (i + 1))) (digV (l.drop (j + 1)) 0)
  | _, _ => badV
theorem endV_form (l sp ch : List UInt8) (n : Nat) : endV l sp ch n = badV ∨ endV l sp ch n = tupR (resR sp ch n) 0 := by
  unfold endV
  repeat' split
  all_goals first | exact .inl rfl | exact .inr rfl
theorem endV_flat (l sp ch : List UInt8) (n : Nat) : vflat 8 (endV l sp ch n) = true := by
  rcases endV_form l sp ch n with h | h <;> rw [h] <;> rfl
theorem midV_flat (l sp ch : List UInt8) (o : Option Nat) : vflat 8 (midV l sp ch o) = true := by
  cases o with
  | none => rfl
  | some n => exact endV_flat l sp ch n
theorem fromV_flat (l : List UInt8) : vflat 8 (fromV l) = true := by
  unfold fromV
  split
  · split
    · rfl
    · exact midV_flat _ _ _ _
  · rfl
/-! ### States -/
theorem reS {n : Nat} {q : Nat} {keep : List Nat} {x : St} {S2 : (Nat → Value) → St} {B : Base} {m : Mu} {a : Act} {w : World} (hn : n = 102) (h5 : ∀ jt, (S2 jt).2.get 5 = tblO) (hc : ∀ jt jh, canonS (sh q keep) 8 x jt jh = some (S2 jt)) (hT : TRel m n x.1 a.tmps) (hr : Rel Tryd.prog B m x.2 w) (hG : GRel 8 m) :
    ∃ m2 jt, GRel 8 m2 ∧ TRel m2 n (S2 jt).1 a.tmps ∧ Rel Tryd.prog B m2 (S2 jt).2 w := by
  subst hn
  obtain ⟨m2, jt, _, h1, h2, h3⟩ := canonZ (S := sh q keep) (S2 := fun jt _ => S2 jt) (fun jt _ y h c t e i v hv => by
    obtain rfl := Nat.eq_of_beq_eq_true (show Nat.beq y 5 = true from h)
    rw [h5] at e
    exact dig.tbl_plain.flat c t e i v hv) (fun _ _ _ h => by cases h) (fun _ _ _ h => by cases h) hc hT hr hG
  exact ⟨m2, jt, h1, h2, h3⟩
theorem at5A (l : List UInt8) (a b : Int) (i : Nat) (jt : Nat → Value) : (SA l a b i jt).2.get 5 = tblO := by kernel_rfl
theorem at5B (l : List UInt8) (a b : Int) (n k : Nat) (jt : Nat → Value) : (SB l a b n k jt).2.get 5 = tblO := by kernel_rfl
/-! ### What is noted is so -/
theorem lt_ok {a b : Int} {q : Bool} (h : intLt a b = q) : ltP a b q := congrArg Value.bool h
theorem ltn_ok {a b : Nat} {q : Bool} (h : Nat.blt a b = q) : ltP (.ofNat a) (.ofNat b) q := congrArg Value.bool h
theorem is_ok {c k : Nat} {q : Bool} (h : Nat.beq c k = q) : isP c k q := congrArg Value.bool h
theorem inc_ok {i : Nat} (h : i + 1 < 9223372036854775808) : incP i := congrArg i64 (wadd (a := i) (b := 1) h)
theorem wN_ok {l : List UInt8} {a b : Int} {i : Nat} {x : UInt8} (hx : l[i]? = some x) (hl : l.length < BIG) : NotedOk (wN l a b i (u8n x) ⟨Nat.beq (u8n x) 47, intLt a 0, Nat.beq (u8n x) 64, intLt b 0⟩) := by
  have hi : i < l.length := by
    rcases Nat.lt_or_ge i l.length with q | q
    · exact q
    · rw [List.getElem?_eq_none q] at hx; cases hx
  unfold BIG at hl
  have h1 : ltP (.ofNat i) (.ofNat (lenL l)) true := by rw [lenL_len]; exact ltn_ok (blt_t hi)
  have h2 : atP l i (u8n x) := ix_ok hx
  have h3 : NotedOk [incP i] := NotedOk.cons (inc_ok (by omega)) NotedOk.nil
  have h4 : NotedOk (atP l i (u8n x) :: isP (u8n x) 64 (Nat.beq (u8n x) 64) :: (match Nat.beq (u8n x) 64 with | true => [ltP b 0 (intLt b 0)] | false => []) ++ [incP i]) := by
    cases hq : Nat.beq (u8n x) 64 with
    | true => exact NotedOk.cons h2 (NotedOk.cons (is_ok hq) (NotedOk.cons (lt_ok rfl) h3))
    | false => exact NotedOk.cons h2 (NotedOk.cons (is_ok hq) h3)
  unfold wN
  dsimp only
  cases hq : Nat.beq (u8n x) 47 with
  | true => exact NotedOk.cons h1 (NotedOk.cons h2 (NotedOk.cons (is_ok hq) (NotedOk.cons (lt_ok rfl) h4)))
  | false => exact NotedOk.cons h1 (NotedOk.cons h2 (NotedOk.cons (is_ok hq) h4))
theorem pos_step {l : List UInt8} {i : Nat} {x c : UInt8} (hx : l[i]? = some x) : posI c (l.take (i + 1)) = (match Nat.beq (u8n x) (u8n c) && intLt (posI c (l.take i)) 0 with | true => .ofNat i | false => posI c (l.take i)) := by
  have hi : i < l.length := by
    rcases Nat.lt_or_ge i l.length with q | q
    · exact q
    · rw [List.getElem?_eq_none q] at hx; cases hx
  have ht : l.take (i + 1) = l.take i ++ [x] := by
    rw [List.take_add_one, hx]
    rfl
  have hlen : (l.take i).length = i := by rw [List.length_take]; omega
  unfold posI posOf
  rw [ht, List.findIdx?_append]
  cases h : List.findIdx? (fun y => y == c) (l.take i) with
  | some k =>
    have : intLt (Int.ofNat k) 0 = false := lt_no (b := 0) (Nat.zero_le k)
    show (Int.ofNat k) = _
    dsimp only
    rw [this, Bool.and_false]
  | none =>
    have : intLt (Int.negSucc 0) 0 = true := rfl
    dsimp only
    rw [this, Bool.and_true, hlen]
    by_cases e : x = c
    · subst e
      rw [Nat.beq_refl]
      simp
    · have h1 : Nat.beq (u8n x) (u8n c) = false := beq_f (fun q => e (UInt8.toNat_inj.1 q))
      rw [h1]
      simp [e]
theorem pos_ne {l : List UInt8} {i j : Nat} (h1 : posOf 47 l = some i) (h2 : posOf 64 l = some j) : i ≠ j := by
  rintro rfl
  obtain ⟨a1, a2, _⟩ := List.findIdx?_eq_some_iff_getElem.1 h1
  obtain ⟨b1, b2, _⟩ := List.findIdx?_eq_some_iff_getElem.1 h2
  have a3 : l[i] = 47 := by simpa using a2
  have b3 : l[i] = 64 := by simpa using b2
  rw [a3] at b3
  exact absurd b3 (by decide)
end Go.Proofs.YtbkgnlcjnimpcaaDoor.strs.rf
