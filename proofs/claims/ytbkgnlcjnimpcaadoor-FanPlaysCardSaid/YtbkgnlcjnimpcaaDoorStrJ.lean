/- Texts: a number with a sign, of any text. -/
import Derived.Test.YtbkgnlcjnimpcaaDoorStrI
namespace Go.Proofs.YtbkgnlcjnimpcaaDoor.strs.int
open Go Go.Ab Go.RowKit Go.Proofs.YtbkgnlcjnimpcaaDoor.strs
open Go.Proofs.YtbkgnlcjnimpcaaDoor.strs.num (tupV ngI)
open Go.Proofs.YtbkgnlcjnimpcaaDoor.strs.uin (tupU okE u64)
set_option maxRecDepth 100000
noncomputable def g73 (l : List Value) : Option Value := match l with
  | [.string ⟨⟨l⟩⟩, .int .i64 (.ofNat a), .int .i64 (.ofNat b)] => match Nat.beq a 10 && (Nat.beq b 0 && Nat.blt l.length 140737488355328) with
    | true => some (uin.uintV l)
    | false => none
  | _ => none
noncomputable def kn73 : Known := pureK 73 g73
theorem kn73ok : Kok kn73 := pureK_sound fun l v h => by
  unfold g73 at h
  split at h
  · rename_i l a b
    split at h
    · rename_i h1
      cases h
      simp only [Bool.and_eq_true, Nat.blt_eq] at h1
      obtain ⟨ha, hb, hl⟩ := h1
      obtain rfl := Nat.eq_of_beq_eq_true ha
      obtain rfl := Nat.eq_of_beq_eq_true hb
      exact uin.uint_ok l hl
    · cases h
  · cases h
def mk : Marks := fun g t => match Nat.beq g 57 && Nat.beq t 29 with | true => 9 | false => marksIn [(57, [13, 18, 22, 51, 61, 68, 71], [16, 20, 24], [])] g t
noncomputable def is73 (l : List UInt8) (v : Value) : Prop := ∀ h' : AHeap, (CBk kn73 73).un ⟨[str l, e24 10, e24 0]⟩ h' = some (v, h')
theorem is73_ok (l : List UInt8) (hl : l.length < 140737488355328) : is73 l (uin.uintV l) := fun h' => (CBk_known (kn := kn73) (f := 73) (g := fun args h => match g73 (listOf args) with | some v => some (v, h) | none => none) rfl _ h').trans (by
  show (match (match Nat.blt l.length 140737488355328 with | true => some (uin.uintV l) | false => none) with | some v => some (v, h') | none => none) = _
  rw [blt_t hl])
noncomputable def run (l : List UInt8) (tp : Ab.Tape) : Option OutC := (CCk kn73 mk 57).un [str l, e24 10, e24 0].toArray (bareOf 8) tp []
noncomputable def ixP (l : List UInt8) (c : Nat) : Prop := num.ixP l c
inductive Sign where
  | no
  | plus
  | minus
def signT (c : Nat) (s : List UInt8) : Sign → Ab.Tape
  | .no => [F, b8 c, F, F]
  | .plus => [F, b8 c, Tr, str s]
  | .minus => [F, b8 c, F, Tr, str s]
noncomputable def signH (l : List UInt8) (c : Nat) (s : List UInt8) : Sign → Noted
  | .no => [pr (.bool (eqL l [])) F, num.ixP l c, num.isP c 43 false, num.isP c 45 false]
  | .plus => [pr (.bool (eqL l [])) F, num.ixP l c, num.isP c 43 true, cut.slN l (some (e24 1)) none s]
  | .minus => [pr (.bool (eqL l [])) F, num.ixP l c, num.isP c 43 false, num.isP c 45 true, cut.slN l (some (e24 1)) none s]
def restL (l s : List UInt8) : Sign → List UInt8
  | .no => l
  | _ => s
def signs : List Sign := [.no, .plus, .minus]
theorem r_empty (l : List UInt8) : saidOf (run l [Tr]) = some (tupV 0 (num.errV 2), [pr (.bool (eqL l [])) Tr]) := by kernel_rfl
theorem r_syn (l s : List UInt8) (c : Nat) (u : Int) : signs.map (fun g => saidOf (run l (signT c s g ++ [tupU u (num.errV 2)]))) = signs.map (fun g => some (tupV 0 (num.errV 2), revN (signH l c s g ++ [is73 (restL l s g) (tupU u (num.errV 2))]) [])) := by kernel_rfl
def errs : List Value := [.nilIface, num.errV 1]
def many : List (Sign × Value) := signs.flatMap fun g => errs.map fun e => (g, e)
noncomputable def limN (u : Int) (b : Bool) : Sign → Noted
  | .minus => [pr (.bool (intLt 9223372036854775808 u)) (bV b)]
  | _ => [pr (.bool (notB (intLt u 9223372036854775808))) (bV b)]
def limV : Sign → Int
  | .minus => -9223372036854775808
  | _ => 9223372036854775807
theorem r_lim (l s : List UInt8) (c : Nat) (u : Int) : many.map (fun g => saidOf (run l (signT c s g.1 ++ [tupU u g.2, Tr]))) = many.map (fun g => some (tupV (limV g.1) (num.errV 1), revN (signH l c s g.1 ++ is73 (restL l s g.1) (tupU u g.2) :: limN u true g.1) [])) := by kernel_rfl
def endT (d d2 : Int) : Sign → Ab.Tape
  | .minus => [F, i64 d, i64 d2]
  | _ => [F, i64 d]
noncomputable def endN (u d d2 : Int) : Sign → Noted
  | .minus => [pr (i64 (wrapF .i64 u)) (i64 d), pr (i64 (ngI d)) (i64 d2)]
  | _ => [pr (i64 (wrapF .i64 u)) (i64 d)]
def endV (d d2 : Int) : Sign → Int
  | .minus => d2
  | _ => d
theorem r_end (l s : List UInt8) (c : Nat) (u d d2 : Int) : many.map (fun g => saidOf (run l (signT c s g.1 ++ tupU u g.2 :: endT d d2 g.1))) = many.map (fun g => some (tupV (endV d d2 g.1) .nilIface, revN (signH l c s g.1 ++ is73 (restL l s g.1) (tupU u g.2) :: (limN u false g.1 ++ endN u d d2 g.1)) [])) := by kernel_rfl
end Go.Proofs.YtbkgnlcjnimpcaaDoor.strs.int
