/- Texts: the document's reading of a subscription's text, its end. -/
import Derived.Test.YtbkgnlcjnimpcaaDoorStrQ
namespace Go.Proofs.YtbkgnlcjnimpcaaDoor.strs.rf
open Go Go.Ab Go.RowKit Go.Proofs.YtbkgnlcjnimpcaaDoor.strs
open Go.Proofs.YtbkgnlcjnimpcaaDoor.strs.dig (tblO MT memoT' memoT_of)
set_option maxRecDepth 100000
def ckV (a b : List UInt8) : Prop := ((veq 8 (str a) (str a) && true) && ((veq 8 (str b) (str b) && true) && true)) = true
noncomputable def catP (a b c : List UInt8) : Prop := (binT Tryd.prog .add 9).un (str a) (str b) = some (str c)
noncomputable def eqP (a b : List UInt8) (q : Bool) : Prop := pr (.bool (notB (eqL a b))) (bV q)
def crT (x1 x2 x3 t x4 : List UInt8) : Ab.Tape := [str x1, str x2, str x3, str t, str x4]
noncomputable def crN (sp ch : List UInt8) (n : Nat) (x1 x2 x3 t x4 : List UInt8) : Noted := [catP sp [47] x1, catP x1 ch x2, catP x2 [64] x3, isT 35 [e24 n] (str t), catP x3 t x4, ckV sp ch]
noncomputable def okN (sp ch : List UInt8) (n : Nat) : Noted := [isK 38 [str sp] Tr, isK 38 [str ch] Tr, ltP (.ofNat n) 0 false, ltP 1073741824 (.ofNat n) false]
def resR (sp ch : List UInt8) (n : Nat) : Value := .agg ⟨[str sp, str ch, e24 n, e24 0, F]⟩
theorem l_not (l sp ch : List UInt8) (x1 x2 x3 t x4 : List UInt8) (a b : Int) (n k p : Nat) (j0 : Nat → Value) : (fun r => (isX r, isR Tryd.f23 (last l a b n k j0 (cutT sp ch p ++ [Tr, Tr, F, F] ++ crT x1 x2 x3 t x4 ++ [Tr])))) (over2 l a b n k j0) =
    (some (2, [ltP (.ofNat k) (.ofNat (lenL l)) false]), some (badV, revN (cutN l sp ch a b p ++ okN sp ch n ++ crN sp ch n x1 x2 x3 t x4 ++ [eqP x4 l true]) [])) := by kernel_rfl
theorem l_good (l sp ch : List UInt8) (x1 x2 x3 t x4 : List UInt8) (a b : Int) (n k p : Nat) (j0 : Nat → Value) : (fun r => (isX r, isR Tryd.f23 (last l a b n k j0 (cutT sp ch p ++ [Tr, Tr, F, F] ++ crT x1 x2 x3 t x4 ++ [F])))) (over2 l a b n k j0) =
    (some (2, [ltP (.ofNat k) (.ofNat (lenL l)) false]), some (tupR (resR sp ch n) 0, revN (cutN l sp ch a b p ++ okN sp ch n ++ crN sp ch n x1 x2 x3 t x4 ++ [eqP x4 l false]) [])) := by kernel_rfl
end Go.Proofs.YtbkgnlcjnimpcaaDoor.strs.rf
