/- MetaLate's run, a round of its second loop. -/
import Derived.Test.YtclcobiaiedpbaaGreatDoorMetaLateA
namespace Go.Proofs.YtclcobiaiedpbaaGreatDoor.metaLate
open Go Go.Ab
set_option maxRecDepth 100000
/-- What comes. -/
structure Cm where
  a1 : Int
  a2 : Int
  a3 : Int
  s4 : ByteArray
  s5 : ByteArray
  s6 : ByteArray
  s7 : ByteArray
  s8 : ByteArray
  s9 : ByteArray
  a10 : Int
  a11 : Int
  a12 : Int
  a13 : Int
  a14 : Int
  a15 : Int
  a16 : Int
  b17 : Bool
  a18 : Int
  s19 : ByteArray
def cmL (k : Int) (x : Cm) : List Value := [i64 k, i64 x.a1, i64 x.a2, i64 x.a3, .string x.s4, .string x.s5, .string x.s6, .string x.s7, .string x.s8, .string x.s9, i64 x.a10, i64 x.a11, i64 x.a12, i64 x.a13, i64 x.a14, i64 x.a15, i64 x.a16, .bool x.b17, i64 x.a18, .string x.s19]
def cmV (k : Int) (x : Cm) : Value := .agg ⟨cmL k x⟩
def ptrV (i : Nat) : Value := .pointer (Option.some ⟨7, Nat.add 0 (Nat.mul i 20), none⟩)
def kindOf (j : Nat) : Int := match j with
  | 0 => 7
  | 1 => 8
  | 2 => 10
  | _ => 11
def headT (i : Nat) (k : Int) (x : Cm) : Ab.Tape := [Tr, Tr, ptrV i, cmV k x]
noncomputable def longN (s : ByteArray) (b : Value) : Prop := pr (.bool (notB (intLt 1024 (.ofNat (lenL (byteList s)))))) b
noncomputable def kindN (k j : Int) : Prop := pr (.bool (notB (intEq k j))) Tr
noncomputable def incN (i : Nat) : Prop := pr (i64 (wrapF .i64 (Int.add (.ofNat i) 1))) (e24 (i + 1))
noncomputable def headN (n c : Nat) (f : Nat → Value) (w : Nat) (l : List UInt8) (i : Nat) (k : Int) (x : Cm) (j0 : Nat → Value) (h0 : Nat → Nat → Value) : Noted := [pr (.bool (intLt (.ofNat i) (.ofNat n))) Tr, pr (.bool (intLt (.ofNat i) 60)) Tr,
  (iaB Tryz.prog 22).un (lateV 7 (.some n c f)) (e24 i) = Option.some (ptrV i), (ldB Tryz.prog 36).un (ptrV i) (SB (.some n c f) w l i j0 h0).2 = Option.some (cmV k x)]
noncomputable def other (n c : Nat) (f : Nat → Value) (w : Nat) (l : List UInt8) (i : Nat) (k : Int) (x : Cm) (j0 : Nat → Value) (h0 : Nat → Nat → Value) : RCC := code mkO lpB (SB (.some n c f) w l i j0 h0) (headT i k x ++ [Tr, Tr, Tr, Tr, e24 (i + 1)])
noncomputable def known (n c : Nat) (f : Nat → Value) (w : Nat) (l : List UInt8) (i : Nat) (k : Int) (x : Cm) (tp : Ab.Tape) (j0 : Nat → Value) (h0 : Nat → Nat → Value) : RCC := code (mkR 3) lpB (SB (.some n c f) w l i j0 h0) (headT i k x ++ (tp ++ [e24 (i + 1)]))
noncomputable def seen (n c : Nat) (f : Nat → Value) (jt : Nat → Value) (jh : Nat → Nat → Value) (r : RCC) : Option Noted × Option St := (isN r, canonS (shOf (.some n c f) true keepB (stOf r)) 2 (stOf r) jt jh)
noncomputable def want (n c : Nat) (f : Nat → Value) (w : Nat) (l : List UInt8) (i : Nat) (lg : Noted) (jt : Nat → Value) (jh : Nat → Nat → Value) : Option Noted × Option St := (Option.some (revN lg []), Option.some (SB (.some n c f) w l (i + 1) jt jh))
theorem other_all (n c : Nat) (f : Nat → Value) (w : Nat) (l : List UInt8) (i : Nat) (k : Int) (x : Cm) (j0 jt : Nat → Value) (h0 jh : Nat → Nat → Value) : seen n c f jt jh (other n c f w l i k x j0 h0) =
  want n c f w l i (headN n c f w l i k x j0 h0 ++ [kindN k 7, kindN k 8, kindN k 10, kindN k 11, incN i]) jt jh := by kernel_rfl
theorem long1_all (n c : Nat) (f : Nat → Value) (w : Nat) (l : List UInt8) (i : Nat) (x : Cm) (j0 jt : Nat → Value) (h0 jh : Nat → Nat → Value) : upTo (fun j => seen n c f jt jh (known n c f w l i (kindOf j) x [F] j0 h0)) 4 0 =
  upTo (fun j => want n c f w l i (headN n c f w l i (kindOf j) x j0 h0 ++ [longN x.s19 F, incN i]) jt jh) 4 0 := by kernel_rfl
theorem long2_all (n c : Nat) (f : Nat → Value) (w : Nat) (l : List UInt8) (i : Nat) (x : Cm) (j0 jt : Nat → Value) (h0 jh : Nat → Nat → Value) : upTo (fun j => seen n c f jt jh (known n c f w l i (kindOf j) x [Tr, F] j0 h0)) 4 0 =
  upTo (fun j => want n c f w l i (headN n c f w l i (kindOf j) x j0 h0 ++ [longN x.s19 Tr, longN x.s7 F, incN i]) jt jh) 4 0 := by kernel_rfl
theorem light_all (n c : Nat) (f : Nat → Value) (w : Nat) (l : List UInt8) (i : Nat) (x : Cm) (j0 jt : Nat → Value) (h0 jh : Nat → Nat → Value) : upTo (fun j => seen n c f jt jh (known n c f w l i (kindOf j) x [Tr, Tr] j0 h0)) 4 0 =
  upTo (fun j => want n c f w l i (headN n c f w l i (kindOf j) x j0 h0 ++ [longN x.s19 Tr, longN x.s7 Tr, incN i]) jt jh) 4 0 := by kernel_rfl
end Go.Proofs.YtclcobiaiedpbaaGreatDoor.metaLate
