/- FanPlays: are events the same? -/
import Derived.Test.YtbkgnlcjnimpcaaDoorFpJ
namespace Go.Proofs.YtbkgnlcjnimpcaaDoor.fanPlays.sm
open Go Go.Ab Go.RowKit Go.Proofs.YtbkgnlcjnimpcaaDoor.strs Go.Proofs.YtbkgnlcjnimpcaaDoor.fanPlays
open Go.Proofs.YtbkgnlcjnimpcaaDoor.fanPlays.tk (elO stR)
open Go.Proofs.YtbkgnlcjnimpcaaDoor.fanPlays.dk (opO reO)
open Go.Proofs.YtbkgnlcjnimpcaaDoor.strs.rf (ltP)
open Go.Proofs.YtbkgnlcjnimpcaaDoor.fanReads (kl klok jK jT)
set_option maxRecDepth 100000
def mkS : Marks := with4 [(20, [21, 26, 33, 38])] (fun f t => match Nat.beq f 20 with
  | true => marksIn [(20, [10, 14, 27, 39, 16], [19, 24, 31, 36], [])] f t
  | false => mk2 f t)
noncomputable def body : Code := Tryd.f20.body.getD .skip
theorem hasBody : Tryd.f20.body = some body := by kernel_rfl
noncomputable def c2 : Code := dropN 2 body
noncomputable def ini : Code := codeL c2
noncomputable def rest : Code := codeR c2
noncomputable def lp : Code := inBlk (codeR ini)
/-- What is there when it is asked. -/
noncomputable def h4 (OS OP E1 : AObj) (g f0 f : Fd) (e : El) (E2 : AObj) : AHeap := ⟨heapF (globs ++ [feedO g, refO f0] ++ deads 6 ++ [OS, OP, elO e, E1, refO f, opO e, reO e, refO f, E2, refO f]) 0 .leaf, 26, 1099511627776⟩
noncomputable def w1 (OS OP E1 E2 : AObj) (g f0 f : Fd) (e : El) (A : Option Addr) (B : Option Addr) (n c d : Nat) : SC := partsK kl mkS 20 2 body (initT [.slice A n c, .slice B n d] 0 .leaf, h4 OS OP E1 g f0 f e E2) [F]
noncomputable def w2 (OS OP E1 E2 : AObj) (g f0 f : Fd) (e : El) (A : Option Addr) (B : Option Addr) (n c d : Nat) : SC := partsK kl mkS 20 1 ini (w1 OS OP E1 E2 g f0 f e A B n c d).s []
noncomputable def SS (OS OP E1 E2 : AObj) (g f0 f : Fd) (e : El) (A : Option Addr) (B : Option Addr) (n c d i : Nat) (jt : Nat → Value) : St := (treeF (slotsOf [(0, .slice A n c), (1, .slice B n d), (5, e24 i)] jt) 41 0 .leaf, h4 OS OP E1 g f0 f e E2)
def shS : Shape := ⟨[0, 1, 2, 3, 4, 5, 6, 7, 8, 9, 10, 11, 12, 13, 14, 15, 16, 17, 18, 19, 20, 21, 22, 23, 24, 25], 41, inL [5], fun _ _ => true, fun _ => false, fun y => Nat.beq y 5 || (Nat.beq y 16 || (Nat.beq y 17 || (Nat.beq y 18 || (Nat.beq y 19 || (Nat.beq y 22 || Nat.beq y 24))))), fun t => Nat.beq t 0 || Nat.beq t 1⟩
theorem ahead (OS OP E1 E2 : AObj) (g f0 f : Fd) (e : El) (A : Option Addr) (B : Option Addr) (n c d : Nat) (jt : Nat → Value) (jh : Nat → Nat → Value) : (fun y z => (y.ok, y.lg, z.ok, z.lg, canonS shS 8 z.s jt jh)) (w1 OS OP E1 E2 g f0 f e A B n c d) (w2 OS OP E1 E2 g f0 f e A B n c d) =
    (true, [pr (.bool (notB (intEq (.ofNat n) (.ofNat n)))) F], true, [], some (SS OS OP E1 E2 g f0 f e A B n c d 0 jt)) := by kernel_rfl
def pQ (b p : Nat) : Value := .pointer (some ⟨b, p, Option.none⟩)
noncomputable def sameN (E1 E2 : AObj) (A : Option Addr) (B : Option Addr) (n c d i p m : Nat) (u t : List UInt8) : Noted := [ltP (.ofNat i) (.ofNat n) true, (iaB Tryd.prog 44).un (.slice A n c) (e24 i) = some (pQ 19 p), (ldO Tryd.prog 3).un E1 (Nat.add p 0) = some (e24 m), (iaB Tryd.prog 70).un (.slice B n d) (e24 i) = some (pQ 24 p), (ldO Tryd.prog 3).un E2 (Nat.add p 0) = some (e24 m), pr (.bool (notB (intEq (.ofNat m) (.ofNat m)))) F,
  (iaB Tryd.prog 44).un (.slice A n c) (e24 i) = some (pQ 19 p), (ldO Tryd.prog 48).un E1 (Nat.add p 1) = some (.agg ⟨[str u, str t]⟩), (iaB Tryd.prog 70).un (.slice B n d) (e24 i) = some (pQ 24 p), (ldO Tryd.prog 48).un E2 (Nat.add p 1) = some (.agg ⟨[str u, str t]⟩), pr (.bool (notB (andB (eqL u u) (andB (eqL t t) true)))) F, incP i]
theorem round (OS OP E1 E2 : AObj) (g f0 f : Fd) (e : El) (A : Option Addr) (B : Option Addr) (n c d i p m : Nat) (u t : List UInt8) (j0 jt : Nat → Value) (jh : Nat → Nat → Value) : (fun r => (isN r, canonS shS 8 (stOf r) jt jh)) (codeK kl mkS 20 lp (SS OS OP E1 E2 g f0 f e A B n c d i j0) [Tr, pQ 19 p, e24 m, pQ 24 p, e24 m, F, pQ 19 p, .agg ⟨[str u, str t]⟩, pQ 24 p, .agg ⟨[str u, str t]⟩, F, e24 (i + 1)]) =
    (some (revN (sameN E1 E2 A B n c d i p m u t) []), some (SS OS OP E1 E2 g f0 f e A B n c d (i + 1) jt)) := by kernel_rfl
noncomputable def over (OS OP E1 E2 : AObj) (g f0 f : Fd) (e : El) (A : Option Addr) (B : Option Addr) (n c d i : Nat) (j0 : Nat → Value) : RCC := codeK kl mkS 20 lp (SS OS OP E1 E2 g f0 f e A B n c d i j0) [F]
theorem ends (OS OP E1 E2 : AObj) (g f0 f : Fd) (e : El) (A : Option Addr) (B : Option Addr) (n c d i : Nat) (j0 : Nat → Value) : (fun r p => (isX r, isR Tryd.f20 p, stR p)) (over OS OP E1 E2 g f0 f e A B n c d i j0) (codeK kl mkS 20 rest (stOf (over OS OP E1 E2 g f0 f e A B n c d i j0)) []) =
    (some (0, [ltP (.ofNat i) (.ofNat n) false]), some (Tr, []), h4 OS OP E1 g f0 f e E2) := by kernel_rfl
end Go.Proofs.YtbkgnlcjnimpcaaDoor.fanPlays.sm
