/- FanPlays: what the program takes of an answer, round by round. -/
import Derived.Test.YtbkgnlcjnimpcaaDoorFpF
namespace Go.Proofs.YtbkgnlcjnimpcaaDoor.fanPlays.tk
open Go Go.Ab Go.RowKit Go.Proofs.YtbkgnlcjnimpcaaDoor.strs Go.Proofs.YtbkgnlcjnimpcaaDoor.fanPlays
open Go.Proofs.YtbkgnlcjnimpcaaDoor.strs.rf (ltP)
open Go.Proofs.YtbkgnlcjnimpcaaDoor.fanReads (kl klok jK jT)
set_option maxRecDepth 100000
def with6 (l : List (Nat × List Nat)) (mk : Marks) (g : Nat) (t : Nat) : Nat := match l.any (fun x => Nat.beq x.1 g && inL x.2 t) with
  | true => 6
  | false => mk g t
def mkT : Marks := with6 [(13, [77])] (with5 [(13, [63])] (with4 [(13, [68])] (fun f t => match Nat.beq f 13 with
  | true => marksIn [(13, [27, 34, 42, 53, 66, 82, 85, 92], [67], [])] f t
  | false => mk2 f t)))
def opE (e : El) : Value := .agg ⟨[i64 e.k, str e.s1, str e.s2, str e.s3, str e.s4, str e.s5, str e.s6, i64 e.fr, i64 e.mo]⟩
def reE (e : El) : Value := .agg ⟨[i64 e.er, i64 e.rat, .slice e.pa e.pn e.pc]⟩
def elO (e : El) : AObj := .cells (Row.ofList [i64 e.kd, i64 e.nn, i64 e.k, str e.s1, str e.s2, str e.s3, str e.s4, str e.s5, str e.s6, i64 e.fr, i64 e.mo, i64 e.er, i64 e.rat, .slice e.pa e.pn e.pc]) 69
noncomputable def h1 (OS OP : AObj) (f : Fd) (e : El) : AHeap := ⟨heapF (globs ++ [feedO f, refO f] ++ deads 6 ++ [OS, OP, elO e]) 0 .leaf, 19, 1099511627776⟩
noncomputable def body : Code := Tryd.f13.body.getD .skip
noncomputable def c5 : Code := dropN 5 body
noncomputable def ini : Code := codeL c5
noncomputable def rest : Code := codeR c5
noncomputable def lp : Code := inBlk (codeR ini)
noncomputable def w1 (OS OP : AObj) (f : Fd) (e : El) (tp : Ab.Tape) : SC := partsK kl mkT 13 5 body (initT [ptrTo 8, opE e, reE e] 0 .leaf, h1 OS OP f e) tp
noncomputable def w2 (OS OP : AObj) (f : Fd) (e : El) (tp tp2 : Ab.Tape) : SC := partsK kl mkT 13 1 ini (w1 OS OP f e tp).s tp2

noncomputable def TS (OS OP : AObj) (f f0 : Fd) (e : El) (A : Option Addr) (n c : Nat) (j : Nat) (EV : Value) (EO : AObj) (jt : Nat → Value) : St := (treeF (slotsOf [(0, ptrTo 8), (10, EV), (63, .slice A n c), (64, e24 n), (65, e24 j)] jt) 96 0 .leaf, ⟨heapF (globs ++ [feedO f, refO f0] ++ deads 6 ++ [OS, OP, elO e, EO]) 0 .leaf, 20, 1099511627776⟩)
def shT (q : Nat) : Shape := ⟨[0, 1, 2, 3, 4, 5, 6, 7, 8, 9, 10, 11, 12, 13, 14, 15, 16, 17, 18, q], 96, inL [0, 10, 64, 65], fun _ _ => true, fun _ => false, fun y => Nat.beq y 5 || (Nat.beq y 16 || (Nat.beq y 17 || (Nat.beq y 18 || Nat.beq y 19))), fun t => Nat.beq t 63⟩
def blkOf' (v : Value) : Nat := match v with
  | .slice (some a) _ _ => a.block
  | _ => 19
def pP (p : Nat) : Value := .pointer (some ⟨17, p, Option.none⟩)

noncomputable def hdT (k : Nat) (sm : Int) (n : Nat) : Ab.Tape := F :: qT k ++ aT sm k ++ [F, F, F, e24 n]
noncomputable def minI (e : El) (nx : Nat) : Int := if (.ofNat e.pn : Int) < wrapF .i64 (Int.sub (.ofNat nx) e.fr) then .ofNat e.pn else wrapF .i64 (Int.sub (.ofNat nx) e.fr)
noncomputable def hdN (e : El) (sp ch : List UInt8) (nx : Nat) (k : Nat) (sm : Int) (n : Nat) : Noted := noSp sp :: qN e sp ch k ++ aN e sm k ++ [isI e.er 3 false, isI e.er 120 false, ltP (.ofNat nx) e.fr false, pr (i64 (minI e nx)) (e24 n)]
noncomputable def slP (e : El) (k : Nat) (A : Option Addr) (n c : Nat) : Prop := sliceFact Tryd.prog 28 (.slice e.pa e.pn e.pc) (some (e24 k)) (some (.int .i64 (.ofNat e.pn))) (some (.int .i64 (.ofNat e.pn))) (.slice A n c)
theorem ahead (OS OP : AObj) (sp ch : List UInt8) (nx td m n c : Nat) (sm : Int) (e : El) (A : Option Addr) (jt : Nat → Value) (jh : Nat → Nat → Value) : [10, 13].map (fun k => (fun y z => (y.ok, y.lg, z.ok, z.lg, canonS (shT 1000) 8 z.s jt jh)) (w1 OS OP ⟨sp, ch, nx, td, false⟩ e (hdT k sm m)) (w2 OS OP ⟨sp, ch, nx, td, false⟩ e (hdT k sm m) [.slice A n c])) =
    [10, 13].map (fun k => (true, revN (hdN e sp ch nx k sm m) [], true, [slP e m A n c], some (TS OS OP ⟨sp, ch, nx, td, false⟩ ⟨sp, ch, nx, td, false⟩ e A n c 0 (.slice none 0 0) .dead jt))) := by kernel_rfl
noncomputable def rd (OS OP : AObj) (f f0 : Fd) (e : El) (A : Option Addr) (n c : Nat) (j p : Nat) (u t : List UInt8) (EV : Value) (EO : AObj) (j0 : Nat → Value) : RCC := codeK kl mkT 13 lp (TS OS OP f f0 e A n c j EV EO j0) [Tr, pP p, .agg ⟨[str u, str t]⟩, e24 (f.nx + 1), e24 (j + 1)]
def evV (j : Nat) : Value := .slice (some ⟨19, 0, none⟩) j OPEN
def evC (nx : Nat) (u t : List UInt8) : List Value := [e24 nx, str u, str t]
noncomputable def rdN (OP : AObj) (A : Option Addr) (n c j p nx : Nat) (u t : List UInt8) (q : Noted) : Noted := [ltP (.ofNat j) (.ofNat n) true, (iaB Tryd.prog 28).un (.slice A n c) (e24 j) = some (pP p), (ldO Tryd.prog 48).un OP p = some (.agg ⟨[str u, str t]⟩)] ++ q ++ [pr (i64 (wrapF .i64 (Int.add (.ofNat nx) 1))) (e24 (nx + 1)), pr (i64 (wrapF .i64 (Int.add (.ofNat j) 1))) (e24 (j + 1))]
theorem roundS (OS OP : AObj) (sp ch u t : List UInt8) (nx td j p : Nat) (f0 : Fd) (e : El) (A : Option Addr) (n c : Nat) (L : Row) (j0 jt : Nat → Value) (jh : Nat → Nat → Value) : (fun r => (isN r, canonS (shT (blkOf' (Tget (stOf r).1 10))) 8 (stOf r) jt jh)) (rd OS OP ⟨sp, ch, nx, td, false⟩ f0 e A n c (j + 1) p u t (evV (j + 1)) (.cells L 50) j0) =
    (some (revN (rdN OP A n c (j + 1) p nx u t [appN L.len (j + 1) 1 3]) []), some (TS OS OP ⟨sp, ch, nx + 1, td, false⟩ f0 e A n c (j + 2) (evV (j + 2)) (.cells (L.more (evC nx u t)) 50) jt)) := by kernel_rfl
theorem round0 (OS OP : AObj) (sp ch u t : List UInt8) (nx td p : Nat) (f0 : Fd) (e : El) (A : Option Addr) (n c : Nat) (j0 jt : Nat → Value) (jh : Nat → Nat → Value) : (fun r => (isN r, canonS (shT (blkOf' (Tget (stOf r).1 10))) 8 (stOf r) jt jh)) (rd OS OP ⟨sp, ch, nx, td, false⟩ f0 e A n c 0 p u t (.slice none 0 0) .dead j0) =
    (some (revN (rdN OP A n c 0 p nx u t [appN0 (Row.ofList (evC nx u t)) 0 1 3]) []), some (TS OS OP ⟨sp, ch, nx + 1, td, false⟩ f0 e A n c 1 (evV 1) (.cells (Row.ofList (evC nx u t)) 50) jt)) := by kernel_rfl
end Go.Proofs.YtbkgnlcjnimpcaaDoor.fanPlays.tk
/- FanPlays: what the program takes of an answer: its end. -/
namespace Go.Proofs.YtbkgnlcjnimpcaaDoor.fanPlays.tk
open Go Go.Ab Go.RowKit Go.Proofs.YtbkgnlcjnimpcaaDoor.strs Go.Proofs.YtbkgnlcjnimpcaaDoor.fanPlays
open Go.Proofs.YtbkgnlcjnimpcaaDoor.strs.rf (ltP)
open Go.Proofs.YtbkgnlcjnimpcaaDoor.fanReads (kl klok jK jT)
set_option maxRecDepth 100000
def stR (r : RCC) : AHeap := match r with
  | .ret _ h _ _ => h
  | _ => bare8
noncomputable def h2 (OS OP : AObj) (f f0 : Fd) (e : El) (EO : AObj) : AHeap := ⟨heapF (globs ++ [feedO f, refO f0] ++ deads 6 ++ [OS, OP, elO e, EO]) 0 .leaf, 20, 1099511627776⟩
noncomputable def over (OS OP : AObj) (f f0 : Fd) (e : El) (A : Option Addr) (n c : Nat) (j : Nat) (EV : Value) (EO : AObj) (j0 : Nat → Value) : RCC := codeK kl mkT 13 lp (TS OS OP f f0 e A n c j EV EO j0) [F]
noncomputable def last (OS OP : AObj) (f f0 : Fd) (e : El) (A : Option Addr) (n c : Nat) (j : Nat) (EV : Value) (EO : AObj) (j0 : Nat → Value) : RCC := codeK kl mkT 13 rest (stOf (over OS OP f f0 e A n c j EV EO j0)) [e24 (f.td + j)]
noncomputable def tdP (td j : Nat) : Prop := pr (i64 (wrapF .i64 (Int.add (.ofNat td) (.ofNat j)))) (e24 (td + j))
theorem ends0 (OS OP : AObj) (sp ch : List UInt8) (nx td : Nat) (f0 : Fd) (e : El) (A : Option Addr) (n c : Nat) (j0 : Nat → Value) : (fun r p => (isX r, isR Tryd.f13 p, stR p)) (over OS OP ⟨sp, ch, nx, td, false⟩ f0 e A n c 0 (.slice none 0 0) .dead j0) (last OS OP ⟨sp, ch, nx, td, false⟩ f0 e A n c 0 (.slice none 0 0) .dead j0) =
    (some (1, [ltP (.ofNat 0) (.ofNat n) false]), some (.tuple ⟨[.slice none 0 0, e24 0]⟩, [tdP td 0]), h2 OS OP ⟨sp, ch, nx, td + 0, false⟩ f0 e .dead) := by kernel_rfl
theorem endsS (OS OP : AObj) (sp ch : List UInt8) (nx td j : Nat) (f0 : Fd) (e : El) (A : Option Addr) (n c : Nat) (L : Row) (j0 : Nat → Value) : (fun r p => (isX r, isR Tryd.f13 p, stR p)) (over OS OP ⟨sp, ch, nx, td, false⟩ f0 e A n c (j + 1) (evV (j + 1)) (.cells L 50) j0) (last OS OP ⟨sp, ch, nx, td, false⟩ f0 e A n c (j + 1) (evV (j + 1)) (.cells L 50) j0) =
    (some (1, [ltP (.ofNat (j + 1)) (.ofNat n) false]), some (.tuple ⟨[evV (j + 1), e24 0]⟩, [tdP td (j + 1)]), h2 OS OP ⟨sp, ch, nx, td + (j + 1), false⟩ f0 e (.cells L 50)) := by kernel_rfl
end Go.Proofs.YtbkgnlcjnimpcaaDoor.fanPlays.tk
