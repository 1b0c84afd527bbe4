/- FanPlays: what the document takes of an answer, round by round. -/
import Derived.Test.YtbkgnlcjnimpcaaDoorFpH
namespace Go.Proofs.YtbkgnlcjnimpcaaDoor.fanPlays.dk
open Go Go.Ab Go.RowKit Go.Proofs.YtbkgnlcjnimpcaaDoor.strs Go.Proofs.YtbkgnlcjnimpcaaDoor.fanPlays
open Go.Proofs.YtbkgnlcjnimpcaaDoor.fanPlays.tk (with6 opE reE elO pP blkOf' h2 evC)
open Go.Proofs.YtbkgnlcjnimpcaaDoor.strs.rf (ltP)
open Go.Proofs.YtbkgnlcjnimpcaaDoor.fanReads (kl klok jK jT)
set_option maxRecDepth 100000
def mkD : Marks := with6 [(19, [59])] (with4 [(19, [56])] (fun f t => match Nat.beq f 19 with
  | true => marksIn [(19, [22, 27, 33, 39, 41, 45, 48, 62, 66], [55], [])] f t
  | false => mk2 f t))
noncomputable def body : Code := Tryd.f19.body.getD .skip
theorem hasBody : Tryd.f19.body = some body := by kernel_rfl
noncomputable def c7 : Code := dropN 7 body
noncomputable def ini : Code := codeL c7
noncomputable def rest : Code := codeR c7
noncomputable def lp : Code := inBlk (codeR ini)
def refV (f : Fd) : Value := .agg ⟨[str f.sp, str f.ch, e24 f.nx, e24 f.td, .bool f.gone]⟩
def opO (e : El) : AObj := .cells (Row.ofList [i64 e.k, str e.s1, str e.s2, str e.s3, str e.s4, str e.s5, str e.s6, i64 e.fr, i64 e.mo]) 34
def reO (e : El) : AObj := .cells (Row.ofList [i64 e.er, i64 e.rat, .slice e.pa e.pn e.pc]) 30
def zeroO : AObj := .cells (Row.ofList [str [], str [], e24 0, e24 0, F]) 65
noncomputable def w1 (OS OP E1 : AObj) (g f0 : Fd) (e : El) (tp : Ab.Tape) : SC := partsK kl mkD 19 7 body (initT [refV f0, opE e, reE e] 0 .leaf, h2 OS OP g f0 e E1) tp
noncomputable def w2 (OS OP E1 : AObj) (g f0 : Fd) (e : El) (tp : Ab.Tape) : SC := partsK kl mkD 19 1 ini (w1 OS OP E1 g f0 e tp).s []
/-- 'g': the program's; 'f0': the document's as it was; 'f': as it is. -/
noncomputable def US (OS OP E1 : AObj) (g f0 f : Fd) (e : El) (i : Nat) (EV : Value) (EO : AObj) (jt : Nat → Value) : St := (treeF (slotsOf [(3, ptrTo 20), (4, ptrTo 21), (5, ptrTo 22), (6, ptrTo 23), (9, EV), (10, e24 i)] jt) 70 0 .leaf, ⟨heapF (globs ++ [feedO g, refO f0] ++ deads 6 ++ [OS, OP, elO e, E1, refO f, opO e, reO e, zeroO, EO]) 0 .leaf, 25, 1099511627776⟩)
def evD (j : Nat) : Value := .slice (some ⟨24, 0, none⟩) j OPEN
def blkD (v : Value) : Nat := match v with
  | .slice (some a) _ _ => a.block
  | _ => 1000
def shD (r o p z q : Nat) : Shape := ⟨[0, 1, 2, 3, 4, 5, 6, 7, 8, 9, 10, 11, 12, 13, 14, 15, 16, 17, 18, 19, r, o, p, z, q], 70, inL [3, 4, 5, 6, 9, 10], fun _ _ => true, fun _ => false, fun y => Nat.beq y 5 || (Nat.beq y 16 || (Nat.beq y 17 || (Nat.beq y 18 || (Nat.beq y 19 || (Nat.beq y 22 || Nat.beq y 24))))), fun _ => false⟩
def shU (s : St) : Shape := shD (blkOf (Tget s.1 3)) (blkOf (Tget s.1 4)) (blkOf (Tget s.1 5)) (blkOf (Tget s.1 6)) (blkD (Tget s.1 9))
noncomputable def hdT (k : Nat) (sm : Int) : Ab.Tape := qT k ++ dT sm k ++ [F, F, F]
noncomputable def hdN (e : El) (sp ch : List UInt8) (nx k : Nat) (sm : Int) : Noted := qN e sp ch k ++ dN e sm k ++ [isI e.er 3 false, isI e.er 120 false, ltP (.ofNat nx) e.fr false]
theorem ahead (OS OP E1 : AObj) (g : Fd) (sp ch : List UInt8) (nx td : Nat) (sm : Int) (e : El) (jt : Nat → Value) (jh : Nat → Nat → Value) : [10, 13].map (fun k => (fun y z => (y.ok, y.lg, z.ok, z.lg, canonS (shU z.s) 8 z.s jt jh)) (w1 OS OP E1 g ⟨sp, ch, nx, td, false⟩ e (hdT k sm)) (w2 OS OP E1 g ⟨sp, ch, nx, td, false⟩ e (hdT k sm))) =
    [10, 13].map (fun k => (true, revN (hdN e sp ch nx k sm) [], true, [], some (US OS OP E1 g ⟨sp, ch, nx, td, false⟩ ⟨sp, ch, nx, td, false⟩ e 0 (.slice none 0 0) .dead jt))) := by kernel_rfl
end Go.Proofs.YtbkgnlcjnimpcaaDoor.fanPlays.dk
/- FanPlays: what the document takes of an answer: its rounds and its end. -/
namespace Go.Proofs.YtbkgnlcjnimpcaaDoor.fanPlays.dk
open Go Go.Ab Go.RowKit Go.Proofs.YtbkgnlcjnimpcaaDoor.strs Go.Proofs.YtbkgnlcjnimpcaaDoor.fanPlays
open Go.Proofs.YtbkgnlcjnimpcaaDoor.fanPlays.tk (with6 opE reE elO pP blkOf' h2 evC stR)
open Go.Proofs.YtbkgnlcjnimpcaaDoor.strs.rf (ltP)
open Go.Proofs.YtbkgnlcjnimpcaaDoor.fanReads (kl klok jK jT)
set_option maxRecDepth 100000
noncomputable def goN (e : El) (i : Nat) (x : Int) (nx : Nat) (q : Bool) : Noted := [ltP (.ofNat i) (.ofNat e.pn) true, pr (i64 (wrapF .i64 (Int.add e.fr (.ofNat i)))) (i64 x), isI x (.ofNat nx) q]
noncomputable def evN (OP : AObj) (e : El) (i p nx td : Nat) (u t : List UInt8) (q : Noted) : Noted := [(iaB Tryd.prog 28).un (.slice e.pa e.pn e.pc) (e24 i) = some (pP p), (ldO Tryd.prog 48).un OP p = some (.agg ⟨[str u, str t]⟩)] ++ q ++ [pr (i64 (wrapF .i64 (Int.add (.ofNat nx) 1))) (e24 (nx + 1)), pr (i64 (wrapF .i64 (Int.add (.ofNat td) 1))) (e24 (td + 1))]
noncomputable def rd (OS OP E1 : AObj) (g f0 f : Fd) (e : El) (i : Nat) (EV : Value) (EO : AObj) (j0 : Nat → Value) (tp : Ab.Tape) : RCC := codeK kl mkD 19 lp (US OS OP E1 g f0 f e i EV EO j0) (Tr :: tp)
/-- A post that is told already. -/
theorem roundN (OS OP E1 : AObj) (g f0 : Fd) (sp ch : List UInt8) (nx td i : Nat) (e : El) (x : Int) (j0 jt : Nat → Value) (jh : Nat → Nat → Value) : (fun r => (isN r, canonS (shU (stOf r)) 8 (stOf r) jt jh)) (rd OS OP E1 g f0 ⟨sp, ch, nx, td, false⟩ e i (.slice none 0 0) .dead j0 [i64 x, F, e24 (i + 1)]) =
    (some (revN (goN e i x nx false ++ [incP i]) []), some (US OS OP E1 g f0 ⟨sp, ch, nx, td, false⟩ e (i + 1) (.slice none 0 0) .dead jt)) := by kernel_rfl
theorem round0 (OS OP E1 : AObj) (g f0 : Fd) (sp ch u t : List UInt8) (nx td i p : Nat) (e : El) (x : Int) (j0 jt : Nat → Value) (jh : Nat → Nat → Value) : (fun r => (isN r, canonS (shU (stOf r)) 8 (stOf r) jt jh)) (rd OS OP E1 g f0 ⟨sp, ch, nx, td, false⟩ e i (.slice none 0 0) .dead j0 [i64 x, Tr, pP p, .agg ⟨[str u, str t]⟩, e24 (nx + 1), e24 (td + 1), e24 (i + 1)]) =
    (some (revN (goN e i x nx true ++ evN OP e i p nx td u t [appN0 (Row.ofList (evC nx u t)) 0 1 3] ++ [incP i]) []), some (US OS OP E1 g f0 ⟨sp, ch, nx + 1, td + 1, false⟩ e (i + 1) (evD 1) (.cells (Row.ofList (evC nx u t)) 98) jt)) := by kernel_rfl
theorem roundS (OS OP E1 : AObj) (g f0 : Fd) (sp ch u t : List UInt8) (nx td i p j : Nat) (e : El) (x : Int) (L : Row) (j0 jt : Nat → Value) (jh : Nat → Nat → Value) : (fun r => (isN r, canonS (shU (stOf r)) 8 (stOf r) jt jh)) (rd OS OP E1 g f0 ⟨sp, ch, nx, td, false⟩ e i (evD (j + 1)) (.cells L 98) j0 [i64 x, Tr, pP p, .agg ⟨[str u, str t]⟩, e24 (nx + 1), e24 (td + 1), e24 (i + 1)]) =
    (some (revN (goN e i x nx true ++ evN OP e i p nx td u t [appN L.len (j + 1) 1 3] ++ [incP i]) []), some (US OS OP E1 g f0 ⟨sp, ch, nx + 1, td + 1, false⟩ e (i + 1) (evD (j + 2)) (.cells (L.more (evC nx u t)) 98) jt)) := by kernel_rfl
noncomputable def over (OS OP E1 : AObj) (g f0 f : Fd) (e : El) (i : Nat) (EV : Value) (EO : AObj) (j0 : Nat → Value) : RCC := codeK kl mkD 19 lp (US OS OP E1 g f0 f e i EV EO j0) [F]
noncomputable def last (OS OP E1 : AObj) (g f0 f : Fd) (e : El) (i : Nat) (EV : Value) (EO : AObj) (j0 : Nat → Value) : RCC := codeK kl mkD 19 rest (stOf (over OS OP E1 g f0 f e i EV EO j0)) []
noncomputable def h3 (OS OP E1 : AObj) (g f0 f : Fd) (e : El) (EO : AObj) : AHeap := ⟨heapF (globs ++ [feedO g, refO f0] ++ deads 6 ++ [OS, OP, elO e, E1, refO f, opO e, reO e, refO f, EO]) 0 .leaf, 25, 1099511627776⟩
theorem ends (OS OP E1 : AObj) (g f0 : Fd) (sp ch : List UInt8) (nx td i n c : Nat) (A : Option Addr) (e : El) (EO : AObj) (j0 : Nat → Value) : (fun r p => (isX r, isR Tryd.f19 p, stR p)) (over OS OP E1 g f0 ⟨sp, ch, nx, td, false⟩ e i (.slice A n c) EO j0) (last OS OP E1 g f0 ⟨sp, ch, nx, td, false⟩ e i (.slice A n c) EO j0) =
    (some (0, [ltP (.ofNat i) (.ofNat e.pn) false]), some (.tuple ⟨[refV ⟨sp, ch, nx, td, false⟩, .slice A n c, e24 0]⟩, []), h3 OS OP E1 g f0 ⟨sp, ch, nx, td, false⟩ e EO) := by kernel_rfl
end Go.Proofs.YtbkgnlcjnimpcaaDoor.fanPlays.dk
