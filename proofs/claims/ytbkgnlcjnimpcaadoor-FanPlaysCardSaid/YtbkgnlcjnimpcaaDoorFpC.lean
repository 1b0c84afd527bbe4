/- FanPlays: the states; the beginning. -/
import Derived.Test.YtbkgnlcjnimpcaaDoorFpA
import Derived.Test.YtbkgnlcjnimpcaaDoorRdB
namespace Go.Proofs.YtbkgnlcjnimpcaaDoor.fanPlays
open Go Go.Ab Go.RowKit Go.Proofs.YtbkgnlcjnimpcaaDoor.strs
open Go.Proofs.YtbkgnlcjnimpcaaDoor.strs.dig (tblO)
open Go.Proofs.YtbkgnlcjnimpcaaDoor.strs.rf (ltP eqP)
open Go.Proofs.YtbkgnlcjnimpcaaDoor.fanReads (kl klok jK jT)
set_option maxRecDepth 100000
def mk : Marks := with10 [(16, [22]), (22, [12])] 5 (with9 [(8, [56, 176]), (17, [18, 24]), (37, [8]), (58, [7]), (59, [7]), (11, [11]), (18, [9, 13])] (with4 [(8, [70])] (marksIn [(8, [60, 63, 74, 105, 129, 122, 141, 148, 155, 66, 174], [69], [135, 170]), (17, [53], [], []), (11, [15, 19], [], []), (18, [18, 22], [], []), (16, [], [11, 16, 17, 23], [7]), (22, [], [5, 8, 9, 13], [3]), (33, [11], [], []), (12, [14, 17], [], []), (21, [10, 13], [], []), (58, [], [], [5]), (59, [], [], [5])])))
def opV (k : Int) (s1 s2 s3 s4 s5 s6 : List UInt8) (fr mo : Int) : Value := .agg ⟨[i64 k, str s1, str s2, str s3, str s4, str s5, str s6, i64 fr, i64 mo]⟩
noncomputable def body : Code := Tryd.f8.body.getD .skip
theorem hasBody : Tryd.f8.body = some body := by kernel_rfl
noncomputable def c5 : Code := dropN 5 body
noncomputable def ini : Code := codeL c5
noncomputable def rest : Code := codeR c5
noncomputable def lp : Code := inBlk (codeR ini)
noncomputable def hd : Code := codeL lp
noncomputable def lp2 : Code := codeR lp
theorem e1 : c5 = .seq ini rest := by kernel_rfl
theorem e2 : dropN 1 ini = .block 0 (.loop lp) := by kernel_rfl
theorem e3 : lp = .seq hd lp2 := by kernel_rfl
theorem k0 : partsOk Tryd.prog 8 178 5 body = true := by kernel_rfl
theorem k1 : partsOk Tryd.prog 8 178 1 ini = true := by kernel_rfl
theorem okB : codeOk 8 178 body = true := by kernel_rfl
theorem okL : codeOk 8 178 lp = true := by kernel_rfl
theorem okR : codeOk 8 178 rest = true := by kernel_rfl
theorem plB : plansOk Tryd.prog body = true := by kernel_rfl
theorem plL : plansOk Tryd.prog lp = true := by kernel_rfl
theorem plR : plansOk Tryd.prog rest = true := by kernel_rfl
/-! ### States -/
/-- The script: a row. -/
def VS (N c : Nat) : Value := .slice (some ⟨16, 0, none⟩) N c
/-- A subscription. -/
structure Fd where
  sp : List UInt8
  ch : List UInt8
  nx : Nat
  td : Nat
  gone : Bool
def feedR (f : Fd) : Row := Row.ofList [str f.sp, str f.ch, e24 f.nx, e24 f.td, .bool f.gone]
def feedO (f : Fd) : AObj := .cells (feedR f) 56
def refO (f : Fd) : AObj := .cells (feedR f) 65
def globs : List AObj := [.dead, .dead, .dead, .dead, .dead, tblO, .dead, .dead]
noncomputable def SP (VV : Value) (OS OP : AObj) (f : Fd) (i : Nat) (jt : Nat → Value) : St := (treeF (slotsOf [(1, VV), (5, ptrTo 8), (7, ptrTo 9), (9, e24 i)] jt) 178 0 .leaf, ⟨heapF (globs ++ [feedO f, refO f] ++ deads 6 ++ [OS, OP]) 0 .leaf, 18, 1099511627776⟩)
def sh (p q : Nat) : Shape := ⟨[0, 1, 2, 3, 4, 5, 6, 7, p, q, 10, 11, 12, 13, 14, 15, 16, 17], 178, inL [5, 7, 9], fun _ _ => true, fun _ => false, fun y => Nat.beq y 5 || (Nat.beq y 16 || Nat.beq y 17), fun t => Nat.beq t 1⟩
noncomputable def hp0 : AHeap := ((tblOf 8 5 tblO).push .dead).push .dead
noncomputable def s0 (op VV : Value) : St := (initT [op, VV] 0 .leaf, hp0)
noncomputable def y1 (op VV : Value) (tp : Ab.Tape) : SC := partsK kl mk 8 5 body (s0 op VV) tp
noncomputable def y2 (op VV : Value) (tp : Ab.Tape) : SC := partsK kl mk 8 1 ini (y1 op VV tp).s []
/-- What New looks at. -/
noncomputable def newN (sp ch : List UInt8) (fr : Int) : Nat → Noted
  | 0 => [jK 32 [opMake sp ch] (i64 1)]
  | 1 => [jK 32 [opMake sp ch] (i64 0), ltP fr 0 true]
  | 2 => [jK 32 [opMake sp ch] (i64 0), ltP fr 0 false, ltP 1073741824 fr true]
  | _ => [jK 32 [opMake sp ch] (i64 0), ltP fr 0 false, ltP 1073741824 fr false]
def newT : Nat → Ab.Tape
  | 0 => [i64 1]
  | 1 => [i64 0, Tr]
  | 2 => [i64 0, F, Tr]
  | _ => [i64 0, F, F]
/-- What the document's looks at: which label is none; the number. -/
noncomputable def refN (sp ch : List UInt8) (fr : Int) : Nat → Noted
  | 0 => [jK 38 [str sp] F]
  | 1 => [jK 38 [str sp] Tr, jK 38 [str ch] F]
  | 2 => [jK 38 [str sp] Tr, jK 38 [str ch] Tr, ltP fr 0 true]
  | 3 => [jK 38 [str sp] Tr, jK 38 [str ch] Tr, ltP fr 0 false, ltP 1073741824 fr true]
  | _ => [jK 38 [str sp] Tr, jK 38 [str ch] Tr, ltP fr 0 false, ltP 1073741824 fr false]
def refT : Nat → Ab.Tape
  | 0 => [F]
  | 1 => [Tr, F]
  | 2 => [Tr, Tr, Tr]
  | 3 => [Tr, Tr, F, Tr]
  | _ => [Tr, Tr, F, F]
theorem begin_bad (k fr mo : Int) (s1 s2 s3 s4 s5 s6 : List UInt8) (VV : Value) : [(0, 0), (0, 1), (1, 2), (2, 3)].map (fun q => isR Tryd.f8 (codeK kl mk 8 body (s0 (opV k s1 s2 s3 s4 s5 s6 fr mo) VV) (newT q.1 ++ refT q.2 ++ [Tr]))) =
    [(0, 0), (0, 1), (1, 2), (2, 3)].map (fun q => some (Tr, revN (newN s1 s2 fr q.1 ++ refN s1 s2 fr q.2 ++ [jK 15 [] Tr]) [])) := by kernel_rfl
theorem begin_good (k mo : Int) (fr : Nat) (s1 s2 s3 s4 s5 s6 : List UInt8) (VV : Value) (jt : Nat → Value) (jh : Nat → Nat → Value) : (fun y z => (y.ok, y.lg, z.ok, z.lg, canonS (sh 19 21) 8 z.s jt jh)) (y1 (opV k s1 s2 s3 s4 s5 s6 (.ofNat fr) mo) VV (newT 3 ++ refT 4)) (y2 (opV k s1 s2 s3 s4 s5 s6 (.ofNat fr) mo) VV (newT 3 ++ refT 4)) =
    (true, revN (newN s1 s2 (.ofNat fr) 3 ++ refN s1 s2 (.ofNat fr) 4) [], true, [], some (SP VV .dead .dead ⟨s1, s2, fr, 0, false⟩ 0 jt)) := by kernel_rfl
end Go.Proofs.YtbkgnlcjnimpcaaDoor.fanPlays
/- FanPlays: rounds without events. -/
namespace Go.Proofs.YtbkgnlcjnimpcaaDoor.fanPlays
open Go Go.Ab Go.RowKit Go.Proofs.YtbkgnlcjnimpcaaDoor.strs
open Go.Proofs.YtbkgnlcjnimpcaaDoor.strs.dig (tblO)
open Go.Proofs.YtbkgnlcjnimpcaaDoor.strs.rf (ltP eqP catP)
open Go.Proofs.YtbkgnlcjnimpcaaDoor.strs.num (tupV)
open Go.Proofs.YtbkgnlcjnimpcaaDoor.fanReads (kl klok jK jT crT crN)
set_option maxRecDepth 100000
def pA (i : Nat) : Value := .pointer (some ⟨16, i, Option.none⟩)
/-- A call of the script. -/
structure El where
  kd : Int
  nn : Int
  k : Int
  s1 : List UInt8
  s2 : List UInt8
  s3 : List UInt8
  s4 : List UInt8
  s5 : List UInt8
  s6 : List UInt8
  fr : Int
  mo : Int
  er : Int
  rat : Int
  pa : Option Addr
  pn : Nat
  pc : Nat
def elV (e : El) : Value := .agg ⟨[i64 e.kd, i64 e.nn, i64 e.k, str e.s1, str e.s2, str e.s3, str e.s4, str e.s5, str e.s6, i64 e.fr, i64 e.mo, i64 e.er, i64 e.rat, .slice e.pa e.pn e.pc]⟩
noncomputable def rnd (N c : Nat) (OS OP : AObj) (f : Fd) (i : Nat) (j0 : Nat → Value) (e : El) (tp : Ab.Tape) : RCC := codeK kl mk 8 lp (SP (VS N c) OS OP f i j0) (Tr :: Tr :: pA (i * 14) :: elV e :: tp)
noncomputable def atS (N c i : Nat) : Prop := (iaB Tryd.prog 63).un (VS N c) (e24 i) = some (pA (i * 14))
noncomputable def ldS (OS : AObj) (i : Nat) (e : El) : Prop := (ldO Tryd.prog 69).un OS (i * 14) = some (elV e)
noncomputable def isI (a b : Int) (q : Bool) : Prop := pr (.bool (intEq a b)) (bV q)
noncomputable def incP (i : Nat) : Prop := pr (i64 (wrapF .i64 (Int.add (.ofNat i) 1))) (e24 (i + 1))
noncomputable def hdN (N c : Nat) (OS : AObj) (i : Nat) (e : El) : Noted := [ltP (.ofNat i) (.ofNat N) true, ltP (.ofNat i) 200 true, atS N c i, ldS OS i e]
/-- Nothing that is known. -/
theorem r_none (N c : Nat) (OS OP : AObj) (f : Fd) (i : Nat) (j0 jt : Nat → Value) (jh : Nat → Nat → Value) (e : El) : (fun r => (isN r, canonS (sh 8 9) 8 (stOf r) jt jh)) (rnd N c OS OP f i j0 e [F, F, F, e24 (i + 1)]) =
    (some (revN (hdN N c OS i e ++ [isI e.kd 1 false, isI e.kd 2 false, isI e.kd 3 false, incP i]) []), some (SP (VS N c) OS OP f (i + 1) jt)) := by kernel_rfl
noncomputable def noSp (sp : List UInt8) : Prop := pr (.bool (eqL sp [])) F
/-! ### Ask -/
def askT : Nat → Ab.Tape
  | 0 => [F, Tr, Tr, F]
  | 1 => [F, F, Tr, F, Tr, F]
  | _ => [F, F, F, F, F, F]
noncomputable def sameOp (sp ch : List UInt8) (nx : Nat) (n : Int) : Bool := andB (intEq 4 4) (andB (eqL sp sp) (andB (eqL ch ch) (andB (eqL [] []) (andB (eqL [] []) (andB (eqL [] []) (andB (eqL [] []) (andB (intEq (.ofNat nx) (.ofNat nx)) (andB (intEq n n) true))))))))
noncomputable def askN (sp ch : List UInt8) (nx : Nat) (n : Int) : Nat → Noted
  | 0 => [noSp sp, ltP n 1 true, ltP n 1 true, pr F F]
  | 1 => [noSp sp, ltP n 1 false, ltP 64 n true, ltP n 1 false, ltP 64 n true, pr F F]
  | _ => [noSp sp, ltP n 1 false, ltP 64 n false, ltP n 1 false, ltP 64 n false, pr (.bool (notB (sameOp sp ch nx n))) F]
theorem r_ask (N c : Nat) (OS OP : AObj) (sp ch : List UInt8) (nx td i : Nat) (j0 jt : Nat → Value) (jh : Nat → Nat → Value) (e : El) : [0, 1, 2].map (fun k => (fun r => (isN r, canonS (sh 8 9) 8 (stOf r) jt jh)) (rnd N c OS OP ⟨sp, ch, nx, td, false⟩ i j0 e (F :: Tr :: askT k ++ [e24 (i + 1)]))) =
    [0, 1, 2].map (fun k => (some (revN (hdN N c OS i e ++ [isI e.kd 1 false, isI e.kd 2 true] ++ askN sp ch nx e.nn k ++ [incP i]) []), some (SP (VS N c) OS OP ⟨sp, ch, nx, td, false⟩ (i + 1) jt))) := by kernel_rfl
theorem r_askG (N c : Nat) (OS OP : AObj) (sp ch : List UInt8) (nx td i : Nat) (j0 jt : Nat → Value) (jh : Nat → Nat → Value) (e : El) : (fun r => (isN r, canonS (sh 8 9) 8 (stOf r) jt jh)) (rnd N c OS OP ⟨sp, ch, nx, td, true⟩ i j0 e [F, Tr, F, F, e24 (i + 1)]) =
    (some (revN (hdN N c OS i e ++ [isI e.kd 1 false, isI e.kd 2 true, noSp sp, pr F F, incP i]) []), some (SP (VS N c) OS OP ⟨sp, ch, nx, td, true⟩ (i + 1) jt)) := by kernel_rfl
end Go.Proofs.YtbkgnlcjnimpcaaDoor.fanPlays
/- FanPlays: rounds that go on by the cursor. -/
namespace Go.Proofs.YtbkgnlcjnimpcaaDoor.fanPlays
open Go Go.Ab Go.RowKit Go.Proofs.YtbkgnlcjnimpcaaDoor.strs
open Go.Proofs.YtbkgnlcjnimpcaaDoor.strs.dig (tblO)
open Go.Proofs.YtbkgnlcjnimpcaaDoor.strs.rf (ltP eqP catP)
open Go.Proofs.YtbkgnlcjnimpcaaDoor.strs.num (tupV)
open Go.Proofs.YtbkgnlcjnimpcaaDoor.fanReads (kl klok jK jT crT crN hdT)
set_option maxRecDepth 100000
def dcT (x1 x2 x3 t x4 : List UInt8) : Ab.Tape := [str x1, str x2, str x3, str t, str x4]
noncomputable def dcN (sp ch : List UInt8) (n : Nat) (x1 x2 x3 t x4 : List UInt8) : Noted := [catP sp [47] x1, catP x1 ch x2, catP x2 [64] x3, jT 35 [e24 n] (str t), catP x3 t x4, rf.ckV sp ch]
def tdQ (td : Nat) : Prop := ((veq 8 (e24 td) (e24 td) && true) && true) = true
noncomputable def cmpN (x4 : List UInt8) (td : Nat) : Noted := [eqP x4 x4 false, pr (.bool (notB (intEq (.ofNat td) (.ofNat td)))) F, tdQ td]
noncomputable def curN (N c : Nat) (OS : AObj) (i : Nat) (e : El) (sp ch : List UInt8) (nx td : Nat) (x1 x2 x3 t x4 : List UInt8) : Noted := hdN N c OS i e ++ [isI e.kd 1 false, isI e.kd 2 false, isI e.kd 3 true] ++ crN sp ch nx x1 x2 x3 t x4 ++ dcN sp ch nx x1 x2 x3 t x4 ++ cmpN x4 td
def curT (x1 x2 x3 t x4 : List UInt8) : Ab.Tape := [F, F, Tr] ++ crT x1 x2 x3 t x4 ++ dcT x1 x2 x3 t x4 ++ [F, F]
theorem r_curG (N c : Nat) (OS OP : AObj) (sp ch x1 x2 x3 t x4 : List UInt8) (nx td i : Nat) (j0 jt : Nat → Value) (jh : Nat → Nat → Value) (e : El) : (fun r => (isN r, canonS (sh 8 9) 8 (stOf r) jt jh)) (rnd N c OS OP ⟨sp, ch, nx, td, true⟩ i j0 e (curT x1 x2 x3 t x4 ++ [e24 (i + 1)])) =
    (some (revN (curN N c OS i e sp ch nx td x1 x2 x3 t x4 ++ [incP i]) []), some (SP (VS N c) OS OP ⟨sp, ch, nx, td, true⟩ (i + 1) jt)) := by kernel_rfl
theorem r_curB (N c : Nat) (OS OP : AObj) (sp ch x1 x2 x3 t x4 : List UInt8) (nx td i : Nat) (j0 jt : Nat → Value) (jh : Nat → Nat → Value) (e : El) : (fun r => (isN r, canonS (sh 8 9) 8 (stOf r) jt jh)) (rnd N c OS OP ⟨sp, ch, nx, td, false⟩ i j0 e (curT x1 x2 x3 t x4 ++ [Tr, e24 (i + 1)])) =
    (some (revN (curN N c OS i e sp ch nx td x1 x2 x3 t x4 ++ [ltP 1073741824 (.ofNat nx) true, incP i]) []), some (SP (VS N c) OS OP ⟨sp, ch, nx, td, false⟩ (i + 1) jt)) := by kernel_rfl
/-- And goes on. -/
noncomputable def onT (sp r ch u x1 x2 x3 t x4 : List UInt8) (nx : Nat) : Ab.Tape := [F] ++ hdT sp r ch u true true (.ofNat nx) .nilIface ++ fanReads.nwT 3 ++ crT x1 x2 x3 t x4 ++ [F]
noncomputable def onN (sp r ch u x1 x2 x3 t x4 : List UInt8) (nx : Nat) : Noted := [ltP 1073741824 (.ofNat nx) false] ++ fanReads.hdN x4 sp r ch u true true (.ofNat nx) .nilIface ++ fanReads.nwN sp ch (.ofNat nx) 3 ++ crN sp ch nx x1 x2 x3 t x4 ++ [eqP x4 x4 false]
noncomputable def rC (N c : Nat) (OS OP : AObj) (sp r ch u x1 x2 x3 t x4 : List UInt8) (nx td i : Nat) (j0 : Nat → Value) (e : El) : RCC := rnd N c OS OP ⟨sp, ch, nx, td, false⟩ i j0 e (curT x1 x2 x3 t x4 ++ onT sp r ch u x1 x2 x3 t x4 nx ++ [e24 (i + 1)])
theorem r_cur (N c : Nat) (OS OP : AObj) (sp r ch u x1 x2 x3 t x4 : List UInt8) (nx td i : Nat) (j0 jt : Nat → Value) (jh : Nat → Nat → Value) (e : El) : (fun r => (isN r, canonS (sh (blkOf (Tget (stOf r).1 5)) 9) 8 (stOf r) jt jh)) (rC N c OS OP sp r ch u x1 x2 x3 t x4 nx td i j0 e) =
    (some (revN (curN N c OS i e sp ch nx td x1 x2 x3 t x4 ++ onN sp r ch u x1 x2 x3 t x4 nx ++ [incP i]) []), some (SP (VS N c) OS OP ⟨sp, ch, nx, 0, false⟩ (i + 1) jt)) := by kernel_rfl
end Go.Proofs.YtbkgnlcjnimpcaaDoor.fanPlays
