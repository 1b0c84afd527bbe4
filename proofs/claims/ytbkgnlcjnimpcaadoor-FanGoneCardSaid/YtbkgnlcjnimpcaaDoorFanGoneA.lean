/- The parts of FanGone's run that lie ahead of its loop, at any number of pages. -/
import Derived.Test.YtbkgnlcjnimpcaaDoorAbW
import Derived.Test.YtbkgnlcjnimpcaaDoorAbX
namespace Go.Proofs.YtbkgnlcjnimpcaaDoor.fanGone
open Go Go.Ab
noncomputable def callee : CallF := run 30
noncomputable def drw : DrawF := drawA Tryd.prog enters callee
theorem calleeOk : CallSound Tryd.prog 8 callee := run_sound 30
theorem drwOk : DrawSound Tryd.prog 8 drw := drawA_sound entersOk zerosOk calleeOk
noncomputable def body : Code := Tryd.f4.body.getD .skip
theorem hasBody : Tryd.f4.body = some body := by kernel_rfl
noncomputable def r0 : Code := codeL body
noncomputable def b1 : Code := codeR body
noncomputable def r1 : Code := codeL b1
noncomputable def b2 : Code := codeR b1
noncomputable def r2 : Code := codeL b2
noncomputable def b3 : Code := codeR b2
noncomputable def r3 : Code := codeL b3
noncomputable def rest : Code := codeR b3
theorem e0 : body = .seq r0 b1 := by kernel_rfl
theorem e1 : b1 = .seq r1 b2 := by kernel_rfl
theorem e2 : b2 = .seq r2 b3 := by kernel_rfl
theorem e3 : b3 = .seq r3 rest := by kernel_rfl
theorem k0 : codeOk 8 142 r0 = true := by kernel_rfl
theorem k1 : codeOk 8 142 r1 = true := by kernel_rfl
theorem k2 : codeOk 8 142 r2 = true := by kernel_rfl
theorem k3 : codeOk 8 142 r3 = true := by kernel_rfl
theorem k4 : codeOk 8 142 rest = true := by kernel_rfl
noncomputable def go (r : Code) (s : Tree Value × AHeap) : Tree Value × AHeap := stp Tryd.prog enters callee drw 900 r s
noncomputable def goes (r : Code) (s : Tree Value × AHeap) : Bool := stpOk Tryd.prog enters callee drw 900 r s
noncomputable def s0 (n : Int) : Tree Value × AHeap := (initT #[Value.int .i64 n].toList 0 .leaf, bareOf 8)
noncomputable def s1 (n : Int) : Tree Value × AHeap := go r0 (s0 n)
noncomputable def s2 (n : Int) : Tree Value × AHeap := go r1 (s1 n)
noncomputable def s3 (n : Int) : Tree Value × AHeap := go r2 (s2 n)
noncomputable def s4 (n : Int) : Tree Value × AHeap := go r3 (s3 n)
theorem o0 (n : Int) : goes r0 (s0 n) = true := by kernel_rfl
theorem o1 (n : Int) : goes r1 (s1 n) = true := by kernel_rfl
theorem o2 (n : Int) : goes r2 (s2 n) = true := by kernel_rfl
theorem o3 (n : Int) : goes r3 (s3 n) = true := by kernel_rfl
theorem slot (n : Int) : Tget (s4 n).1 5 = .int .i64 (low4 n) := by kernel_rfl
noncomputable def at5 (n : Int) (k : Int) : Tree Value × AHeap := (Tput (s4 n).1 (some 5) (.int .i64 k), (s4 n).2)
noncomputable def ends (n k : Int) : Option Value := finA Tryd.prog enters callee drw 900 Tryd.f4 rest (at5 n k)
end Go.Proofs.YtbkgnlcjnimpcaaDoor.fanGone
