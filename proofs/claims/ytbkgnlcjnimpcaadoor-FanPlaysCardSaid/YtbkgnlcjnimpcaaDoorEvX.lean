-- THE EVALUATOR LAID OVER THIS SEAT's PROGRAM. PRINTED BY wip/ab/gen.py.
import Derived.Test.YtbkgnlcjnimpcaaDoorEvI
import Derived.Test.YtbkgnlcjnimpcaaDoorProg
import Derived.KernelRfl
import Derived.Laws.Externs
namespace Go.Proofs.YtbkgnlcjnimpcaaDoor
open Go Go.Ab
noncomputable def tbl : List (Nat × Func) := [(2, Tryd.f2), (3, Tryd.f3), (4, Tryd.f4), (5, Tryd.f5), (6, Tryd.f6), (7, Tryd.f7), (8, Tryd.f8), (9, Tryd.f9), (10, Tryd.f10), (11, Tryd.f11), (12, Tryd.f12), (13, Tryd.f13), (14, Tryd.f14), (15, Tryd.f15), (16, Tryd.f16), (17, Tryd.f17), (18, Tryd.f18), (19, Tryd.f19), (20, Tryd.f20), (21, Tryd.f21), (22, Tryd.f22), (23, Tryd.f23), (24, Tryd.f24), (25, Tryd.f25), (26, Tryd.f26), (27, Tryd.f27), (28, Tryd.f28), (29, Tryd.f29), (30, Tryd.f30), (31, Tryd.f31), (32, Tryd.f32), (33, Tryd.f33), (34, Tryd.f34), (35, Tryd.f35), (36, Tryd.f36), (37, Tryd.f37), (38, Tryd.f38), (39, Tryd.f39), (40, Tryd.f40), (41, Tryd.f41), (42, Tryd.f42), (43, Tryd.f43), (44, Tryd.f44), (45, Tryd.f45), (46, Tryd.f46), (47, Tryd.f47), (48, Tryd.f48), (49, Tryd.f49), (50, Tryd.f50), (51, Tryd.f51), (52, Tryd.f52), (53, Tryd.f53), (54, Tryd.f54), (55, Tryd.f55), (56, Tryd.f56), (57, Tryd.f57), (58, Tryd.f58), (59, Tryd.f59), (60, Tryd.f60), (61, Tryd.f61), (62, Tryd.f62), (63, Tryd.f63), (64, Tryd.f64), (65, Tryd.f65), (66, Tryd.f66), (67, Tryd.f67), (68, Tryd.f68), (69, Tryd.f69), (71, Tryd.f71), (72, Tryd.f72), (73, Tryd.f73), (74, Tryd.f74), (75, Tryd.f75), (76, Tryd.f76), (77, Tryd.f77), (78, Tryd.f78), (79, Tryd.f79), (80, Tryd.f80), (81, Tryd.f81), (83, Tryd.f83), (84, Tryd.f84), (85, Tryd.f85), (86, Tryd.f86), (87, Tryd.f87), (116, Tryd.f116)]
def lookF : List (Nat × Func) → Nat → Option Func
  | [], _ => none
  | (i, fn) :: rest, f => if Nat.beq i f then some fn else lookF rest f
noncomputable def FT : FuncId → Option Func := lookF tbl
noncomputable def enters : FuncId → FKind := fun f => match FT f with
  | some _ => .enter
  | none => if Nat.beq f 82 then .ext idxB else .other
theorem lookF_mem : ∀ (l : List (Nat × Func)) (f : Nat) (fn : Func), lookF l f = some fn → (f, fn) ∈ l := by
  intro l
  induction l with
  | nil => intro f fn h; simp [lookF] at h
  | cons x rest ih =>
    intro f fn h
    obtain ⟨i, g⟩ := x
    simp only [lookF] at h
    split at h
    · rename_i e
      rw [Nat.beq_eq] at e
      obtain rfl := Option.some.inj h
      subst e; simp
    · exact List.mem_cons_of_mem _ (ih f fn h)
set_option maxRecDepth 100000 in
theorem tbl_has : ∀ x ∈ tbl, Tryd.prog.funcs[x.1]? = some x.2 := by
  unfold tbl
  simp only [List.forall_mem_cons]
  exact ⟨Tryd.func2, Tryd.func3, Tryd.func4, Tryd.func5, Tryd.func6, Tryd.func7, Tryd.func8, Tryd.func9, Tryd.func10, Tryd.func11, Tryd.func12, Tryd.func13, Tryd.func14, Tryd.func15, Tryd.func16, Tryd.func17, Tryd.func18, Tryd.func19, Tryd.func20, Tryd.func21, Tryd.func22, Tryd.func23, Tryd.func24, Tryd.func25, Tryd.func26, Tryd.func27, Tryd.func28, Tryd.func29, Tryd.func30, Tryd.func31, Tryd.func32, Tryd.func33, Tryd.func34, Tryd.func35, Tryd.func36, Tryd.func37, Tryd.func38, Tryd.func39, Tryd.func40, Tryd.func41, Tryd.func42, Tryd.func43, Tryd.func44, Tryd.func45, Tryd.func46, Tryd.func47, Tryd.func48, Tryd.func49, Tryd.func50, Tryd.func51, Tryd.func52, Tryd.func53, Tryd.func54, Tryd.func55, Tryd.func56, Tryd.func57, Tryd.func58, Tryd.func59, Tryd.func60, Tryd.func61, Tryd.func62, Tryd.func63, Tryd.func64, Tryd.func65, Tryd.func66, Tryd.func67, Tryd.func68, Tryd.func69, Tryd.func71, Tryd.func72, Tryd.func73, Tryd.func74, Tryd.func75, Tryd.func76, Tryd.func77, Tryd.func78, Tryd.func79, Tryd.func80, Tryd.func81, Tryd.func83, Tryd.func84, Tryd.func85, Tryd.func86, Tryd.func87, Tryd.func116, fun x h => by cases h⟩
theorem tbl_code : tbl.all (fun x => match x.2.body with | some c => codeOk 8 x.2.ntmps c | none => false) = true := by kernel_rfl
theorem tbl_name : tbl.all (fun x => x.2.name != "runtime.NumGoroutine") = true := by kernel_rfl
theorem zeros : Tryd.prog.types.toList.all (fun i => match i.zero with | some z => zflat z | none => true) = true := by kernel_rfl
set_option maxRecDepth 100000 in
theorem table : Table Tryd.prog 8 enters FT where
  has f fn h := tbl_has (f, fn) (lookF_mem tbl f fn h)
  code f fn c h hb := by
    have := List.all_eq_true.1 tbl_code (f, fn) (lookF_mem tbl f fn h)
    dsimp only at this
    rw [hb] at this
    exact this
theorem enter_run {P : Program} {f : FuncId} {fn : Func} (hP : P.funcs[f]? = some fn) (hb : fn.body ≠ none) (hn : fn.name ≠ "runtime.NumGoroutine") (args : Array Value) (w : World) : (callFunc f args).run P w = .ok (.enter f args) w := by
  simp [callFunc, go_sem, hP, hb, hn]
set_option maxRecDepth 100000 in
theorem entersOk : Enters Tryd.prog enters := by
  intro f
  refine ⟨fun hf args w => ?_, fun hf x w => ?_, fun g hf l v hv => ?_, fun hf args w => ?_, fun t hf => ?_⟩
  · unfold enters at hf
    split at hf
    · rename_i fn hfn
      have hm := lookF_mem tbl f fn hfn
      have hP := tbl_has _ hm
      have hn := List.all_eq_true.1 tbl_name _ hm
      have hc := List.all_eq_true.1 tbl_code _ hm
      dsimp only at hP hn hc
      have hb : fn.body ≠ none := by
        intro h; rw [h] at hc; cases hc
      have hn' : fn.name ≠ "runtime.NumGoroutine" := by simpa using hn
      exact enter_run hP hb hn' args w
    · split at hf
      · rename_i hq
        cases hf
      · cases hf
  · unfold enters at hf
    split at hf
    · cases hf
    · split at hf
      · rename_i hq
        cases hf
      · cases hf
  · unfold enters at hf
    split at hf
    · cases hf
    · split at hf
      · rename_i hq
        rw [Nat.beq_eq] at hq
        subst hq
        cases hf
        exact idxB_ok (run_callFunc_extern Tryd.func82 (by kernel_rfl) (by kernel_rfl) (by kernel_rfl) (e := Extern.BytealgIndexByte.indexByte) (by kernel_rfl)) l v hv
      · cases hf
  · unfold enters at hf
    split at hf
    · cases hf
    · split at hf
      · rename_i hq
        cases hf
      · cases hf
  · unfold enters at hf
    split at hf
    · cases hf
    · split at hf
      · rename_i hq
        cases hf
      · cases hf
theorem zerosOk : ZF Tryd.prog := zf_of zeros
/-- The calls. -/
noncomputable def runs (sp : CallF) (d : Nat) : CallF := callA Tryd.prog enters FT sp (drawA Tryd.prog enters) 1000 d
theorem runs_sound {sp : CallF} (hS : CallSound Tryd.prog 8 sp) (d : Nat) : CallSound Tryd.prog 8 (runs sp d) :=
  callA_sound entersOk zerosOk table hS (fun _ h => drawA_sound entersOk zerosOk h) 1000 d
noncomputable def run (d : Nat) : CallF := runs (memoA []) d
theorem run_sound (d : Nat) : CallSound Tryd.prog 8 (run d) := runs_sound (memoA_sound [] (fun x h => by cases h)) d
noncomputable def tbl0 : List (Nat × Func) := [(2, Tryd.f2), (3, Tryd.f3), (4, Tryd.f4), (5, Tryd.f5), (6, Tryd.f6), (7, Tryd.f7), (8, Tryd.f8), (9, Tryd.f9), (10, Tryd.f10), (11, Tryd.f11), (12, Tryd.f12), (13, Tryd.f13), (14, Tryd.f14), (15, Tryd.f15), (16, Tryd.f16), (17, Tryd.f17), (18, Tryd.f18), (19, Tryd.f19), (20, Tryd.f20), (21, Tryd.f21), (22, Tryd.f22), (23, Tryd.f23), (24, Tryd.f24), (25, Tryd.f25), (26, Tryd.f26)]
theorem plan0 : tbl0.all (fun x => match x.2.body with | some c => plansOk Tryd.prog c | none => false) = true := by kernel_rfl
noncomputable def tbl1 : List (Nat × Func) := [(27, Tryd.f27), (28, Tryd.f28), (29, Tryd.f29), (30, Tryd.f30), (31, Tryd.f31), (32, Tryd.f32), (33, Tryd.f33), (34, Tryd.f34), (35, Tryd.f35), (36, Tryd.f36), (37, Tryd.f37), (38, Tryd.f38), (39, Tryd.f39), (40, Tryd.f40), (41, Tryd.f41), (42, Tryd.f42), (43, Tryd.f43), (44, Tryd.f44), (45, Tryd.f45), (46, Tryd.f46), (47, Tryd.f47), (48, Tryd.f48), (49, Tryd.f49), (50, Tryd.f50), (51, Tryd.f51)]
theorem plan1 : tbl1.all (fun x => match x.2.body with | some c => plansOk Tryd.prog c | none => false) = true := by kernel_rfl
noncomputable def tbl2 : List (Nat × Func) := [(52, Tryd.f52), (53, Tryd.f53), (54, Tryd.f54), (55, Tryd.f55), (56, Tryd.f56), (57, Tryd.f57), (58, Tryd.f58), (59, Tryd.f59), (60, Tryd.f60), (61, Tryd.f61), (62, Tryd.f62), (63, Tryd.f63), (64, Tryd.f64), (65, Tryd.f65), (66, Tryd.f66), (67, Tryd.f67), (68, Tryd.f68), (69, Tryd.f69), (71, Tryd.f71), (72, Tryd.f72), (73, Tryd.f73), (74, Tryd.f74), (75, Tryd.f75), (76, Tryd.f76), (77, Tryd.f77)]
theorem plan2 : tbl2.all (fun x => match x.2.body with | some c => plansOk Tryd.prog c | none => false) = true := by kernel_rfl
noncomputable def tbl3 : List (Nat × Func) := [(78, Tryd.f78), (79, Tryd.f79), (80, Tryd.f80), (81, Tryd.f81), (83, Tryd.f83), (84, Tryd.f84), (85, Tryd.f85), (86, Tryd.f86), (87, Tryd.f87), (116, Tryd.f116)]
theorem plan3 : tbl3.all (fun x => match x.2.body with | some c => plansOk Tryd.prog c | none => false) = true := by kernel_rfl
set_option maxRecDepth 100000 in
theorem tbl_parts : tbl = tbl0 ++ tbl1 ++ tbl2 ++ tbl3 := rfl
theorem plans : ∀ f fn c, FT f = some fn → fn.body = some c → plansOk Tryd.prog c = true := by
  intro f fn c h hb
  have hm := lookF_mem tbl f fn h
  have key : ∀ x ∈ tbl, (match x.2.body with | some c => plansOk Tryd.prog c | none => false) = true := by
    rw [tbl_parts]
    intro x hx
    simp only [List.mem_append] at hx
    rcases hx with (((hx | hx) | hx) | hx)
    · exact List.all_eq_true.1 plan0 x hx
    · exact List.all_eq_true.1 plan1 x hx
    · exact List.all_eq_true.1 plan2 x hx
    · exact List.all_eq_true.1 plan3 x hx
  have := key (f, fn) hm
  dsimp only at this
  rw [hb] at this
  exact this
noncomputable def quickB (sp : Known) (d : Nat) : CallB := callB Tryd.prog enters FT sp (drawB Tryd.prog enters) 1048576 d
theorem quickB_sound {sp : Known} (hS : CallSound Tryd.prog 8 sp.call) (d : Nat) : CallSound Tryd.prog 8 (callOf (quickB sp d)) :=
  callB_sound entersOk zerosOk table hS plans (fun _ h => drawB_sound entersOk zerosOk h) 1048576 d
noncomputable def quick (d : Nat) : CallF := callOf (quickB noneK d)
theorem quick_sound (d : Nat) : CallSound Tryd.prog 8 (quick d) := quickB_sound noneK_sound d
/-- The same, with functions that defer calls and that range over functions: so many layers of them. -/
noncomputable def rich (n : Nat) : CallB := layerP Tryd.prog 8 FT enters 1048576 40 n
noncomputable def richKn (n : Nat) : Known := richP Tryd.prog 8 FT enters (rich n) (drawB Tryd.prog enters (rich n)) 1048576 40
theorem rich_sound (n : Nat) : CallSound Tryd.prog 8 (callOf (rich n)) := layerP_sound entersOk zerosOk table plans 1048576 40 n
theorem richKn_sound (n : Nat) : CallSound Tryd.prog 8 (richKn n).call := richP_sound entersOk zerosOk (rich_sound n) (drawB_sound entersOk zerosOk (rich_sound n)) table plans
/-- The layers over what is known. -/
noncomputable def richQ (sp : Known) (n : Nat) : CallB := layerQ Tryd.prog 8 FT enters sp 1048576 40 n
theorem richQ_sound {sp : Known} (hS : CallSound Tryd.prog 8 sp.call) (n : Nat) : CallSound Tryd.prog 8 (callOf (richQ sp n)) := layerQ_sound entersOk zerosOk table plans hS 1048576 40 n
/-- A memory in which no global lives. -/
def bare : AHeap := ⟨.leaf, 8 + 8, 1099511627776⟩
end Go.Proofs.YtbkgnlcjnimpcaaDoor
