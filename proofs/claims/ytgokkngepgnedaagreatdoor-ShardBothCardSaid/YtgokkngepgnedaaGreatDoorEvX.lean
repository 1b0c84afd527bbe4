-- THE EVALUATOR LAID OVER THIS SEAT's PROGRAM. PRINTED BY wip/ab/gen.py.
import Derived.Test.YtgokkngepgnedaaGreatDoorEvI
import Derived.Test.YtgokkngepgnedaaGreatDoorProg
import Derived.KernelRfl
import Derived.Laws.Externs
namespace Go.Proofs.YtgokkngepgnedaaGreatDoor
open Go Go.Ab
noncomputable def tbl : List (Nat × Func) := [(2, Tryz.f2), (3, Tryz.f3), (4, Tryz.f4), (5, Tryz.f5), (6, Tryz.f6), (7, Tryz.f7), (8, Tryz.f8), (9, Tryz.f9), (10, Tryz.f10), (11, Tryz.f11), (12, Tryz.f12), (13, Tryz.f13), (14, Tryz.f14), (15, Tryz.f15), (16, Tryz.f16), (17, Tryz.f17), (18, Tryz.f18), (19, Tryz.f19), (20, Tryz.f20), (21, Tryz.f21), (22, Tryz.f22), (23, Tryz.f23), (24, Tryz.f24), (25, Tryz.f25), (26, Tryz.f26), (27, Tryz.f27), (28, Tryz.f28), (29, Tryz.f29), (30, Tryz.f30), (31, Tryz.f31), (32, Tryz.f32), (33, Tryz.f33), (34, Tryz.f34), (35, Tryz.f35), (36, Tryz.f36), (37, Tryz.f37), (38, Tryz.f38), (39, Tryz.f39), (40, Tryz.f40), (41, Tryz.f41), (42, Tryz.f42), (43, Tryz.f43), (44, Tryz.f44), (45, Tryz.f45), (46, Tryz.f46), (47, Tryz.f47), (48, Tryz.f48), (49, Tryz.f49), (50, Tryz.f50), (51, Tryz.f51), (52, Tryz.f52), (53, Tryz.f53), (54, Tryz.f54), (55, Tryz.f55), (56, Tryz.f56), (57, Tryz.f57), (58, Tryz.f58), (59, Tryz.f59), (60, Tryz.f60), (61, Tryz.f61), (62, Tryz.f62), (63, Tryz.f63), (64, Tryz.f64), (65, Tryz.f65), (66, Tryz.f66), (67, Tryz.f67), (68, Tryz.f68), (69, Tryz.f69), (70, Tryz.f70), (71, Tryz.f71), (72, Tryz.f72), (73, Tryz.f73), (74, Tryz.f74), (75, Tryz.f75), (76, Tryz.f76), (77, Tryz.f77), (78, Tryz.f78), (79, Tryz.f79), (80, Tryz.f80), (82, Tryz.f82), (83, Tryz.f83), (84, Tryz.f84), (85, Tryz.f85), (86, Tryz.f86), (87, Tryz.f87), (88, Tryz.f88), (89, Tryz.f89), (90, Tryz.f90), (91, Tryz.f91), (92, Tryz.f92), (93, Tryz.f93), (94, Tryz.f94), (95, Tryz.f95), (96, Tryz.f96), (97, Tryz.f97), (98, Tryz.f98), (99, Tryz.f99), (100, Tryz.f100), (101, Tryz.f101), (102, Tryz.f102), (103, Tryz.f103), (104, Tryz.f104), (105, Tryz.f105), (106, Tryz.f106), (107, Tryz.f107), (108, Tryz.f108), (109, Tryz.f109), (110, Tryz.f110), (111, Tryz.f111), (112, Tryz.f112), (113, Tryz.f113), (114, Tryz.f114), (115, Tryz.f115), (116, Tryz.f116), (117, Tryz.f117), (118, Tryz.f118), (119, Tryz.f119), (120, Tryz.f120), (121, Tryz.f121), (122, Tryz.f122), (123, Tryz.f123), (124, Tryz.f124), (125, Tryz.f125), (126, Tryz.f126), (127, Tryz.f127), (128, Tryz.f128), (129, Tryz.f129), (130, Tryz.f130), (131, Tryz.f131), (132, Tryz.f132), (133, Tryz.f133), (134, Tryz.f134), (135, Tryz.f135), (136, Tryz.f136), (137, Tryz.f137), (138, Tryz.f138), (139, Tryz.f139), (140, Tryz.f140), (141, Tryz.f141), (142, Tryz.f142), (143, Tryz.f143), (144, Tryz.f144), (145, Tryz.f145), (146, Tryz.f146), (147, Tryz.f147), (148, Tryz.f148), (149, Tryz.f149), (150, Tryz.f150), (151, Tryz.f151), (152, Tryz.f152), (153, Tryz.f153), (154, Tryz.f154), (155, Tryz.f155), (156, Tryz.f156), (157, Tryz.f157), (158, Tryz.f158), (159, Tryz.f159), (160, Tryz.f160), (161, Tryz.f161), (162, Tryz.f162), (163, Tryz.f163), (164, Tryz.f164), (165, Tryz.f165), (166, Tryz.f166), (167, Tryz.f167), (168, Tryz.f168), (169, Tryz.f169), (170, Tryz.f170), (171, Tryz.f171), (172, Tryz.f172), (173, Tryz.f173), (174, Tryz.f174), (175, Tryz.f175), (176, Tryz.f176), (178, Tryz.f178), (179, Tryz.f179), (180, Tryz.f180), (181, Tryz.f181), (182, Tryz.f182), (183, Tryz.f183), (184, Tryz.f184), (185, Tryz.f185), (186, Tryz.f186), (210, Tryz.f210)]
def lookF : List (Nat × Func) → Nat → Option Func
  | [], _ => none
  | (i, fn) :: rest, f => if Nat.beq i f then some fn else lookF rest f
noncomputable def FT : FuncId → Option Func := lookF tbl
noncomputable def enters : FuncId → FKind := fun f => match FT f with
  | some _ => .enter
  | none => if Nat.beq f 177 then .pass else if Nat.beq f 81 then .clone else .other
theorem lookF_mem : ∀ (l : List (Nat × Func)) (f : Nat) (fn : Func), lookF l f = some fn → (f, fn) ∈ l := by
  intro l
  induction l with
  | nil => intro f fn h; simp [lookF] at h
  | cons x rest ih =>
    intro f fn h
    obtain ⟨i, g⟩ := x
    simp only [lookF] at h
    split at h
    · rename_i e
      rw [Nat.beq_eq] at e
      obtain rfl := Option.some.inj h
      subst e; simp
    · exact List.mem_cons_of_mem _ (ih f fn h)
set_option maxRecDepth 100000 in
theorem tbl_has : ∀ x ∈ tbl, Tryz.prog.funcs[x.1]? = some x.2 := by
  unfold tbl
  simp only [List.forall_mem_cons]
  exact ⟨Tryz.func2, Tryz.func3, Tryz.func4, Tryz.func5, Tryz.func6, Tryz.func7, Tryz.func8, Tryz.func9, Tryz.func10, Tryz.func11, Tryz.func12, Tryz.func13, Tryz.func14, Tryz.func15, Tryz.func16, Tryz.func17, Tryz.func18, Tryz.func19, Tryz.func20, Tryz.func21, Tryz.func22, Tryz.func23, Tryz.func24, Tryz.func25, Tryz.func26, Tryz.func27, Tryz.func28, Tryz.func29, Tryz.func30, Tryz.func31, Tryz.func32, Tryz.func33, Tryz.func34, Tryz.func35, Tryz.func36, Tryz.func37, Tryz.func38, Tryz.func39, Tryz.func40, Tryz.func41, Tryz.func42, Tryz.func43, Tryz.func44, Tryz.func45, Tryz.func46, Tryz.func47, Tryz.func48, Tryz.func49, Tryz.func50, Tryz.func51, Tryz.func52, Tryz.func53, Tryz.func54, Tryz.func55, Tryz.func56, Tryz.func57, Tryz.func58, Tryz.func59, Tryz.func60, Tryz.func61, Tryz.func62, Tryz.func63, Tryz.func64, Tryz.func65, Tryz.func66, Tryz.func67, Tryz.func68, Tryz.func69, Tryz.func70, Tryz.func71, Tryz.func72, Tryz.func73, Tryz.func74, Tryz.func75, Tryz.func76, Tryz.func77, Tryz.func78, Tryz.func79, Tryz.func80, Tryz.func82, Tryz.func83, Tryz.func84, Tryz.func85, Tryz.func86, Tryz.func87, Tryz.func88, Tryz.func89, Tryz.func90, Tryz.func91, Tryz.func92, Tryz.func93, Tryz.func94, Tryz.func95, Tryz.func96, Tryz.func97, Tryz.func98, Tryz.func99, Tryz.func100, Tryz.func101, Tryz.func102, Tryz.func103, Tryz.func104, Tryz.func105, Tryz.func106, Tryz.func107, Tryz.func108, Tryz.func109, Tryz.func110, Tryz.func111, Tryz.func112, Tryz.func113, Tryz.func114, Tryz.func115, Tryz.func116, Tryz.func117, Tryz.func118, Tryz.func119, Tryz.func120, Tryz.func121, Tryz.func122, Tryz.func123, Tryz.func124, Tryz.func125, Tryz.func126, Tryz.func127, Tryz.func128, Tryz.func129, Tryz.func130, Tryz.func131, Tryz.func132, Tryz.func133, Tryz.func134, Tryz.func135, Tryz.func136, Tryz.func137, Tryz.func138, Tryz.func139, Tryz.func140, Tryz.func141, Tryz.func142, Tryz.func143, Tryz.func144, Tryz.func145, Tryz.func146, Tryz.func147, Tryz.func148, Tryz.func149, Tryz.func150, Tryz.func151, Tryz.func152, Tryz.func153, Tryz.func154, Tryz.func155, Tryz.func156, Tryz.func157, Tryz.func158, Tryz.func159, Tryz.func160, Tryz.func161, Tryz.func162, Tryz.func163, Tryz.func164, Tryz.func165, Tryz.func166, Tryz.func167, Tryz.func168, Tryz.func169, Tryz.func170, Tryz.func171, Tryz.func172, Tryz.func173, Tryz.func174, Tryz.func175, Tryz.func176, Tryz.func178, Tryz.func179, Tryz.func180, Tryz.func181, Tryz.func182, Tryz.func183, Tryz.func184, Tryz.func185, Tryz.func186, Tryz.func210, fun x h => by cases h⟩
theorem tbl_code : tbl.all (fun x => match x.2.body with | some c => codeOk 2 x.2.ntmps c | none => false) = true := by kernel_rfl
theorem tbl_name : tbl.all (fun x => x.2.name != "runtime.NumGoroutine") = true := by kernel_rfl
theorem zeros : Tryz.prog.types.toList.all (fun i => match i.zero with | some z => zflat z | none => true) = true := by kernel_rfl
set_option maxRecDepth 100000 in
theorem table : Table Tryz.prog 2 enters FT where
  has f fn h := tbl_has (f, fn) (lookF_mem tbl f fn h)
  code f fn c h hb := by
    have := List.all_eq_true.1 tbl_code (f, fn) (lookF_mem tbl f fn h)
    dsimp only at this
    rw [hb] at this
    exact this
theorem enter_run {P : Program} {f : FuncId} {fn : Func} (hP : P.funcs[f]? = some fn) (hb : fn.body ≠ none) (hn : fn.name ≠ "runtime.NumGoroutine") (args : Array Value) (w : World) : (callFunc f args).run P w = .ok (.enter f args) w := by
  simp [callFunc, go_sem, hP, hb, hn]
set_option maxRecDepth 100000 in
theorem entersOk : Enters Tryz.prog enters := by
  intro f
  refine ⟨fun hf args w => ?_, fun hf x w => ?_, fun g hf l v hv => ?_, fun hf args w => ?_, fun t hf => ?_⟩
  · unfold enters at hf
    split at hf
    · rename_i fn hfn
      have hm := lookF_mem tbl f fn hfn
      have hP := tbl_has _ hm
      have hn := List.all_eq_true.1 tbl_name _ hm
      have hc := List.all_eq_true.1 tbl_code _ hm
      dsimp only at hP hn hc
      have hb : fn.body ≠ none := by
        intro h; rw [h] at hc; cases hc
      have hn' : fn.name ≠ "runtime.NumGoroutine" := by simpa using hn
      exact enter_run hP hb hn' args w
    · split at hf
      · rename_i hq
        cases hf
      · split at hf
        · rename_i hq
          cases hf
        · cases hf
  · unfold enters at hf
    split at hf
    · cases hf
    · split at hf
      · rename_i hq
        rw [Nat.beq_eq] at hq
        subst hq
        rw [run_callFunc_extern Tryz.func177 (by kernel_rfl) (by kernel_rfl) (by kernel_rfl) (e := Extern.AbiNoEscape.same) (by kernel_rfl)]
        rfl
      · split at hf
        · rename_i hq
          cases hf
        · cases hf
  · unfold enters at hf
    split at hf
    · cases hf
    · split at hf
      · rename_i hq
        cases hf
      · split at hf
        · rename_i hq
          cases hf
        · cases hf
  · unfold enters at hf
    split at hf
    · cases hf
    · split at hf
      · rename_i hq
        cases hf
      · split at hf
        · rename_i hq
          rw [Nat.beq_eq] at hq
          subst hq
          exact (run_callFunc_extern Tryz.func81 (by kernel_rfl) (by kernel_rfl) (by kernel_rfl) (e := Extern.MapsClone.clone) (by kernel_rfl) args w).trans (by rw [Sem.run_bind]; rfl)
        · cases hf
  · unfold enters at hf
    split at hf
    · cases hf
    · split at hf
      · rename_i hq
        cases hf
      · split at hf
        · rename_i hq
          cases hf
        · cases hf
theorem zerosOk : ZF Tryz.prog := zf_of zeros
/-- The calls. -/
noncomputable def runs (sp : CallF) (d : Nat) : CallF := callA Tryz.prog enters FT sp (drawA Tryz.prog enters) 1000 d
theorem runs_sound {sp : CallF} (hS : CallSound Tryz.prog 2 sp) (d : Nat) : CallSound Tryz.prog 2 (runs sp d) :=
  callA_sound entersOk zerosOk table hS (fun _ h => drawA_sound entersOk zerosOk h) 1000 d
noncomputable def run (d : Nat) : CallF := runs (memoA []) d
theorem run_sound (d : Nat) : CallSound Tryz.prog 2 (run d) := runs_sound (memoA_sound [] (fun x h => by cases h)) d
noncomputable def tbl0 : List (Nat × Func) := [(2, Tryz.f2), (3, Tryz.f3), (4, Tryz.f4), (5, Tryz.f5), (6, Tryz.f6), (7, Tryz.f7), (8, Tryz.f8), (9, Tryz.f9), (10, Tryz.f10), (11, Tryz.f11), (12, Tryz.f12), (13, Tryz.f13), (14, Tryz.f14), (15, Tryz.f15), (16, Tryz.f16), (17, Tryz.f17), (18, Tryz.f18), (19, Tryz.f19), (20, Tryz.f20), (21, Tryz.f21), (22, Tryz.f22), (23, Tryz.f23), (24, Tryz.f24), (25, Tryz.f25), (26, Tryz.f26)]
theorem plan0 : tbl0.all (fun x => match x.2.body with | some c => plansOk Tryz.prog c | none => false) = true := by kernel_rfl
noncomputable def tbl1 : List (Nat × Func) := [(27, Tryz.f27), (28, Tryz.f28), (29, Tryz.f29), (30, Tryz.f30), (31, Tryz.f31), (32, Tryz.f32), (33, Tryz.f33), (34, Tryz.f34), (35, Tryz.f35), (36, Tryz.f36), (37, Tryz.f37), (38, Tryz.f38), (39, Tryz.f39), (40, Tryz.f40), (41, Tryz.f41), (42, Tryz.f42), (43, Tryz.f43), (44, Tryz.f44), (45, Tryz.f45), (46, Tryz.f46), (47, Tryz.f47), (48, Tryz.f48), (49, Tryz.f49), (50, Tryz.f50), (51, Tryz.f51)]
theorem plan1 : tbl1.all (fun x => match x.2.body with | some c => plansOk Tryz.prog c | none => false) = true := by kernel_rfl
noncomputable def tbl2 : List (Nat × Func) := [(52, Tryz.f52), (53, Tryz.f53), (54, Tryz.f54), (55, Tryz.f55), (56, Tryz.f56), (57, Tryz.f57), (58, Tryz.f58), (59, Tryz.f59), (60, Tryz.f60), (61, Tryz.f61), (62, Tryz.f62), (63, Tryz.f63), (64, Tryz.f64), (65, Tryz.f65), (66, Tryz.f66), (67, Tryz.f67), (68, Tryz.f68), (69, Tryz.f69), (70, Tryz.f70), (71, Tryz.f71), (72, Tryz.f72), (73, Tryz.f73), (74, Tryz.f74), (75, Tryz.f75), (76, Tryz.f76)]
theorem plan2 : tbl2.all (fun x => match x.2.body with | some c => plansOk Tryz.prog c | none => false) = true := by kernel_rfl
noncomputable def tbl3 : List (Nat × Func) := [(77, Tryz.f77), (78, Tryz.f78), (79, Tryz.f79), (80, Tryz.f80), (82, Tryz.f82), (83, Tryz.f83), (84, Tryz.f84), (85, Tryz.f85), (86, Tryz.f86), (87, Tryz.f87), (88, Tryz.f88), (89, Tryz.f89), (90, Tryz.f90), (91, Tryz.f91), (92, Tryz.f92), (93, Tryz.f93), (94, Tryz.f94), (95, Tryz.f95), (96, Tryz.f96), (97, Tryz.f97), (98, Tryz.f98), (99, Tryz.f99), (100, Tryz.f100), (101, Tryz.f101), (102, Tryz.f102)]
theorem plan3 : tbl3.all (fun x => match x.2.body with | some c => plansOk Tryz.prog c | none => false) = true := by kernel_rfl
noncomputable def tbl4 : List (Nat × Func) := [(103, Tryz.f103), (104, Tryz.f104), (105, Tryz.f105), (106, Tryz.f106), (107, Tryz.f107), (108, Tryz.f108), (109, Tryz.f109), (110, Tryz.f110), (111, Tryz.f111), (112, Tryz.f112), (113, Tryz.f113), (114, Tryz.f114), (115, Tryz.f115), (116, Tryz.f116), (117, Tryz.f117), (118, Tryz.f118), (119, Tryz.f119), (120, Tryz.f120), (121, Tryz.f121), (122, Tryz.f122), (123, Tryz.f123), (124, Tryz.f124), (125, Tryz.f125), (126, Tryz.f126), (127, Tryz.f127)]
theorem plan4 : tbl4.all (fun x => match x.2.body with | some c => plansOk Tryz.prog c | none => false) = true := by kernel_rfl
noncomputable def tbl5 : List (Nat × Func) := [(128, Tryz.f128), (129, Tryz.f129), (130, Tryz.f130), (131, Tryz.f131), (132, Tryz.f132), (133, Tryz.f133), (134, Tryz.f134), (135, Tryz.f135), (136, Tryz.f136), (137, Tryz.f137), (138, Tryz.f138), (139, Tryz.f139), (140, Tryz.f140), (141, Tryz.f141), (142, Tryz.f142), (143, Tryz.f143), (144, Tryz.f144), (145, Tryz.f145), (146, Tryz.f146), (147, Tryz.f147), (148, Tryz.f148), (149, Tryz.f149), (150, Tryz.f150), (151, Tryz.f151), (152, Tryz.f152)]
theorem plan5 : tbl5.all (fun x => match x.2.body with | some c => plansOk Tryz.prog c | none => false) = true := by kernel_rfl
noncomputable def tbl6 : List (Nat × Func) := [(153, Tryz.f153), (154, Tryz.f154), (155, Tryz.f155), (156, Tryz.f156), (157, Tryz.f157), (158, Tryz.f158), (159, Tryz.f159), (160, Tryz.f160), (161, Tryz.f161), (162, Tryz.f162), (163, Tryz.f163), (164, Tryz.f164), (165, Tryz.f165), (166, Tryz.f166), (167, Tryz.f167), (168, Tryz.f168), (169, Tryz.f169), (170, Tryz.f170), (171, Tryz.f171), (172, Tryz.f172), (173, Tryz.f173), (174, Tryz.f174), (175, Tryz.f175), (176, Tryz.f176), (178, Tryz.f178)]
theorem plan6 : tbl6.all (fun x => match x.2.body with | some c => plansOk Tryz.prog c | none => false) = true := by kernel_rfl
noncomputable def tbl7 : List (Nat × Func) := [(179, Tryz.f179), (180, Tryz.f180), (181, Tryz.f181), (182, Tryz.f182), (183, Tryz.f183), (184, Tryz.f184), (185, Tryz.f185), (186, Tryz.f186), (210, Tryz.f210)]
theorem plan7 : tbl7.all (fun x => match x.2.body with | some c => plansOk Tryz.prog c | none => false) = true := by kernel_rfl
set_option maxRecDepth 100000 in
theorem tbl_parts : tbl = tbl0 ++ tbl1 ++ tbl2 ++ tbl3 ++ tbl4 ++ tbl5 ++ tbl6 ++ tbl7 := rfl
theorem plans : ∀ f fn c, FT f = some fn → fn.body = some c → plansOk Tryz.prog c = true := by
  intro f fn c h hb
  have hm := lookF_mem tbl f fn h
  have key : ∀ x ∈ tbl, (match x.2.body with | some c => plansOk Tryz.prog c | none => false) = true := by
    rw [tbl_parts]
    intro x hx
    simp only [List.mem_append] at hx
    rcases hx with (((((((hx | hx) | hx) | hx) | hx) | hx) | hx) | hx)
    · exact List.all_eq_true.1 plan0 x hx
    · exact List.all_eq_true.1 plan1 x hx
    · exact List.all_eq_true.1 plan2 x hx
    · exact List.all_eq_true.1 plan3 x hx
    · exact List.all_eq_true.1 plan4 x hx
    · exact List.all_eq_true.1 plan5 x hx
    · exact List.all_eq_true.1 plan6 x hx
    · exact List.all_eq_true.1 plan7 x hx
  have := key (f, fn) hm
  dsimp only at this
  rw [hb] at this
  exact this
noncomputable def quickB (sp : Known) (d : Nat) : CallB := callB Tryz.prog enters FT sp (drawB Tryz.prog enters) 1048576 d
theorem quickB_sound {sp : Known} (hS : CallSound Tryz.prog 2 sp.call) (d : Nat) : CallSound Tryz.prog 2 (callOf (quickB sp d)) :=
  callB_sound entersOk zerosOk table hS plans (fun _ h => drawB_sound entersOk zerosOk h) 1048576 d
noncomputable def quick (d : Nat) : CallF := callOf (quickB noneK d)
theorem quick_sound (d : Nat) : CallSound Tryz.prog 2 (quick d) := quickB_sound noneK_sound d
/-- The same, with functions that defer calls and that range over functions: so many layers of them. -/
noncomputable def rich (n : Nat) : CallB := layerP Tryz.prog 2 FT enters 1048576 40 n
noncomputable def richKn (n : Nat) : Known := richP Tryz.prog 2 FT enters (rich n) (drawB Tryz.prog enters (rich n)) 1048576 40
theorem rich_sound (n : Nat) : CallSound Tryz.prog 2 (callOf (rich n)) := layerP_sound entersOk zerosOk table plans 1048576 40 n
theorem richKn_sound (n : Nat) : CallSound Tryz.prog 2 (richKn n).call := richP_sound entersOk zerosOk (rich_sound n) (drawB_sound entersOk zerosOk (rich_sound n)) table plans
/-- The layers over what is known. -/
noncomputable def richQ (sp : Known) (n : Nat) : CallB := layerQ Tryz.prog 2 FT enters sp 1048576 40 n
theorem richQ_sound {sp : Known} (hS : CallSound Tryz.prog 2 sp.call) (n : Nat) : CallSound Tryz.prog 2 (callOf (richQ sp n)) := layerQ_sound entersOk zerosOk table plans hS 1048576 40 n
/-- A memory in which no global lives. -/
def bare : AHeap := ⟨.leaf, 2 + 8, 1099511627776⟩
end Go.Proofs.YtgokkngepgnedaaGreatDoor
