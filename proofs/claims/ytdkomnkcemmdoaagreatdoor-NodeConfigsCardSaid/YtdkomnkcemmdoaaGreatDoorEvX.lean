-- THE EVALUATOR LAID OVER THIS SEAT's PROGRAM. PRINTED BY wip/ab/gen.py.
import Derived.Test.YtdkomnkcemmdoaaGreatDoorEvI
import Derived.Test.YtdkomnkcemmdoaaGreatDoorProg
import Derived.KernelRfl
import Derived.Laws.Externs
namespace Go.Proofs.YtdkomnkcemmdoaaGreatDoor
open Go Go.Ab
noncomputable def tbl : List (Nat × Func) := [(2, Tryz.f2), (3, Tryz.f3), (4, Tryz.f4), (5, Tryz.f5), (6, Tryz.f6), (7, Tryz.f7), (8, Tryz.f8), (9, Tryz.f9), (10, Tryz.f10), (11, Tryz.f11), (12, Tryz.f12), (13, Tryz.f13), (14, Tryz.f14), (15, Tryz.f15), (16, Tryz.f16), (17, Tryz.f17), (18, Tryz.f18), (19, Tryz.f19), (20, Tryz.f20), (21, Tryz.f21), (22, Tryz.f22), (23, Tryz.f23), (24, Tryz.f24), (25, Tryz.f25), (26, Tryz.f26), (27, Tryz.f27), (28, Tryz.f28), (29, Tryz.f29), (30, Tryz.f30), (31, Tryz.f31), (32, Tryz.f32), (33, Tryz.f33), (34, Tryz.f34), (35, Tryz.f35), (36, Tryz.f36), (37, Tryz.f37), (38, Tryz.f38), (39, Tryz.f39), (40, Tryz.f40), (41, Tryz.f41), (42, Tryz.f42), (43, Tryz.f43), (44, Tryz.f44), (45, Tryz.f45), (46, Tryz.f46), (47, Tryz.f47), (48, Tryz.f48), (49, Tryz.f49), (50, Tryz.f50), (51, Tryz.f51), (52, Tryz.f52), (53, Tryz.f53), (54, Tryz.f54), (55, Tryz.f55), (56, Tryz.f56), (57, Tryz.f57), (58, Tryz.f58), (59, Tryz.f59), (60, Tryz.f60), (61, Tryz.f61), (62, Tryz.f62), (63, Tryz.f63), (64, Tryz.f64), (65, Tryz.f65), (66, Tryz.f66), (67, Tryz.f67), (68, Tryz.f68), (69, Tryz.f69), (70, Tryz.f70), (71, Tryz.f71), (72, Tryz.f72), (73, Tryz.f73), (74, Tryz.f74), (75, Tryz.f75), (76, Tryz.f76), (77, Tryz.f77), (78, Tryz.f78), (79, Tryz.f79), (80, Tryz.f80), (81, Tryz.f81), (82, Tryz.f82), (83, Tryz.f83), (84, Tryz.f84), (85, Tryz.f85), (86, Tryz.f86), (87, Tryz.f87), (88, Tryz.f88), (89, Tryz.f89), (90, Tryz.f90), (91, Tryz.f91), (92, Tryz.f92), (93, Tryz.f93), (94, Tryz.f94), (95, Tryz.f95), (96, Tryz.f96), (97, Tryz.f97), (98, Tryz.f98), (99, Tryz.f99), (100, Tryz.f100), (101, Tryz.f101), (102, Tryz.f102), (103, Tryz.f103), (104, Tryz.f104), (105, Tryz.f105), (106, Tryz.f106), (107, Tryz.f107), (108, Tryz.f108), (109, Tryz.f109), (110, Tryz.f110), (111, Tryz.f111), (112, Tryz.f112), (113, Tryz.f113), (114, Tryz.f114), (115, Tryz.f115), (116, Tryz.f116), (117, Tryz.f117), (118, Tryz.f118), (119, Tryz.f119), (120, Tryz.f120), (121, Tryz.f121), (122, Tryz.f122), (123, Tryz.f123), (124, Tryz.f124), (125, Tryz.f125), (126, Tryz.f126), (127, Tryz.f127), (128, Tryz.f128), (129, Tryz.f129), (130, Tryz.f130), (131, Tryz.f131), (132, Tryz.f132), (133, Tryz.f133), (134, Tryz.f134), (135, Tryz.f135), (136, Tryz.f136), (137, Tryz.f137), (138, Tryz.f138), (139, Tryz.f139), (140, Tryz.f140), (141, Tryz.f141), (142, Tryz.f142), (143, Tryz.f143), (144, Tryz.f144), (145, Tryz.f145), (146, Tryz.f146), (147, Tryz.f147), (148, Tryz.f148), (149, Tryz.f149), (150, Tryz.f150), (151, Tryz.f151), (152, Tryz.f152), (153, Tryz.f153), (154, Tryz.f154), (155, Tryz.f155), (156, Tryz.f156), (157, Tryz.f157), (158, Tryz.f158), (159, Tryz.f159), (160, Tryz.f160), (161, Tryz.f161), (162, Tryz.f162), (163, Tryz.f163), (164, Tryz.f164), (165, Tryz.f165), (166, Tryz.f166), (167, Tryz.f167), (168, Tryz.f168), (169, Tryz.f169), (170, Tryz.f170), (171, Tryz.f171), (172, Tryz.f172), (173, Tryz.f173), (174, Tryz.f174), (175, Tryz.f175), (176, Tryz.f176), (177, Tryz.f177), (178, Tryz.f178), (179, Tryz.f179), (180, Tryz.f180), (181, Tryz.f181), (182, Tryz.f182), (183, Tryz.f183), (184, Tryz.f184), (185, Tryz.f185), (186, Tryz.f186), (187, Tryz.f187), (188, Tryz.f188), (189, Tryz.f189), (190, Tryz.f190), (191, Tryz.f191), (192, Tryz.f192), (193, Tryz.f193), (194, Tryz.f194), (195, Tryz.f195), (196, Tryz.f196), (197, Tryz.f197), (198, Tryz.f198), (199, Tryz.f199), (200, Tryz.f200), (201, Tryz.f201), (202, Tryz.f202), (203, Tryz.f203), (204, Tryz.f204), (205, Tryz.f205), (206, Tryz.f206), (207, Tryz.f207), (208, Tryz.f208), (209, Tryz.f209), (210, Tryz.f210), (211, Tryz.f211), (212, Tryz.f212), (213, Tryz.f213), (214, Tryz.f214), (215, Tryz.f215), (216, Tryz.f216), (217, Tryz.f217), (218, Tryz.f218), (219, Tryz.f219), (220, Tryz.f220), (221, Tryz.f221), (222, Tryz.f222), (223, Tryz.f223), (224, Tryz.f224), (225, Tryz.f225), (226, Tryz.f226), (227, Tryz.f227), (228, Tryz.f228), (229, Tryz.f229), (230, Tryz.f230), (231, Tryz.f231), (232, Tryz.f232), (233, Tryz.f233), (234, Tryz.f234), (235, Tryz.f235), (236, Tryz.f236), (237, Tryz.f237), (238, Tryz.f238), (239, Tryz.f239), (240, Tryz.f240), (241, Tryz.f241), (242, Tryz.f242), (243, Tryz.f243), (244, Tryz.f244), (245, Tryz.f245), (246, Tryz.f246), (247, Tryz.f247), (248, Tryz.f248), (249, Tryz.f249), (250, Tryz.f250), (251, Tryz.f251), (252, Tryz.f252), (253, Tryz.f253), (254, Tryz.f254), (255, Tryz.f255), (256, Tryz.f256), (257, Tryz.f257), (258, Tryz.f258), (259, Tryz.f259), (260, Tryz.f260), (261, Tryz.f261), (262, Tryz.f262), (263, Tryz.f263), (264, Tryz.f264), (265, Tryz.f265), (266, Tryz.f266), (267, Tryz.f267), (269, Tryz.f269), (270, Tryz.f270), (271, Tryz.f271), (272, Tryz.f272), (273, Tryz.f273), (274, Tryz.f274), (275, Tryz.f275), (276, Tryz.f276), (277, Tryz.f277), (278, Tryz.f278), (279, Tryz.f279), (280, Tryz.f280), (281, Tryz.f281), (282, Tryz.f282), (283, Tryz.f283), (285, Tryz.f285), (286, Tryz.f286), (287, Tryz.f287), (288, Tryz.f288), (289, Tryz.f289), (290, Tryz.f290), (291, Tryz.f291), (292, Tryz.f292), (293, Tryz.f293), (294, Tryz.f294), (295, Tryz.f295), (296, Tryz.f296), (297, Tryz.f297), (298, Tryz.f298), (299, Tryz.f299), (300, Tryz.f300), (301, Tryz.f301), (302, Tryz.f302), (303, Tryz.f303), (304, Tryz.f304), (305, Tryz.f305), (306, Tryz.f306), (307, Tryz.f307), (308, Tryz.f308), (309, Tryz.f309), (310, Tryz.f310), (311, Tryz.f311), (312, Tryz.f312), (313, Tryz.f313), (314, Tryz.f314), (315, Tryz.f315), (316, Tryz.f316), (317, Tryz.f317), (318, Tryz.f318), (319, Tryz.f319), (320, Tryz.f320), (321, Tryz.f321), (322, Tryz.f322), (323, Tryz.f323), (339, Tryz.f339), (341, Tryz.f341), (342, Tryz.f342), (343, Tryz.f343), (344, Tryz.f344), (345, Tryz.f345), (346, Tryz.f346), (347, Tryz.f347), (348, Tryz.f348), (350, Tryz.f350), (351, Tryz.f351), (353, Tryz.f353), (354, Tryz.f354), (355, Tryz.f355), (356, Tryz.f356), (357, Tryz.f357), (358, Tryz.f358), (359, Tryz.f359), (360, Tryz.f360), (361, Tryz.f361), (362, Tryz.f362), (363, Tryz.f363), (364, Tryz.f364), (365, Tryz.f365), (366, Tryz.f366), (367, Tryz.f367), (368, Tryz.f368), (369, Tryz.f369), (370, Tryz.f370), (371, Tryz.f371), (372, Tryz.f372), (373, Tryz.f373), (374, Tryz.f374), (375, Tryz.f375), (376, Tryz.f376), (377, Tryz.f377), (378, Tryz.f378), (379, Tryz.f379), (380, Tryz.f380), (381, Tryz.f381), (382, Tryz.f382), (383, Tryz.f383), (384, Tryz.f384), (385, Tryz.f385), (386, Tryz.f386), (387, Tryz.f387), (388, Tryz.f388), (389, Tryz.f389), (390, Tryz.f390), (391, Tryz.f391), (392, Tryz.f392), (393, Tryz.f393), (394, Tryz.f394), (395, Tryz.f395), (396, Tryz.f396), (397, Tryz.f397), (398, Tryz.f398), (399, Tryz.f399), (400, Tryz.f400), (401, Tryz.f401), (402, Tryz.f402), (403, Tryz.f403), (404, Tryz.f404), (405, Tryz.f405), (406, Tryz.f406), (407, Tryz.f407), (408, Tryz.f408), (409, Tryz.f409), (410, Tryz.f410), (411, Tryz.f411), (412, Tryz.f412), (413, Tryz.f413), (414, Tryz.f414), (415, Tryz.f415), (416, Tryz.f416), (417, Tryz.f417), (418, Tryz.f418), (419, Tryz.f419), (420, Tryz.f420), (421, Tryz.f421), (422, Tryz.f422), (423, Tryz.f423), (424, Tryz.f424), (425, Tryz.f425), (426, Tryz.f426), (442, Tryz.f442)]
def lookF : List (Nat × Func) → Nat → Option Func
  | [], _ => none
  | (i, fn) :: rest, f => if Nat.beq i f then some fn else lookF rest f
noncomputable def FT : FuncId → Option Func := lookF tbl
noncomputable def enters : FuncId → FKind := fun f => match FT f with
  | some _ => .enter
  | none => if Nat.beq f 284 then .pass else if Nat.beq f 427 then .clone else if Nat.beq f 268 then .apart 212 else .other
theorem lookF_mem : ∀ (l : List (Nat × Func)) (f : Nat) (fn : Func), lookF l f = some fn → (f, fn) ∈ l := by
  intro l
  induction l with
  | nil => intro f fn h; simp [lookF] at h
  | cons x rest ih =>
    intro f fn h
    obtain ⟨i, g⟩ := x
    simp only [lookF] at h
    split at h
    · rename_i e
      rw [Nat.beq_eq] at e
      obtain rfl := Option.some.inj h
      subst e; simp
    · exact List.mem_cons_of_mem _ (ih f fn h)
set_option maxRecDepth 100000 in
theorem tbl_has : ∀ x ∈ tbl, Tryz.prog.funcs[x.1]? = some x.2 := by
  unfold tbl
  simp only [List.forall_mem_cons]
  exact ⟨Tryz.func2, Tryz.func3, Tryz.func4, Tryz.func5, Tryz.func6, Tryz.func7, Tryz.func8, Tryz.func9, Tryz.func10, Tryz.func11, Tryz.func12, Tryz.func13, Tryz.func14, Tryz.func15, Tryz.func16, Tryz.func17, Tryz.func18, Tryz.func19, Tryz.func20, Tryz.func21, Tryz.func22, Tryz.func23, Tryz.func24, Tryz.func25, Tryz.func26, Tryz.func27, Tryz.func28, Tryz.func29, Tryz.func30, Tryz.func31, Tryz.func32, Tryz.func33, Tryz.func34, Tryz.func35, Tryz.func36, Tryz.func37, Tryz.func38, Tryz.func39, Tryz.func40, Tryz.func41, Tryz.func42, Tryz.func43, Tryz.func44, Tryz.func45, Tryz.func46, Tryz.func47, Tryz.func48, Tryz.func49, Tryz.func50, Tryz.func51, Tryz.func52, Tryz.func53, Tryz.func54, Tryz.func55, Tryz.func56, Tryz.func57, Tryz.func58, Tryz.func59, Tryz.func60, Tryz.func61, Tryz.func62, Tryz.func63, Tryz.func64, Tryz.func65, Tryz.func66, Tryz.func67, Tryz.func68, Tryz.func69, Tryz.func70, Tryz.func71, Tryz.func72, Tryz.func73, Tryz.func74, Tryz.func75, Tryz.func76, Tryz.func77, Tryz.func78, Tryz.func79, Tryz.func80, Tryz.func81, Tryz.func82, Tryz.func83, Tryz.func84, Tryz.func85, Tryz.func86, Tryz.func87, Tryz.func88, Tryz.func89, Tryz.func90, Tryz.func91, Tryz.func92, Tryz.func93, Tryz.func94, Tryz.func95, Tryz.func96, Tryz.func97, Tryz.func98, Tryz.func99, Tryz.func100, Tryz.func101, Tryz.func102, Tryz.func103, Tryz.func104, Tryz.func105, Tryz.func106, Tryz.func107, Tryz.func108, Tryz.func109, Tryz.func110, Tryz.func111, Tryz.func112, Tryz.func113, Tryz.func114, Tryz.func115, Tryz.func116, Tryz.func117, Tryz.func118, Tryz.func119, Tryz.func120, Tryz.func121, Tryz.func122, Tryz.func123, Tryz.func124, Tryz.func125, Tryz.func126, Tryz.func127, Tryz.func128, Tryz.func129, Tryz.func130, Tryz.func131, Tryz.func132, Tryz.func133, Tryz.func134, Tryz.func135, Tryz.func136, Tryz.func137, Tryz.func138, Tryz.func139, Tryz.func140, Tryz.func141, Tryz.func142, Tryz.func143, Tryz.func144, Tryz.func145, Tryz.func146, Tryz.func147, Tryz.func148, Tryz.func149, Tryz.func150, Tryz.func151, Tryz.func152, Tryz.func153, Tryz.func154, Tryz.func155, Tryz.func156, Tryz.func157, Tryz.func158, Tryz.func159, Tryz.func160, Tryz.func161, Tryz.func162, Tryz.func163, Tryz.func164, Tryz.func165, Tryz.func166, Tryz.func167, Tryz.func168, Tryz.func169, Tryz.func170, Tryz.func171, Tryz.func172, Tryz.func173, Tryz.func174, Tryz.func175, Tryz.func176, Tryz.func177, Tryz.func178, Tryz.func179, Tryz.func180, Tryz.func181, Tryz.func182, Tryz.func183, Tryz.func184, Tryz.func185, Tryz.func186, Tryz.func187, Tryz.func188, Tryz.func189, Tryz.func190, Tryz.func191, Tryz.func192, Tryz.func193, Tryz.func194, Tryz.func195, Tryz.func196, Tryz.func197, Tryz.func198, Tryz.func199, Tryz.func200, Tryz.func201, Tryz.func202, Tryz.func203, Tryz.func204, Tryz.func205, Tryz.func206, Tryz.func207, Tryz.func208, Tryz.func209, Tryz.func210, Tryz.func211, Tryz.func212, Tryz.func213, Tryz.func214, Tryz.func215, Tryz.func216, Tryz.func217, Tryz.func218, Tryz.func219, Tryz.func220, Tryz.func221, Tryz.func222, Tryz.func223, Tryz.func224, Tryz.func225, Tryz.func226, Tryz.func227, Tryz.func228, Tryz.func229, Tryz.func230, Tryz.func231, Tryz.func232, Tryz.func233, Tryz.func234, Tryz.func235, Tryz.func236, Tryz.func237, Tryz.func238, Tryz.func239, Tryz.func240, Tryz.func241, Tryz.func242, Tryz.func243, Tryz.func244, Tryz.func245, Tryz.func246, Tryz.func247, Tryz.func248, Tryz.func249, Tryz.func250, Tryz.func251, Tryz.func252, Tryz.func253, Tryz.func254, Tryz.func255, Tryz.func256, Tryz.func257, Tryz.func258, Tryz.func259, Tryz.func260, Tryz.func261, Tryz.func262, Tryz.func263, Tryz.func264, Tryz.func265, Tryz.func266, Tryz.func267, Tryz.func269, Tryz.func270, Tryz.func271, Tryz.func272, Tryz.func273, Tryz.func274, Tryz.func275, Tryz.func276, Tryz.func277, Tryz.func278, Tryz.func279, Tryz.func280, Tryz.func281, Tryz.func282, Tryz.func283, Tryz.func285, Tryz.func286, Tryz.func287, Tryz.func288, Tryz.func289, Tryz.func290, Tryz.func291, Tryz.func292, Tryz.func293, Tryz.func294, Tryz.func295, Tryz.func296, Tryz.func297, Tryz.func298, Tryz.func299, Tryz.func300, Tryz.func301, Tryz.func302, Tryz.func303, Tryz.func304, Tryz.func305, Tryz.func306, Tryz.func307, Tryz.func308, Tryz.func309, Tryz.func310, Tryz.func311, Tryz.func312, Tryz.func313, Tryz.func314, Tryz.func315, Tryz.func316, Tryz.func317, Tryz.func318, Tryz.func319, Tryz.func320, Tryz.func321, Tryz.func322, Tryz.func323, Tryz.func339, Tryz.func341, Tryz.func342, Tryz.func343, Tryz.func344, Tryz.func345, Tryz.func346, Tryz.func347, Tryz.func348, Tryz.func350, Tryz.func351, Tryz.func353, Tryz.func354, Tryz.func355, Tryz.func356, Tryz.func357, Tryz.func358, Tryz.func359, Tryz.func360, Tryz.func361, Tryz.func362, Tryz.func363, Tryz.func364, Tryz.func365, Tryz.func366, Tryz.func367, Tryz.func368, Tryz.func369, Tryz.func370, Tryz.func371, Tryz.func372, Tryz.func373, Tryz.func374, Tryz.func375, Tryz.func376, Tryz.func377, Tryz.func378, Tryz.func379, Tryz.func380, Tryz.func381, Tryz.func382, Tryz.func383, Tryz.func384, Tryz.func385, Tryz.func386, Tryz.func387, Tryz.func388, Tryz.func389, Tryz.func390, Tryz.func391, Tryz.func392, Tryz.func393, Tryz.func394, Tryz.func395, Tryz.func396, Tryz.func397, Tryz.func398, Tryz.func399, Tryz.func400, Tryz.func401, Tryz.func402, Tryz.func403, Tryz.func404, Tryz.func405, Tryz.func406, Tryz.func407, Tryz.func408, Tryz.func409, Tryz.func410, Tryz.func411, Tryz.func412, Tryz.func413, Tryz.func414, Tryz.func415, Tryz.func416, Tryz.func417, Tryz.func418, Tryz.func419, Tryz.func420, Tryz.func421, Tryz.func422, Tryz.func423, Tryz.func424, Tryz.func425, Tryz.func426, Tryz.func442, fun x h => by cases h⟩
theorem tbl_code : tbl.all (fun x => match x.2.body with | some c => codeOk 7 x.2.ntmps c | none => false) = true := by kernel_rfl
theorem tbl_name : tbl.all (fun x => x.2.name != "runtime.NumGoroutine") = true := by kernel_rfl
theorem zeros : Tryz.prog.types.toList.all (fun i => match i.zero with | some z => zflat z | none => true) = true := by kernel_rfl
set_option maxRecDepth 100000 in
theorem table : Table Tryz.prog 7 enters FT where
  has f fn h := tbl_has (f, fn) (lookF_mem tbl f fn h)
  code f fn c h hb := by
    have := List.all_eq_true.1 tbl_code (f, fn) (lookF_mem tbl f fn h)
    dsimp only at this
    rw [hb] at this
    exact this
theorem enter_run {P : Program} {f : FuncId} {fn : Func} (hP : P.funcs[f]? = some fn) (hb : fn.body ≠ none) (hn : fn.name ≠ "runtime.NumGoroutine") (args : Array Value) (w : World) : (callFunc f args).run P w = .ok (.enter f args) w := by
  simp [callFunc, go_sem, hP, hb, hn]
set_option maxRecDepth 100000 in
theorem entersOk : Enters Tryz.prog enters := by
  intro f
  refine ⟨fun hf args w => ?_, fun hf x w => ?_, fun g hf l v hv => ?_, fun hf args w => ?_, fun t hf => ?_⟩
  · unfold enters at hf
    split at hf
    · rename_i fn hfn
      have hm := lookF_mem tbl f fn hfn
      have hP := tbl_has _ hm
      have hn := List.all_eq_true.1 tbl_name _ hm
      have hc := List.all_eq_true.1 tbl_code _ hm
      dsimp only at hP hn hc
      have hb : fn.body ≠ none := by
        intro h; rw [h] at hc; cases hc
      have hn' : fn.name ≠ "runtime.NumGoroutine" := by simpa using hn
      exact enter_run hP hb hn' args w
    · split at hf
      · rename_i hq
        cases hf
      · split at hf
        · rename_i hq
          cases hf
        · split at hf
          · rename_i hq
            cases hf
          · cases hf
  · unfold enters at hf
    split at hf
    · cases hf
    · split at hf
      · rename_i hq
        rw [Nat.beq_eq] at hq
        subst hq
        rw [run_callFunc_extern Tryz.func284 (by kernel_rfl) (by kernel_rfl) (by kernel_rfl) (e := Extern.AbiNoEscape.same) (by kernel_rfl)]
        rfl
      · split at hf
        · rename_i hq
          cases hf
        · split at hf
          · rename_i hq
            cases hf
          · cases hf
  · unfold enters at hf
    split at hf
    · cases hf
    · split at hf
      · rename_i hq
        cases hf
      · split at hf
        · rename_i hq
          cases hf
        · split at hf
          · rename_i hq
            cases hf
          · cases hf
  · unfold enters at hf
    split at hf
    · cases hf
    · split at hf
      · rename_i hq
        cases hf
      · split at hf
        · rename_i hq
          rw [Nat.beq_eq] at hq
          subst hq
          exact (run_callFunc_extern Tryz.func427 (by kernel_rfl) (by kernel_rfl) (by kernel_rfl) (e := Extern.MapsClone.clone) (by kernel_rfl) args w).trans (by rw [Sem.run_bind]; rfl)
        · split at hf
          · rename_i hq
            cases hf
          · cases hf
  · unfold enters at hf
    split at hf
    · cases hf
    · split at hf
      · rename_i hq
        cases hf
      · split at hf
        · rename_i hq
          cases hf
        · split at hf
          · rename_i hq
            rw [Nat.beq_eq] at hq
            subst hq
            cases hf
            exact ⟨4, run_callFunc_extern Tryz.func268 (by kernel_rfl) (by kernel_rfl) (by kernel_rfl) (e := Extern.SlicesOverlaps.overlaps #[212, 212] #[4]) (by kernel_rfl)⟩
          · cases hf
theorem zerosOk : ZF Tryz.prog := zf_of zeros
/-- The calls. -/
noncomputable def runs (sp : CallF) (d : Nat) : CallF := callA Tryz.prog enters FT sp (drawA Tryz.prog enters) 1000 d
theorem runs_sound {sp : CallF} (hS : CallSound Tryz.prog 7 sp) (d : Nat) : CallSound Tryz.prog 7 (runs sp d) :=
  callA_sound entersOk zerosOk table hS (fun _ h => drawA_sound entersOk zerosOk h) 1000 d
noncomputable def run (d : Nat) : CallF := runs (memoA []) d
theorem run_sound (d : Nat) : CallSound Tryz.prog 7 (run d) := runs_sound (memoA_sound [] (fun x h => by cases h)) d
noncomputable def tbl0 : List (Nat × Func) := [(2, Tryz.f2), (3, Tryz.f3), (4, Tryz.f4), (5, Tryz.f5), (6, Tryz.f6), (7, Tryz.f7), (8, Tryz.f8), (9, Tryz.f9), (10, Tryz.f10), (11, Tryz.f11), (12, Tryz.f12), (13, Tryz.f13), (14, Tryz.f14), (15, Tryz.f15), (16, Tryz.f16), (17, Tryz.f17), (18, Tryz.f18), (19, Tryz.f19), (20, Tryz.f20), (21, Tryz.f21), (22, Tryz.f22), (23, Tryz.f23), (24, Tryz.f24), (25, Tryz.f25), (26, Tryz.f26)]
theorem plan0 : tbl0.all (fun x => match x.2.body with | some c => plansOk Tryz.prog c | none => false) = true := by kernel_rfl
noncomputable def tbl1 : List (Nat × Func) := [(27, Tryz.f27), (28, Tryz.f28), (29, Tryz.f29), (30, Tryz.f30), (31, Tryz.f31), (32, Tryz.f32), (33, Tryz.f33), (34, Tryz.f34), (35, Tryz.f35), (36, Tryz.f36), (37, Tryz.f37), (38, Tryz.f38), (39, Tryz.f39), (40, Tryz.f40), (41, Tryz.f41), (42, Tryz.f42), (43, Tryz.f43), (44, Tryz.f44), (45, Tryz.f45), (46, Tryz.f46), (47, Tryz.f47), (48, Tryz.f48), (49, Tryz.f49), (50, Tryz.f50), (51, Tryz.f51)]
theorem plan1 : tbl1.all (fun x => match x.2.body with | some c => plansOk Tryz.prog c | none => false) = true := by kernel_rfl
noncomputable def tbl2 : List (Nat × Func) := [(52, Tryz.f52), (53, Tryz.f53), (54, Tryz.f54), (55, Tryz.f55), (56, Tryz.f56), (57, Tryz.f57), (58, Tryz.f58), (59, Tryz.f59), (60, Tryz.f60), (61, Tryz.f61), (62, Tryz.f62), (63, Tryz.f63), (64, Tryz.f64), (65, Tryz.f65), (66, Tryz.f66), (67, Tryz.f67), (68, Tryz.f68), (69, Tryz.f69), (70, Tryz.f70), (71, Tryz.f71), (72, Tryz.f72), (73, Tryz.f73), (74, Tryz.f74), (75, Tryz.f75), (76, Tryz.f76)]
theorem plan2 : tbl2.all (fun x => match x.2.body with | some c => plansOk Tryz.prog c | none => false) = true := by kernel_rfl
noncomputable def tbl3 : List (Nat × Func) := [(77, Tryz.f77), (78, Tryz.f78), (79, Tryz.f79), (80, Tryz.f80), (81, Tryz.f81), (82, Tryz.f82), (83, Tryz.f83), (84, Tryz.f84), (85, Tryz.f85), (86, Tryz.f86), (87, Tryz.f87), (88, Tryz.f88), (89, Tryz.f89), (90, Tryz.f90), (91, Tryz.f91), (92, Tryz.f92), (93, Tryz.f93), (94, Tryz.f94), (95, Tryz.f95), (96, Tryz.f96), (97, Tryz.f97), (98, Tryz.f98), (99, Tryz.f99), (100, Tryz.f100), (101, Tryz.f101)]
theorem plan3 : tbl3.all (fun x => match x.2.body with | some c => plansOk Tryz.prog c | none => false) = true := by kernel_rfl
noncomputable def tbl4 : List (Nat × Func) := [(102, Tryz.f102), (103, Tryz.f103), (104, Tryz.f104), (105, Tryz.f105), (106, Tryz.f106), (107, Tryz.f107), (108, Tryz.f108), (109, Tryz.f109), (110, Tryz.f110), (111, Tryz.f111), (112, Tryz.f112), (113, Tryz.f113), (114, Tryz.f114), (115, Tryz.f115), (116, Tryz.f116), (117, Tryz.f117), (118, Tryz.f118), (119, Tryz.f119), (120, Tryz.f120), (121, Tryz.f121), (122, Tryz.f122), (123, Tryz.f123), (124, Tryz.f124), (125, Tryz.f125), (126, Tryz.f126)]
theorem plan4 : tbl4.all (fun x => match x.2.body with | some c => plansOk Tryz.prog c | none => false) = true := by kernel_rfl
noncomputable def tbl5 : List (Nat × Func) := [(127, Tryz.f127), (128, Tryz.f128), (129, Tryz.f129), (130, Tryz.f130), (131, Tryz.f131), (132, Tryz.f132), (133, Tryz.f133), (134, Tryz.f134), (135, Tryz.f135), (136, Tryz.f136), (137, Tryz.f137), (138, Tryz.f138), (139, Tryz.f139), (140, Tryz.f140), (141, Tryz.f141), (142, Tryz.f142), (143, Tryz.f143), (144, Tryz.f144), (145, Tryz.f145), (146, Tryz.f146), (147, Tryz.f147), (148, Tryz.f148), (149, Tryz.f149), (150, Tryz.f150), (151, Tryz.f151)]
theorem plan5 : tbl5.all (fun x => match x.2.body with | some c => plansOk Tryz.prog c | none => false) = true := by kernel_rfl
noncomputable def tbl6 : List (Nat × Func) := [(152, Tryz.f152), (153, Tryz.f153), (154, Tryz.f154), (155, Tryz.f155), (156, Tryz.f156), (157, Tryz.f157), (158, Tryz.f158), (159, Tryz.f159), (160, Tryz.f160), (161, Tryz.f161), (162, Tryz.f162), (163, Tryz.f163), (164, Tryz.f164), (165, Tryz.f165), (166, Tryz.f166), (167, Tryz.f167), (168, Tryz.f168), (169, Tryz.f169), (170, Tryz.f170), (171, Tryz.f171), (172, Tryz.f172), (173, Tryz.f173), (174, Tryz.f174), (175, Tryz.f175), (176, Tryz.f176)]
theorem plan6 : tbl6.all (fun x => match x.2.body with | some c => plansOk Tryz.prog c | none => false) = true := by kernel_rfl
noncomputable def tbl7 : List (Nat × Func) := [(177, Tryz.f177), (178, Tryz.f178), (179, Tryz.f179), (180, Tryz.f180), (181, Tryz.f181), (182, Tryz.f182), (183, Tryz.f183), (184, Tryz.f184), (185, Tryz.f185), (186, Tryz.f186), (187, Tryz.f187), (188, Tryz.f188), (189, Tryz.f189), (190, Tryz.f190), (191, Tryz.f191), (192, Tryz.f192), (193, Tryz.f193), (194, Tryz.f194), (195, Tryz.f195), (196, Tryz.f196), (197, Tryz.f197), (198, Tryz.f198), (199, Tryz.f199), (200, Tryz.f200), (201, Tryz.f201)]
theorem plan7 : tbl7.all (fun x => match x.2.body with | some c => plansOk Tryz.prog c | none => false) = true := by kernel_rfl
noncomputable def tbl8 : List (Nat × Func) := [(202, Tryz.f202), (203, Tryz.f203), (204, Tryz.f204), (205, Tryz.f205), (206, Tryz.f206), (207, Tryz.f207), (208, Tryz.f208), (209, Tryz.f209), (210, Tryz.f210), (211, Tryz.f211), (212, Tryz.f212), (213, Tryz.f213), (214, Tryz.f214), (215, Tryz.f215), (216, Tryz.f216), (217, Tryz.f217), (218, Tryz.f218), (219, Tryz.f219), (220, Tryz.f220), (221, Tryz.f221), (222, Tryz.f222), (223, Tryz.f223), (224, Tryz.f224), (225, Tryz.f225), (226, Tryz.f226)]
theorem plan8 : tbl8.all (fun x => match x.2.body with | some c => plansOk Tryz.prog c | none => false) = true := by kernel_rfl
noncomputable def tbl9 : List (Nat × Func) := [(227, Tryz.f227), (228, Tryz.f228), (229, Tryz.f229), (230, Tryz.f230), (231, Tryz.f231), (232, Tryz.f232), (233, Tryz.f233), (234, Tryz.f234), (235, Tryz.f235), (236, Tryz.f236), (237, Tryz.f237), (238, Tryz.f238), (239, Tryz.f239), (240, Tryz.f240), (241, Tryz.f241), (242, Tryz.f242), (243, Tryz.f243), (244, Tryz.f244), (245, Tryz.f245), (246, Tryz.f246), (247, Tryz.f247), (248, Tryz.f248), (249, Tryz.f249), (250, Tryz.f250), (251, Tryz.f251)]
theorem plan9 : tbl9.all (fun x => match x.2.body with | some c => plansOk Tryz.prog c | none => false) = true := by kernel_rfl
noncomputable def tbl10 : List (Nat × Func) := [(252, Tryz.f252), (253, Tryz.f253), (254, Tryz.f254), (255, Tryz.f255), (256, Tryz.f256), (257, Tryz.f257), (258, Tryz.f258), (259, Tryz.f259), (260, Tryz.f260), (261, Tryz.f261), (262, Tryz.f262), (263, Tryz.f263), (264, Tryz.f264), (265, Tryz.f265), (266, Tryz.f266), (267, Tryz.f267), (269, Tryz.f269), (270, Tryz.f270), (271, Tryz.f271), (272, Tryz.f272), (273, Tryz.f273), (274, Tryz.f274), (275, Tryz.f275), (276, Tryz.f276), (277, Tryz.f277)]
theorem plan10 : tbl10.all (fun x => match x.2.body with | some c => plansOk Tryz.prog c | none => false) = true := by kernel_rfl
noncomputable def tbl11 : List (Nat × Func) := [(278, Tryz.f278), (279, Tryz.f279), (280, Tryz.f280), (281, Tryz.f281), (282, Tryz.f282), (283, Tryz.f283), (285, Tryz.f285), (286, Tryz.f286), (287, Tryz.f287), (288, Tryz.f288), (289, Tryz.f289), (290, Tryz.f290), (291, Tryz.f291), (292, Tryz.f292), (293, Tryz.f293), (294, Tryz.f294), (295, Tryz.f295), (296, Tryz.f296), (297, Tryz.f297), (298, Tryz.f298), (299, Tryz.f299), (300, Tryz.f300), (301, Tryz.f301), (302, Tryz.f302), (303, Tryz.f303)]
theorem plan11 : tbl11.all (fun x => match x.2.body with | some c => plansOk Tryz.prog c | none => false) = true := by kernel_rfl
noncomputable def tbl12 : List (Nat × Func) := [(304, Tryz.f304), (305, Tryz.f305), (306, Tryz.f306), (307, Tryz.f307), (308, Tryz.f308), (309, Tryz.f309), (310, Tryz.f310), (311, Tryz.f311), (312, Tryz.f312), (313, Tryz.f313), (314, Tryz.f314), (315, Tryz.f315), (316, Tryz.f316), (317, Tryz.f317), (318, Tryz.f318), (319, Tryz.f319), (320, Tryz.f320), (321, Tryz.f321), (322, Tryz.f322), (323, Tryz.f323), (339, Tryz.f339), (341, Tryz.f341), (342, Tryz.f342), (343, Tryz.f343), (344, Tryz.f344)]
theorem plan12 : tbl12.all (fun x => match x.2.body with | some c => plansOk Tryz.prog c | none => false) = true := by kernel_rfl
noncomputable def tbl13 : List (Nat × Func) := [(345, Tryz.f345), (346, Tryz.f346), (347, Tryz.f347), (348, Tryz.f348), (350, Tryz.f350), (351, Tryz.f351), (353, Tryz.f353), (354, Tryz.f354), (355, Tryz.f355), (356, Tryz.f356), (357, Tryz.f357), (358, Tryz.f358), (359, Tryz.f359), (360, Tryz.f360), (361, Tryz.f361), (362, Tryz.f362), (363, Tryz.f363), (364, Tryz.f364), (365, Tryz.f365), (366, Tryz.f366), (367, Tryz.f367), (368, Tryz.f368), (369, Tryz.f369), (370, Tryz.f370), (371, Tryz.f371)]
theorem plan13 : tbl13.all (fun x => match x.2.body with | some c => plansOk Tryz.prog c | none => false) = true := by kernel_rfl
noncomputable def tbl14 : List (Nat × Func) := [(372, Tryz.f372), (373, Tryz.f373), (374, Tryz.f374), (375, Tryz.f375), (376, Tryz.f376), (377, Tryz.f377), (378, Tryz.f378), (379, Tryz.f379), (380, Tryz.f380), (381, Tryz.f381), (382, Tryz.f382), (383, Tryz.f383), (384, Tryz.f384), (385, Tryz.f385), (386, Tryz.f386), (387, Tryz.f387), (388, Tryz.f388), (389, Tryz.f389), (390, Tryz.f390), (391, Tryz.f391), (392, Tryz.f392), (393, Tryz.f393), (394, Tryz.f394), (395, Tryz.f395), (396, Tryz.f396)]
theorem plan14 : tbl14.all (fun x => match x.2.body with | some c => plansOk Tryz.prog c | none => false) = true := by kernel_rfl
noncomputable def tbl15 : List (Nat × Func) := [(397, Tryz.f397), (398, Tryz.f398), (399, Tryz.f399), (400, Tryz.f400), (401, Tryz.f401), (402, Tryz.f402), (403, Tryz.f403), (404, Tryz.f404), (405, Tryz.f405), (406, Tryz.f406), (407, Tryz.f407), (408, Tryz.f408), (409, Tryz.f409), (410, Tryz.f410), (411, Tryz.f411), (412, Tryz.f412), (413, Tryz.f413), (414, Tryz.f414), (415, Tryz.f415), (416, Tryz.f416), (417, Tryz.f417), (418, Tryz.f418), (419, Tryz.f419), (420, Tryz.f420), (421, Tryz.f421)]
theorem plan15 : tbl15.all (fun x => match x.2.body with | some c => plansOk Tryz.prog c | none => false) = true := by kernel_rfl
noncomputable def tbl16 : List (Nat × Func) := [(422, Tryz.f422), (423, Tryz.f423), (424, Tryz.f424), (425, Tryz.f425), (426, Tryz.f426), (442, Tryz.f442)]
theorem plan16 : tbl16.all (fun x => match x.2.body with | some c => plansOk Tryz.prog c | none => false) = true := by kernel_rfl
set_option maxRecDepth 100000 in
theorem tbl_parts : tbl = tbl0 ++ tbl1 ++ tbl2 ++ tbl3 ++ tbl4 ++ tbl5 ++ tbl6 ++ tbl7 ++ tbl8 ++ tbl9 ++ tbl10 ++ tbl11 ++ tbl12 ++ tbl13 ++ tbl14 ++ tbl15 ++ tbl16 := rfl
theorem plans : ∀ f fn c, FT f = some fn → fn.body = some c → plansOk Tryz.prog c = true := by
  intro f fn c h hb
  have hm := lookF_mem tbl f fn h
  have key : ∀ x ∈ tbl, (match x.2.body with | some c => plansOk Tryz.prog c | none => false) = true := by
    rw [tbl_parts]
    intro x hx
    simp only [List.mem_append] at hx
    rcases hx with ((((((((((((((((hx | hx) | hx) | hx) | hx) | hx) | hx) | hx) | hx) | hx) | hx) | hx) | hx) | hx) | hx) | hx) | hx)
    · exact List.all_eq_true.1 plan0 x hx
    · exact List.all_eq_true.1 plan1 x hx
    · exact List.all_eq_true.1 plan2 x hx
    · exact List.all_eq_true.1 plan3 x hx
    · exact List.all_eq_true.1 plan4 x hx
    · exact List.all_eq_true.1 plan5 x hx
    · exact List.all_eq_true.1 plan6 x hx
    · exact List.all_eq_true.1 plan7 x hx
    · exact List.all_eq_true.1 plan8 x hx
    · exact List.all_eq_true.1 plan9 x hx
    · exact List.all_eq_true.1 plan10 x hx
    · exact List.all_eq_true.1 plan11 x hx
    · exact List.all_eq_true.1 plan12 x hx
    · exact List.all_eq_true.1 plan13 x hx
    · exact List.all_eq_true.1 plan14 x hx
    · exact List.all_eq_true.1 plan15 x hx
    · exact List.all_eq_true.1 plan16 x hx
  have := key (f, fn) hm
  dsimp only at this
  rw [hb] at this
  exact this
noncomputable def quickB (sp : Known) (d : Nat) : CallB := callB Tryz.prog enters FT sp (drawB Tryz.prog enters) 1048576 d
theorem quickB_sound {sp : Known} (hS : CallSound Tryz.prog 7 sp.call) (d : Nat) : CallSound Tryz.prog 7 (callOf (quickB sp d)) :=
  callB_sound entersOk zerosOk table hS plans (fun _ h => drawB_sound entersOk zerosOk h) 1048576 d
noncomputable def quick (d : Nat) : CallF := callOf (quickB noneK d)
theorem quick_sound (d : Nat) : CallSound Tryz.prog 7 (quick d) := quickB_sound noneK_sound d
/-- The same, with functions that defer calls and that range over functions: so many layers of them. -/
noncomputable def rich (n : Nat) : CallB := layerP Tryz.prog 7 FT enters 1048576 40 n
noncomputable def richKn (n : Nat) : Known := richP Tryz.prog 7 FT enters (rich n) (drawB Tryz.prog enters (rich n)) 1048576 40
theorem rich_sound (n : Nat) : CallSound Tryz.prog 7 (callOf (rich n)) := layerP_sound entersOk zerosOk table plans 1048576 40 n
theorem richKn_sound (n : Nat) : CallSound Tryz.prog 7 (richKn n).call := richP_sound entersOk zerosOk (rich_sound n) (drawB_sound entersOk zerosOk (rich_sound n)) table plans
/-- The layers over what is known. -/
noncomputable def richQ (sp : Known) (n : Nat) : CallB := layerQ Tryz.prog 7 FT enters sp 1048576 40 n
theorem richQ_sound {sp : Known} (hS : CallSound Tryz.prog 7 sp.call) (n : Nat) : CallSound Tryz.prog 7 (callOf (richQ sp n)) := layerQ_sound entersOk zerosOk table plans hS 1048576 40 n
/-- A memory in which no global lives. -/
def bare : AHeap := ⟨.leaf, 7 + 8, 1099511627776⟩
end Go.Proofs.YtdkomnkcemmdoaaGreatDoor
