/- The functions that the law FnSteps reaches, as equations; printed by pe.py. No condition. -/
import Derived.Test.YtmocpfgfjeaelaaGreatPrim
import Derived.Test.YtmocpfgfjeaelaaGreatIns
import Derived.Test.YtmocpfgfjeaelaaGreatPureSeat
import Derived.Test.YtmocpfgfjeaelaaGreatSeatF
import Derived.Test.YtmocpfgfjeaelaaGreatProg
import Derived.KernelRfl
set_option linter.unusedVariables false
open Go Go.Flat
namespace Go.jy
abbrev dn : Ty := .pair (.int .i64) (.pair (.int .i64) .unit)
abbrev bE := Int × (Int × Unit)
abbrev II : Ty := .pair (.int .i64) dn
abbrev Vr := Int × bE
abbrev bR : Ty := .pair (.int .i64) II
abbrev aF := Int × Vr
abbrev bV : Ty := .pair (.int .i64) (.pair (.int .i64) (.pair (.int .i64) (.pair (.list (.int .i64)) .unit)))
abbrev bn := Int × (Int × (Int × ((List Int) × Unit)))
abbrev dY : Ty := .pair (.int .i64) bR
abbrev aU := Int × aF
abbrev iF : Ty := .pair (.list bR) (.pair dn (.pair (.list dn) (.pair (.list bV) (.pair (.list (.int .i64)) (.pair (.list dY) (.pair (.list dn) dn))))))
abbrev aV := (List aF) × (bE × ((List bE) × ((List bn) × ((List Int) × ((List aU) × ((List bE) × bE))))))
abbrev Zn : Ty := .pair (.int .i64) (.pair (.int .i64) (.pair bR (.pair dn (.pair bV (.pair dY .unit)))))
abbrev adk := Int × (Int × (aF × (bE × (bn × (aU × Unit)))))
abbrev T59 : Ty := .pair (.list (.int .i64)) (.pair (.list (.int .i64)) .unit)
abbrev adl := (List Int) × ((List Int) × Unit)
abbrev Vs : Ty := .pair (.list (.int .i64)) (.pair (.int .i64) .unit)
abbrev aaY := (List Int) × (Int × Unit)
abbrev gG : Ty := .pair (.list (.int .u8)) dn
abbrev eH := (List Int) × bE
noncomputable def C : dA := {
  P := Go.Proofs.Tryz.prog,
  tt := [(1, none), (2, some (.int .i64)), (3, some (.int .i64)), (4, some .bool), (5, some (.int .u8)), (6, some (.int .u8)), (9, some .str), (10, some .str), (11, some .str), (12, some (.int .u64)), (15, none), (16, none), (17, none), (21, some (.int .i32)), (22, some (.list (.int .u8))), (23, none), (24, some (.list bR)), (25, some dn), (26, some dn), (27, some (.list dn)), (28, some (.list bV)), (29, some (.list (.int .i64))), (30, some (.list dY)), (31, some (.list dn)), (32, some iF), (33, some iF), (34, some (.list Zn)), (36, none), (38, none), (39, some bR), (40, some bR), (41, some dn), (42, some dn), (43, some bV), (44, some bV), (45, some dY), (46, some dY), (47, some Zn), (48, some Zn), (49, none), (50, some (.list (.list II))), (52, none), (53, none), (54, some dn), (55, some dn), (57, none), (58, none), (59, some T59), (60, some T59), (62, none), (64, none), (65, none), (66, none), (67, none), (69, none), (70, none), (72, none), (73, none), (75, none), (76, none), (78, none), (79, none), (81, none), (82, none), (83, none), (84, none), (85, none), (86, none), (87, some (.list bR)), (88, some dn), (89, some (.list dn)), (90, some (.list bV)), (91, some (.list dY)), (92, some (.list dn)), (93, some iF), (94, some iF), (95, some bV), (96, none), (97, none), (98, none), (99, none), (100, none), (101, none), (102, none), (103, none), (104, none), (105, none), (106, none), (107, none), (108, none), (109, none), (110, none), (112, none), (113, none), (114, none), (115, none), (116, none), (117, none), (118, none), (119, none), (120, none), (121, none), (122, none), (123, none), (124, none), (125, some (.list II)), (127, none), (128, none), (129, none), (130, none), (131, none), (132, none), (133, none), (134, none), (135, some Vs), (136, some Vs), (138, none), (139, none), (140, none), (141, none), (142, none), (143, none), (144, none), (145, none), (146, none), (147, none), (148, none), (149, none), (150, none), (151, none), (152, none), (153, none), (154, none), (155, none), (157, none), (158, none), (159, none), (160, none), (162, none), (163, none), (164, none), (165, none), (166, none), (167, none), (168, none), (169, none), (170, none), (171, none), (172, none), (173, some dn), (174, some dn), (175, none), (176, none), (177, none), (178, none), (179, none), (180, none), (181, none), (182, none), (183, none), (184, none), (185, none), (186, none), (187, none), (188, none), (189, none), (190, none), (191, none), (192, none), (193, none), (194, none), (195, none), (196, none), (197, none), (198, some (.list .str)), (199, some gG), (200, some gG), (201, none), (202, none), (203, none), (204, none), (205, none), (206, none), (207, none), (208, none), (209, none), (210, none), (211, none), (212, some II), (213, some II), (214, none), (215, none), (216, none), (217, none), (218, none), (219, none), (221, none), (222, none), (223, none), (224, none), (225, none), (226, none), (227, none), (228, none), (229, none), (230, none), (231, some bR), (232, none), (233, some dn), (234, none), (235, some dY), (236, none), (237, some dn), (238, none), (239, none), (240, none), (241, none), (242, none), (243, none), (244, none), (245, none), (246, none), (247, none), (248, none), (249, some (.int .u64)), (250, none), (251, none), (252, none), (253, none), (254, none), (255, none), (256, none), (257, none), (258, none), (259, some (.int .i64)), (261, none), (262, none), (263, none), (264, none), (265, none), (266, some (.int .u32)), (267, none), (268, some (.int .u64)), (269, none), (270, none), (271, none), (272, none), (273, some (.int .u64)), (274, none), (275, none), (276, none), (277, none), (278, none), (279, none), (280, none), (281, none), (282, none), (283, none), (289, none), (290, some (.int .u8)), (291, some (.int .u8)), (292, none), (293, none), (294, some (.int .i32)), (295, some (.int .i32))],
  vars := [(5, [3, 5, 6, 7, 9, 10, 11, 13, 14, 15, 17, 18, 19, 21, 22, 23, 25, 26, 27, 32, 33, 34, 36, 37, 1134592]), (40, [0, 3, 5]), (41, [1, 5, 10, 11, 12]), (42, [0, 1, 5]), (59, [0, 5, 6, 7]), (63, [0, 3, 4]), (66, [1, 2, 3, 8, 9, 10]), (68, [0, 5, 6, 7]), (69, [0, 5, 6, 7]), (70, [0, 5, 6, 7]), (71, [0, 2, 4, 22, 23, 24]), (76, [0, 1, 12, 13]), (93, [0, 2, 3, 4]), (104, [0, 1, 7, 8]), (110, [0, 1, 7, 8]), (112, [0, 1, 7, 8]), (113, [1, 2, 3, 24, 25, 26]), (116, [0, 1, 4, 10, 11, 12]), (121, [0, 1, 12, 13]), (123, [0, 1, 12, 13]), (124, [1, 2, 15, 16, 17]), (126, [0, 1, 12, 13]), (127, [0, 1, 12, 13]), (135, [0, 3, 4]), (168, [0, 3, 4]), (170, [0, 3, 4, 5]), (177, [0, 3, 7, 8, 9]), (185, [0, 1, 5, 6]), (194, [0, 1, 7, 8]), (203, [0, 3, 7, 8]), (208, [0, 3, 4, 5, 6]), (222, [3, 6, 7, 8]), (225, [0, 1, 7, 8, 9]), (227, [0, 1, 2, 9, 10, 11]), (228, [0, 1, 2, 9, 10, 11]), (232, [0, 3, 4, 5]), (233, [0, 3, 4]), (234, [0, 3, 4, 5]), (238, [0, 1, 5]), (244, [0, 2, 4, 8, 9, 10]), (247, [0, 3]), (249, [0, 3]), (250, [0, 3]), (251, [0, 3]), (252, [0, 1, 2, 7, 8, 9]), (255, [0, 3, 5]), (267, [0, 3, 4, 5]), (268, [0, 1, 2, 3, 10]), (269, [0, 3, 5]), (279, [0, 1, 5]), (291, [0, 1, 2, 7]), (292, [0, 1, 5, 6])],
  sigs := [(34, { own := false }), (63, { lend := some 1000, made := gG }), (93, { lend := some 0 }), (94, { lend := some 0 }), (95, { lend := some 0 }), (96, { lend := some 0 }), (98, { lend := some 0 }), (100, { lend := some 0 }), (101, { lend := some 0 }), (103, { lend := some 0 }), (106, { io := [0] }), (107, { lend := some 0 }), (109, { lend := some 0 }), (114, { io := [0] }), (115, { lend := some 0 }), (116, { lend := some 0 }), (117, { io := [0] }), (118, { own := false }), (119, { lend := some 0 }), (122, { lend := some 0 }), (136, { io := [1] }), (167, { lend := some 0 }), (168, { lend := some 0 }), (170, { lend := some 0 }), (185, { io := [0] }), (195, { lend := some 0 }), (201, { io := [0] }), (202, { lend := some 0 }), (204, { io := [0] }), (208, { lend := some 0 }), (211, { io := [0] }), (224, { lend := some 0 }), (225, { lend := some 0 }), (232, { lend := some 0 }), (233, { lend := some 0 }), (234, { lend := some 0 }), (245, { io := [0] })],
  Lj := fun f => bif Nat.beq f 106 then some (gL dn 16) else bif Nat.beq f 108 then some (tF Go.fZ.OO Go.fZ.OP Go.fZ.AJ) else bif Nat.beq f 114 then some (kC bV) else bif Nat.beq f 117 then some (gL bV 48) else bif Nat.beq f 201 then some (gL bR 32) else bif Nat.beq f 204 then some (kC bR) else bif Nat.beq f 245 then some (gL dY 40) else none,
  ptrs := [15, 16, 17, 114, 149, 277, 280, 293],
  Yo := [(12, 29), (15, 29), (22, 29), (37, 28)] }
noncomputable def jo (k : Nat) (bK : (List Int)) : Option Bool := run C k 5 .bool [.val (.list (.int .u8)) bK]
noncomputable def jo.l0 (k m : Nat) (Om : Bool) (IK : Bool) (zT : Bool) (CW : Bool) (CX : Bool) (IL : Bool) (zU : Bool) (zV : Bool) (bN : Int) (bO : Int) (yX : Int) (yY : Int) (zW : Int) (zX : Int) (zY : Int) (zZ : Int) (qG : Int) (qH : Int) (Em : Int) (En : Int) (Xf : Int) (Xg : Int) (Xh : Int) (Xi : Int) (Xj : Int) (Xk : Int) (Xl : Int) (Xm : Int) (Xn : Int) (Xo : Int) (Xp : Int) (Xq : Int) (Xr : Int) (Xt : Int) (Xu : Int) (Xv : Int) (Xw : Int) (Xx : Int) (Xy : Int) (Xz : Int) (XA : Int) (XB : Int) (XC : Int) (XD : Int) (XE : Int) (XF : Int) (XG : Int) (XH : Int) (Rf : (List aF)) (Rh : Int) (Ri : Int) (Rj : (List bE)) (Rk : (List bn)) (Rl : (List Int)) (Rm : (List aU)) (Rn : (List bE)) (Ro : Int) (Rp : Int) (Rq : Int) (Rs : Int) (Rt : Int) (Ru : Int) (Rv : Int) (Rw : Int) (Rx : Int) (Ry : Int) (Rz : Int) (RA : Int) (RB : Int) (RD : Int) (RF : Int) (RG : Int) (RH : Int) (RI : Int) (RJ : Int) (RL : Int) (RN : Int) (RO : Int) (s16 : (List aF)) (s17 : (List bE)) (s18 : (List bn)) (s19 : (List Int)) (s20 : (List aU)) (s21 : (List bE)) (s22 : (List aF)) (s23 : (List bE)) (s24 : (List bn)) (s25 : (List Int)) (s26 : (List aU)) (s27 : (List bE)) (s28 : (List aF)) (s29 : (List bE)) (s30 : (List bn)) (s31 : (List Int)) (s32 : (List aU)) (s33 : (List bE)) (s34 : (List aF)) (s35 : (List bE)) (s36 : (List bn)) (s37 : (List Int)) (s38 : (List aU)) (s39 : (List bE)) (s40 : (List aF)) (s41 : (List bE)) (s42 : (List bn)) (s43 : (List Int)) (s44 : (List aU)) (s45 : (List bE)) (s46 : (List aF)) (s47 : (List bE)) (s48 : (List bn)) (s49 : (List Int)) (s50 : (List aU)) (s51 : (List bE)) (s52 : (List aF)) (s53 : (List bE)) (s54 : (List bn)) (s55 : (List Int)) (s56 : (List aU)) (s57 : (List bE)) (s58 : (List aF)) (s59 : (List bE)) (s60 : (List bn)) (s61 : (List Int)) (s62 : (List aU)) (s63 : (List bE)) (s64 : (List aF)) (s65 : (List bE)) (s66 : (List bn)) (s67 : (List Int)) (s68 : (List aU)) (s69 : (List bE)) (s70 : (List aF)) (s71 : (List bE)) (s72 : (List bn)) (s73 : (List Int)) (s74 : (List aU)) (s75 : (List bE)) (s76 : (List aF)) (s77 : (List bE)) (s78 : (List bn)) (s79 : (List Int)) (s80 : (List aU)) (s81 : (List bE)) (s82 : (List aF)) (s83 : (List bE)) (s84 : (List bn)) (s85 : (List Int)) (s86 : (List aU)) (s87 : (List bE)) (s88 : (List aF)) (s89 : (List bE)) (s90 : (List bn)) (s91 : (List Int)) (s92 : (List aU)) (s93 : (List bE)) (s94 : (List aF)) (s95 : (List bE)) (s96 : (List bn)) (s97 : (List Int)) (s98 : (List aU)) (s99 : (List bE)) (XI : (List aF)) (XJ : (List bE)) (XK : (List bn)) (XL : (List Int)) (XM : (List aU)) (XN : (List bE)) : Option Bool := YL C k 5 .bool [0] [.r, .r, .r, .r, .r, .r, .r, .r, .r, .r, .r, .r, .r, .r, .r, .r, .r, .r, .r, .l] 0 [] [3, 5, 6, 7, 9, 10, 11, 13, 14, 15, 17, 18, 19, 21, 22, 23, 25, 26, 27, 32, 33, 34, 36, 37] m ⟨[.one (.cell (.ptr 1 0)), .one (.cell (.ptr 5 0)), .one (.cell (.prop (Om = true) (instDecidableEqBool Om true))), .one (.cell (.ptr 9 0)), .one (.cell (.ptr 13 0)), .one (.cell (.prop (IK = true) (instDecidableEqBool IK true))), .one (.cell (.ptr 17 0)), .one (.cell (.ptr 21 0)), .one (.cell (.prop (zT = true) (instDecidableEqBool zT true))), .one (.cell (.ptr 25 0)), .one (.cell (.ptr 29 0)), .one (.cell (.prop (CW = true) (instDecidableEqBool CW true))), .one (.cell (.ptr 33 0)), .one (.cell (.ptr 37 0)), .one (.cell (.prop (CX = true) (instDecidableEqBool CX true))), .one (.cell (.ptr 41 0)), .one (.cell (.ptr 45 0)), .one (.cell (.prop (IL = true) (instDecidableEqBool IL true))), .one (.cell (.ptr 49 0)), .one (.cell (.ptr 53 0)), .one (.cell (.prop (zU = true) (instDecidableEqBool zU true))), .one (.cell (.ptr 57 0)), .one (.cell (.ptr 61 0)), .one (.cell (.prop (zV = true) (instDecidableEqBool zV true)))], [.box (some iF) [.ref 65, .int .i64 bN, .int .i64 bO, .ref 69, .ref 73, .ref 77, .ref 81, .ref 85, .int .i64 yX, .int .i64 yY], .box (some iF) [.ref 89, .int .i64 zW, .int .i64 zX, .ref 93, .ref 97, .ref 101, .ref 105, .ref 109, .int .i64 zY, .int .i64 zZ], .box (some iF) [.ref 113, .int .i64 qG, .int .i64 qH, .ref 117, .ref 121, .ref 125, .ref 129, .ref 133, .int .i64 Em, .int .i64 En], .box (some iF) [.ref 137, .int .i64 Xf, .int .i64 Xg, .ref 141, .ref 145, .ref 149, .ref 153, .ref 157, .int .i64 Xh, .int .i64 Xi], .box (some iF) [.ref 161, .int .i64 Xj, .int .i64 Xk, .ref 165, .ref 169, .ref 173, .ref 177, .ref 181, .int .i64 Xl, .int .i64 Xm], .box (some iF) [.ref 185, .int .i64 Xn, .int .i64 Xo, .ref 189, .ref 193, .ref 197, .ref 201, .ref 205, .int .i64 Xp, .int .i64 Xq], .box (some iF) [.ref 209, .int .i64 Xr, .int .i64 Xt, .ref 213, .ref 217, .ref 221, .ref 225, .ref 229, .int .i64 Xu, .int .i64 Xv], .box (some iF) [.ref 233, .int .i64 Xw, .int .i64 Xx, .ref 237, .ref 241, .ref 245, .ref 249, .ref 253, .int .i64 Xy, .int .i64 Xz], .box (some iF) [.ref 257, .int .i64 XA, .int .i64 XB, .ref 261, .ref 265, .ref 269, .ref 273, .ref 277, .int .i64 XC, .int .i64 XD], .box (some iF) [.ref 281, .int .i64 XE, .int .i64 XF, .ref 285, .ref 289, .ref 293, .ref 297, .ref 301, .int .i64 XG, .int .i64 XH], .box (some iF) [.list true bR Rf, .int .i64 Rh, .int .i64 Ri, .list true dn Rj, .list true bV Rk, .list true (.int .i64) Rl, .list true dY Rm, .list true dn Rn, .int .i64 Ro, .int .i64 Rp], .box (some iF) [.ref 305, .int .i64 Rq, .int .i64 Rs, .ref 309, .ref 313, .ref 317, .ref 321, .ref 325, .int .i64 Rt, .int .i64 Ru], .box (some iF) [.ref 329, .int .i64 Rv, .int .i64 Rw, .ref 333, .ref 337, .ref 341, .ref 345, .ref 349, .int .i64 Rx, .int .i64 Ry], .box (some iF) [.ref 353, .int .i64 Rz, .int .i64 RA, .ref 357, .ref 361, .ref 365, .ref 369, .ref 373, .int .i64 RB, .int .i64 RD], .box (some iF) [.ref 377, .int .i64 RF, .int .i64 RG, .ref 381, .ref 385, .ref 389, .ref 393, .ref 397, .int .i64 RH, .int .i64 RI], .box (some iF) [.ref 401, .int .i64 RJ, .int .i64 RL, .ref 405, .ref 409, .ref 413, .ref 417, .ref 421, .int .i64 RN, .int .i64 RO], .arr bR s16 .open, .arr dn s17 .open, .arr bV s18 .open, .arr (.int .i64) s19 .open, .arr dY s20 .open, .arr dn s21 .open, .arr bR s22 .open, .arr dn s23 .open, .arr bV s24 .open, .arr (.int .i64) s25 .open, .arr dY s26 .open, .arr dn s27 .open, .arr bR s28 .open, .arr dn s29 .open, .arr bV s30 .open, .arr (.int .i64) s31 .open, .arr dY s32 .open, .arr dn s33 .open, .arr bR s34 .open, .arr dn s35 .open, .arr bV s36 .open, .arr (.int .i64) s37 .open, .arr dY s38 .open, .arr dn s39 .open, .arr bR s40 .open, .arr dn s41 .open, .arr bV s42 .open, .arr (.int .i64) s43 .open, .arr dY s44 .open, .arr dn s45 .open, .arr bR s46 .open, .arr dn s47 .open, .arr bV s48 .open, .arr (.int .i64) s49 .open, .arr dY s50 .open, .arr dn s51 .open, .arr bR s52 .open, .arr dn s53 .open, .arr bV s54 .open, .arr (.int .i64) s55 .open, .arr dY s56 .open, .arr dn s57 .open, .arr bR s58 .open, .arr dn s59 .open, .arr bV s60 .open, .arr (.int .i64) s61 .open, .arr dY s62 .open, .arr dn s63 .open, .arr bR s64 .open, .arr dn s65 .open, .arr bV s66 .open, .arr (.int .i64) s67 .open, .arr dY s68 .open, .arr dn s69 .open, .arr bR s70 .open, .arr dn s71 .open, .arr bV s72 .open, .arr (.int .i64) s73 .open, .arr dY s74 .open, .arr dn s75 .open, .arr bR s76 .open, .arr dn s77 .open, .arr bV s78 .open, .arr (.int .i64) s79 .open, .arr dY s80 .open, .arr dn s81 .open, .arr bR s82 .open, .arr dn s83 .open, .arr bV s84 .open, .arr (.int .i64) s85 .open, .arr dY s86 .open, .arr dn s87 .open, .arr bR s88 .open, .arr dn s89 .open, .arr bV s90 .open, .arr (.int .i64) s91 .open, .arr dY s92 .open, .arr dn s93 .open, .arr bR s94 .open, .arr dn s95 .open, .arr bV s96 .open, .arr (.int .i64) s97 .open, .arr dY s98 .open, .arr dn s99 .open, .arr bR XI .open, .arr dn XJ .open, .arr bV XK .open, .arr (.int .i64) XL .open, .arr dY XM .open, .arr dn XN .open]⟩
noncomputable def Oo (k : Nat) (bK : (List Int)) : Option Bool := run C k 8 .bool [.val (.list (.int .u8)) bK]
noncomputable def lY (k : Nat) (bK : (List Int)) : Option (aV × (aF × Unit)) := run C k 24 (.pair iF (.pair bR .unit)) [.val (.list (.int .u8)) bK]
noncomputable def qI (k : Nat) (bD : aV) (e_1 : aF) : Option (aV × (Bool × Unit)) := run C k 25 (.pair iF (.pair .bool .unit)) [.val iF bD, .val bR e_1]
noncomputable def pU (k : Nat) (bK : (List Int)) : Option (aV × (aF × Unit)) := run C k 26 (.pair iF (.pair bR .unit)) [.val (.list (.int .u8)) bK]
noncomputable def qJ (k : Nat) (bD : aV) (e_1 : aF) : Option (aV × (Bool × Unit)) := run C k 27 (.pair iF (.pair .bool .unit)) [.val iF bD, .val bR e_1]
noncomputable def pV (k : Nat) (bK : (List Int)) : Option (aV × (bE × Unit)) := run C k 28 (.pair iF (.pair dn .unit)) [.val (.list (.int .u8)) bK]
noncomputable def qK (k : Nat) (bD : aV) (x_1 : bE) : Option (aV × (Bool × Unit)) := run C k 29 (.pair iF (.pair .bool .unit)) [.val iF bD, .val dn x_1]
noncomputable def qL (k : Nat) (bK : (List Int)) : Option (aV × (Int × Unit)) := run C k 30 (.pair iF (.pair (.int .i64) .unit)) [.val (.list (.int .u8)) bK]
noncomputable def sN (k : Nat) (bD : aV) (qM : Int) : Option (aV × (Bool × Unit)) := run C k 31 (.pair iF (.pair .bool .unit)) [.val iF bD, .val (.int .i64) qM]
noncomputable def pW (k : Nat) (bK : (List Int)) : Option (aV × (Int × Unit)) := run C k 32 (.pair iF (.pair (.int .i64) .unit)) [.val (.list (.int .u8)) bK]
noncomputable def qN (k : Nat) (bD : aV) (id_1 : Int) : Option (aV × (Bool × Unit)) := run C k 33 (.pair iF (.pair .bool .unit)) [.val iF bD, .val (.int .i64) id_1]
noncomputable def qO (k : Nat) (bK : (List Int)) : Option (aV × (bn × Unit)) := run C k 34 (.pair iF (.pair bV .unit)) [.val (.list (.int .u8)) bK]
noncomputable def sO (k : Nat) (bD : aV) (p_1 : bn) : Option (aV × (Bool × Unit)) := run C k 35 (.pair iF (.pair .bool .unit)) [.val iF bD, .val bV p_1]
noncomputable def qP (k : Nat) (bK : (List Int)) : Option (aV × aF) := run C k 36 (.pair iF bR) [.val (.list (.int .u8)) bK]
noncomputable def sP (k : Nat) (bD : aV) (CY : Int) (yx : Int) (uO : Int) (CZ : Int) : Option (aV × (Bool × Unit)) := run C k 37 (.pair iF (.pair .bool .unit)) [.val iF bD, .val (.int .i64) CY, .val (.int .i64) yx, .val (.int .i64) uO, .val (.int .i64) CZ]
noncomputable def qQ (k : Nat) (bK : (List Int)) : Option (aV × (Int × Unit)) := run C k 38 (.pair iF (.pair (.int .i64) .unit)) [.val (.list (.int .u8)) bK]
noncomputable def sQ (k : Nat) (bD : aV) (vM : Int) : Option (aV × (Bool × Unit)) := run C k 39 (.pair iF (.pair .bool .unit)) [.val iF bD, .val (.int .i64) vM]
noncomputable def aZ (k : Nat) (bD : aV) : Option Bool := run C k 11 .bool [.val iF bD]
noncomputable def eO (k : Nat) (aB : (List aF)) (e_1 : aF) : Option Bool := run C k 40 .bool [.val (.list bR) aB, .val bR e_1]
noncomputable def eO.l0 (k m : Nat) (aB : (List aF)) (je : Int) (bU : Int) (bN : Int) (bO : Int) (fP : Int) : Option Bool := cB C k 40 .bool [0, 0] [.r, .l, .r, .b] [] [0, 3, 5] m ⟨[.one (.cell (.list false bR aB)), .one (.cell (.ptr 1 0)), .one (.cell (.int .i64 je))], [.box (some bR) [.int .i64 bU, .int .i64 bN, .int .i64 bO, .int .i64 fP]]⟩
noncomputable def gM (k : Nat) (aB : (List bE)) (vN : Int) : Option Int := run C k 41 (.int .i64) [.val (.list dn) aB, .val (.int .i64) vN]
noncomputable def gM.l0 (k m : Nat) (vN : Int) (IQ : Int) (kT : (List bE)) (iP : Int) (jH : Int) : Option Int := cB C k 41 (.int .i64) [0, 0] [.r, .r, .l, .r, .t, .r, .b] [] [1, 5, 10, 11, 12] m ⟨[.one (.cell (.int .i64 vN)), .one (.cell (.int .i64 IQ)), .one (.cell (.list false dn kT)), .one (.cell (.int .i64 iP)), .one (.cell (.int .i64 jH))], []⟩
noncomputable def fQ (k : Nat) (aB : (List Int)) (vM : Int) : Option Bool := run C k 42 .bool [.val (.list (.int .i64)) aB, .val (.int .i64) vM]
noncomputable def fQ.l0 (k m : Nat) (aB : (List Int)) (vM : Int) (je : Int) : Option Bool := cB C k 42 .bool [0, 0] [.r, .l, .r, .b] [] [0, 1, 5] m ⟨[.one (.cell (.list false (.int .i64) aB)), .one (.cell (.int .i64 vM)), .one (.cell (.int .i64 je))], []⟩
noncomputable def dD (k : Nat) (a_0 : aV) (b_1 : aV) : Option Bool := run C k 43 .bool [.val iF a_0, .val iF b_1]
noncomputable def fJ (k : Nat) (bK : (List Int)) : Option eH := run C k 63 gG [.val (.list (.int .u8)) bK]
noncomputable def fJ.l0 (k m : Nat) (bK : (List Int)) (h_3 : Int) (nS : Int) : Option eH := Ut C k 63 gG 1 [.r, .r, .l, .r, .b] [] [0, 3, 4] m ⟨[.one (.cell (.list true (.int .u8) bK)), .one (.cell (.int .i64 h_3)), .one (.cell (.int .i64 nS))], []⟩
noncomputable def dx (k : Nat) (jB : eH) : Option (aV × eH) := run C k 93 (.pair iF gG) [.gJ gG jB]
noncomputable def dx.l0 (k m : Nat) (nS : Int) (bU : (List Int)) (bN : Int) (bO : Int) (zW : Int) (zX : Int) (zY : Int) (zZ : Int) (qG : Int) (qH : Int) (Em : Int) (En : Int) (s3 : (List aF)) (s4 : (List bE)) (s5 : (List bn)) (s6 : (List Int)) (s7 : (List aU)) (s8 : (List bE)) : Option (aV × eH) := nG C k 93 (.pair iF gG) 0 gG 1 [.r, .r, .l, .r, .b] [] [0, 2, 3, 4] m ⟨[.one (.cell (.ptr 1 0)), .one (.cell (.ptr 5 0)), .one (.cell (.ptr 9 0)), .one (.cell (.int .i64 nS))], [.box (some gG) [.list true (.int .u8) bU, .int .i64 bN, .int .i64 bO], .box (some iF) [.nil, .int .i64 zW, .int .i64 zX, .nil, .nil, .nil, .nil, .nil, .int .i64 zY, .int .i64 zZ], .box (some iF) [.ref 13, .int .i64 qG, .int .i64 qH, .ref 17, .ref 21, .ref 25, .ref 29, .ref 33, .int .i64 Em, .int .i64 En], .arr bR s3 .open, .arr dn s4 .open, .arr bV s5 .open, .arr (.int .i64) s6 .open, .arr dY s7 .open, .arr dn s8 .open]⟩
noncomputable def uP (k : Nat) (jB : eH) : Option (aF × eH) := run C k 94 (.pair bR gG) [.gJ gG jB]
noncomputable def jA (k : Nat) (jB : eH) (vM : Int) : Option (Bool × eH) := run C k 95 (.pair .bool gG) [.gJ gG jB, .val (.int .i64) vM]
noncomputable def iM (k : Nat) (jB : eH) (Eo : (List Int)) : Option (Int × eH) := run C k 96 (.pair (.int .i64) gG) [.gJ gG jB, .val (.list (.int .i64)) Eo]
noncomputable def uh (k : Nat) (bD : aV) (fu : aF) : Option (aV × (Bool × Unit)) := run C k 97 (.pair iF (.pair .bool .unit)) [.val iF bD, .oq 98 [.ro bR fu]]
noncomputable def aM (k : Nat) (jB : eH) (vM : Int) : Option (Int × eH) := run C k 100 (.pair (.int .i64) gG) [.gJ gG jB, .val (.int .i64) vM]
noncomputable def rT (k : Nat) (bD : aV) (fu : aF) : Option (aV × (Bool × Unit)) := run C k 97 (.pair iF (.pair .bool .unit)) [.val iF bD, .oq 101 [.ro bR fu]]
noncomputable def rU (k : Nat) (bD : aV) (fu : bE) : Option (aV × (Bool × Unit)) := run C k 97 (.pair iF (.pair .bool .unit)) [.val iF bD, .oq 103 [.ro dn fu]]
noncomputable def rV (k : Nat) (bD : aV) (fu : Int) : Option (aV × (Bool × Unit)) := run C k 97 (.pair iF (.pair .bool .unit)) [.val iF bD, .oq 107 [.ro (.int .i64) fu]]
noncomputable def rW (k : Nat) (bD : aV) (fu : Int) : Option (aV × (Bool × Unit)) := run C k 97 (.pair iF (.pair .bool .unit)) [.val iF bD, .oq 109 [.ro (.int .i64) fu]]
noncomputable def Aa (k : Nat) (jB : eH) : Option ((List bn) × eH) := run C k 115 (.pair (.list bV) gG) [.gJ gG jB]
noncomputable def rX (k : Nat) (bD : aV) (fu : bn) : Option (aV × (Bool × Unit)) := run C k 97 (.pair iF (.pair .bool .unit)) [.val iF bD, .oq 116 [.ro bV fu]]
noncomputable def rY (k : Nat) (bD : aV) (fu : Int) (Da : Int) (Db : Int) (XO : Int) : Option (aV × (Bool × Unit)) := run C k 97 (.pair iF (.pair .bool .unit)) [.val iF bD, .oq 119 [.ro (.int .i64) fu, .ro (.int .i64) Da, .ro (.int .i64) Db, .ro (.int .i64) XO]]
noncomputable def rZ (k : Nat) (bD : aV) (fu : Int) : Option (aV × (Bool × Unit)) := run C k 97 (.pair iF (.pair .bool .unit)) [.val iF bD, .oq 122 [.ro (.int .i64) fu]]
noncomputable def aP (k : Nat) (aB : (List aF)) : Option Bool := run C k 59 .bool [.val (.list bR) aB]
noncomputable def aP.l0 (k m : Nat) (aB : (List aF)) (oH : (List aF)) (tQ : Int) (eD : Int) : Option Bool := cB C k 59 .bool [0] [.r, .l, .r, .b] [] [0, 5, 6, 7] m ⟨[.one (.cell (.list false bR aB)), .one (.cell (.list false bR oH)), .one (.cell (.int .i64 tQ)), .one (.cell (.int .i64 eD))], []⟩
noncomputable def yA (k : Nat) (JE : bE) : Option Bool := run C k 67 .bool [.val dn JE]
noncomputable def eG (k : Nat) (aB : (List bE)) : Option Bool := run C k 68 .bool [.val (.list dn) aB]
noncomputable def eG.l0 (k m : Nat) (aB : (List bE)) (oH : (List bE)) (tQ : Int) (eD : Int) : Option Bool := cB C k 68 .bool [0] [.r, .l, .r, .b] [] [0, 5, 6, 7] m ⟨[.one (.cell (.list false dn aB)), .one (.cell (.list false dn oH)), .one (.cell (.int .i64 tQ)), .one (.cell (.int .i64 eD))], []⟩
noncomputable def dW (k : Nat) (aB : (List aU)) : Option Bool := run C k 69 .bool [.val (.list dY) aB]
noncomputable def dW.l0 (k m : Nat) (aB : (List aU)) (oH : (List aU)) (tQ : Int) (eD : Int) : Option Bool := cB C k 69 .bool [0] [.r, .l, .r, .b] [] [0, 5, 6, 7] m ⟨[.one (.cell (.list false dY aB)), .one (.cell (.list false dY oH)), .one (.cell (.int .i64 tQ)), .one (.cell (.int .i64 eD))], []⟩
noncomputable def dZ (k : Nat) (aB : (List bE)) : Option Bool := run C k 70 .bool [.val (.list dn) aB]
noncomputable def dZ.l0 (k m : Nat) (aB : (List bE)) (oH : (List bE)) (tQ : Int) (eD : Int) : Option Bool := cB C k 70 .bool [0] [.r, .l, .r, .b] [] [0, 5, 6, 7] m ⟨[.one (.cell (.list false dn aB)), .one (.cell (.list false dn oH)), .one (.cell (.int .i64 tQ)), .one (.cell (.int .i64 eD))], []⟩
noncomputable def eF (k : Nat) (aB : (List bn)) (bF : (List aF)) (bZ : (List Int)) : Option Bool := run C k 71 .bool [.val (.list bV) aB, .val (.list bR) bF, .val (.list (.int .i64)) bZ]
noncomputable def eF.l0 (k m : Nat) (aB : (List bn)) (bZ : (List Int)) (Qf : (List Int)) (Vv : Int) (vO : Int) (bU : (List aF)) : Option Bool := cB C k 71 .bool [0, 0, 0] [.r, .r, .l, .r, .b] [] [0, 2, 4, 22, 23, 24] m ⟨[.one (.cell (.list false bV aB)), .one (.cell (.list false (.int .i64) bZ)), .one (.cell (.ptr 1 0)), .one (.cell (.list false (.int .i64) Qf)), .one (.cell (.int .i64 Vv)), .one (.cell (.int .i64 vO))], [.box (some (.list bR)) [.list false bR bU]]⟩
noncomputable def aY (k : Nat) (Vt : Int) (dU : Int) (cO : Int) : Option Bool := run C k 72 .bool [.val (.int .i64) Vt, .val (.int .i64) dU, .val (.int .i64) cO]
noncomputable def bP (k : Nat) (fC : (List aF)) (fB : (List aF)) : Option Bool := run C k 76 .bool [.val (.list bR) fC, .val (.list bR) fB]
noncomputable def bP.l0 (k m : Nat) (fC : (List aF)) (fB : (List aF)) (jH : Int) (fU : Int) : Option Bool := cB C k 76 .bool [0, 0] [.r, .r, .l, .r, .b] [] [0, 1, 12, 13] m ⟨[.one (.cell (.list false bR fC)), .one (.cell (.list false bR fB)), .one (.cell (.int .i64 jH)), .one (.cell (.int .i64 fU))], []⟩
noncomputable def bQ (k : Nat) (fC : (List bE)) (fB : (List bE)) : Option Bool := run C k 123 .bool [.val (.list dn) fC, .val (.list dn) fB]
noncomputable def bQ.l0 (k m : Nat) (fC : (List bE)) (fB : (List bE)) (jH : Int) (fU : Int) : Option Bool := cB C k 123 .bool [0, 0] [.r, .r, .l, .r, .b] [] [0, 1, 12, 13] m ⟨[.one (.cell (.list false dn fC)), .one (.cell (.list false dn fB)), .one (.cell (.int .i64 jH)), .one (.cell (.int .i64 fU))], []⟩
noncomputable def aO (k : Nat) (fC : (List bn)) (fB : (List bn)) : Option Bool := run C k 124 .bool [.val (.list bV) fC, .val (.list bV) fB, .oq 125 []]
noncomputable def aO.l0 (k m : Nat) (fB : (List bn)) (Ti : (List bn)) (Vw : Int) (IU : Int) : Option Bool := cB C k 124 .bool [0, 0, 0] [.r, .r, .l, .r, .b] [] [1, 2, 15, 16, 17] m ⟨[.one (.cell (.list false bV fB)), .one (.cell (.oq 125 [])), .one (.cell (.list false bV Ti)), .one (.cell (.int .i64 Vw)), .one (.cell (.int .i64 IU))], []⟩
noncomputable def bL (k : Nat) (fC : (List Int)) (fB : (List Int)) : Option Bool := run C k 126 .bool [.val (.list (.int .i64)) fC, .val (.list (.int .i64)) fB]
noncomputable def bL.l0 (k m : Nat) (fC : (List Int)) (fB : (List Int)) (jH : Int) (fU : Int) : Option Bool := cB C k 126 .bool [0, 0] [.r, .r, .l, .r, .b] [] [0, 1, 12, 13] m ⟨[.one (.cell (.list false (.int .i64) fC)), .one (.cell (.list false (.int .i64) fB)), .one (.cell (.int .i64 jH)), .one (.cell (.int .i64 fU))], []⟩
noncomputable def bM (k : Nat) (fC : (List aU)) (fB : (List aU)) : Option Bool := run C k 121 .bool [.val (.list dY) fC, .val (.list dY) fB]
noncomputable def bM.l0 (k m : Nat) (fC : (List aU)) (fB : (List aU)) (jH : Int) (fU : Int) : Option Bool := cB C k 121 .bool [0, 0] [.r, .r, .l, .r, .b] [] [0, 1, 12, 13] m ⟨[.one (.cell (.list false dY fC)), .one (.cell (.list false dY fB)), .one (.cell (.int .i64 jH)), .one (.cell (.int .i64 fU))], []⟩
noncomputable def bI (k : Nat) (fC : (List bE)) (fB : (List bE)) : Option Bool := run C k 127 .bool [.val (.list dn) fC, .val (.list dn) fB]
noncomputable def bI.l0 (k m : Nat) (fC : (List bE)) (fB : (List bE)) (jH : Int) (fU : Int) : Option Bool := cB C k 127 .bool [0, 0] [.r, .r, .l, .r, .b] [] [0, 1, 12, 13] m ⟨[.one (.cell (.list false dn fC)), .one (.cell (.list false dn fB)), .one (.cell (.int .i64 jH)), .one (.cell (.int .i64 fU))], []⟩
noncomputable def yB (k : Nat) (jB : eH) : Option (aV × eH) := run C k 195 (.pair iF gG) [.gJ gG jB]
noncomputable def wU (k : Nat) (bD : aV) (vM : Int) : Option (aV × (Bool × Unit)) := run C k 196 (.pair iF (.pair .bool .unit)) [.val iF bD, .val (.int .i64) vM]
noncomputable def wV (k : Nat) (bD : aV) (CY : Int) (yx : Int) (uO : Int) (CZ : Int) : Option (aV × (Bool × Unit)) := run C k 197 (.pair iF (.pair .bool .unit)) [.val iF bD, .val (.int .i64) CY, .val (.int .i64) yx, .val (.int .i64) uO, .val (.int .i64) CZ]
noncomputable def wW (k : Nat) (bD : aV) (qM : Int) : Option (aV × (Bool × Unit)) := run C k 198 (.pair iF (.pair .bool .unit)) [.val iF bD, .val (.int .i64) qM]
noncomputable def vP (k : Nat) (bD : aV) (e_1 : aF) : Option (aV × (Bool × Unit)) := run C k 199 (.pair iF (.pair .bool .unit)) [.val iF bD, .val bR e_1]
noncomputable def ay (k : Nat) (bD : aV) : Option aV := run C k 66 iF [.val iF bD]
noncomputable def ay.l0 (k m : Nat) (iA : (List bn)) (oL : Int) (kT : Int) (bU : (List aF)) (bN : Int) (bO : Int) (fP : (List bE)) (kQ : (List bn)) (Vx : (List Int)) (Vy : (List aU)) (Vz : (List bE)) (yX : Int) (yY : Int) (zW : Int) (zX : Int) (zY : Int) (zZ : Int) (s2 : (List bn)) : Option aV := cB C k 66 iF [0] [.r, .r, .l, .r, .b] [] [1, 2, 3, 8, 9, 10] m ⟨[.one (.cell (.ptr 1 0)), .one (.cell (.ptr 5 0)), .one (.cell (.ref 9)), .one (.cell (.list false bV iA)), .one (.cell (.int .i64 oL)), .one (.cell (.int .i64 kT))], [.box (some iF) [.list false bR bU, .int .i64 bN, .int .i64 bO, .list false dn fP, .list false bV kQ, .list false (.int .i64) Vx, .list false dY Vy, .list false dn Vz, .int .i64 yX, .int .i64 yY], .box (some iF) [.nil, .int .i64 zW, .int .i64 zX, .nil, .nil, .nil, .nil, .nil, .int .i64 zY, .int .i64 zZ], .arr bV s2 .open]⟩
noncomputable def kg (k : Nat) (bD : aV) (a_1 : aF) : Option (Bool × aV) := run C k 98 (.pair .bool iF) [.gJ iF bD, .rp bR a_1]
noncomputable def ql (k : Nat) (jB : eH) : Option (Int × eH) := run C k 202 (.pair (.int .i64) gG) [.gJ gG jB]
noncomputable def lJ (k : Nat) (bD : aV) (a_1 : aF) : Option (Bool × aV) := run C k 101 (.pair .bool iF) [.gJ iF bD, .rp bR a_1]
noncomputable def lK (k : Nat) (bD : aV) (a_1 : bE) : Option (Bool × aV) := run C k 103 (.pair .bool iF) [.gJ iF bD, .rp dn a_1]
noncomputable def mF (k : Nat) (bD : aV) (a_1 : Int) : Option (Bool × aV) := run C k 107 (.pair .bool iF) [.gJ iF bD, .rp (.int .i64) a_1]
noncomputable def ko (k : Nat) (bD : aV) (a_1 : Int) : Option (Bool × aV) := run C k 109 (.pair .bool iF) [.gJ iF bD, .rp (.int .i64) a_1]
noncomputable def bA (k : Nat) (jB : eH) : Option ((List bn) × eH) := run C k 208 (.pair (.list bV) gG) [.gJ gG jB]
noncomputable def bA.l0 (k m : Nat) (nS : Int) (bU : (List Int)) (bN : Int) (bO : Int) (s1 : (List bn)) : Option ((List bn) × eH) := nG C k 208 (.pair (.list bV) gG) 0 gG 1 [.r, .r, .l, .r, .b] [] [0, 3, 4] m ⟨[.one (.cell (.ptr 1 0)), .one (.cell (.ref 5)), .one (.cell (.int .i64 nS))], [.box (some gG) [.list true (.int .u8) bU, .int .i64 bN, .int .i64 bO], .arr bV s1 .open]⟩
noncomputable def bA.l1 (k m m1 : Nat) (nS : Int) (Oq : Int) (bU : (List Int)) (bN : Int) (bO : Int) (s1 : (List bn)) (BZ : Int) (qG : Int) (qH : Int) : Option ((List bn) × eH) := nG C k 208 (.pair (.list bV) gG) 0 gG 1 [.r, .r, .l, .r, .b, .p, .r, .l, .b, .r, .l, .r, .b] [⟨[0, 3, 4], m1⟩] [0, 3, 4, 5, 6] m ⟨[.one (.cell (.ptr 1 0)), .one (.cell (.ref 5)), .one (.cell (.int .i64 nS)), .one (.cell (.ptr 9 0)), .one (.cell (.int .i64 Oq))], [.box (some gG) [.list true (.int .u8) bU, .int .i64 bN, .int .i64 bO], .arr bV s1 .open, .box (some bV) [.int .i64 BZ, .int .i64 qG, .int .i64 qH, .nil]]⟩
noncomputable def bA.l2 (k m m1 : Nat) (nS : Int) (Oq : Int) (bU : (List Int)) (bN : Int) (bO : Int) (s1 : (List bn)) (BZ : Int) (qG : Int) (qH : Int) (s3 : (List Int)) : Option ((List bn) × eH) := nG C k 208 (.pair (.list bV) gG) 0 gG 1 [.r, .r, .l, .r, .b, .p, .r, .l, .b, .r, .l, .r, .b] [⟨[0, 3, 4], m1⟩] [0, 3, 4, 5, 6] m ⟨[.one (.cell (.ptr 1 0)), .one (.cell (.ref 5)), .one (.cell (.int .i64 nS)), .one (.cell (.ptr 9 0)), .one (.cell (.int .i64 Oq))], [.box (some gG) [.list true (.int .u8) bU, .int .i64 bN, .int .i64 bO], .arr bV s1 .open, .box (some bV) [.int .i64 BZ, .int .i64 qG, .int .i64 qH, .ref 13], .arr (.int .i64) s3 .open]⟩
noncomputable def dF (k : Nat) (bD : aV) (a_1 : bn) : Option (Bool × aV) := run C k 116 (.pair .bool iF) [.gJ iF bD, .rp bV a_1]
noncomputable def dF.l0 (k m : Nat) (t_1 : bn) (Ep : Int) (iP : Int) (jH : Int) (bN : Int) (bO : Int) (yX : Int) (yY : Int) (s1 : (List bn)) (s2 : (List aF)) (s3 : (List bE)) (s4 : (List Int)) (s5 : (List aU)) (s6 : (List bE)) : Option (Bool × aV) := nG C k 116 (.pair .bool iF) 0 iF 2 [.r, .r, .l, .r, .b] [] [0, 1, 4, 10, 11, 12] m ⟨[.one (.cell (.ptr 1 0)), .one (.cell (.pF false bV t_1 0)), .one (.cell (.int .i64 Ep)), .one (.cell (.ref 5)), .one (.cell (.int .i64 iP)), .one (.cell (.int .i64 jH))], [.box (some iF) [.ref 9, .int .i64 bN, .int .i64 bO, .ref 13, .ref 5, .ref 17, .ref 21, .ref 25, .int .i64 yX, .int .i64 yY], .arr bV s1 .open, .arr bR s2 .open, .arr dn s3 .open, .arr (.int .i64) s4 .open, .arr dY s5 .open, .arr dn s6 .open]⟩
noncomputable def mG (k : Nat) (bD : aV) (a_1 : Int) (a_2 : Int) (XP : Int) (a_4 : Int) : Option (Bool × aV) := run C k 119 (.pair .bool iF) [.gJ iF bD, .rp (.int .i64) a_1, .rp (.int .i64) a_2, .rp (.int .i64) XP, .rp (.int .i64) a_4]
noncomputable def mH (k : Nat) (bD : aV) (a_1 : Int) : Option (Bool × aV) := run C k 122 (.pair .bool iF) [.gJ iF bD, .rp (.int .i64) a_1]
noncomputable def iW (k : Nat) (a_0 : aF) (b_1 : aF) : Option Int := run C k 164 (.int .i64) [.val bR a_0, .val bR b_1]
noncomputable def nM (k : Nat) (a_0 : aU) (b_1 : aU) : Option Int := run C k 176 (.int .i64) [.val dY a_0, .val dY b_1]
noncomputable def aQ (k : Nat) (aB : (List bn)) : Option Bool := run C k 177 .bool [.val (.list bV) aB]
noncomputable def aQ.l0 (k m : Nat) (aB : (List bn)) (eD : (List bn)) (iA : Int) (oL : Int) (s0 : (List Int)) : Option Bool := cB C k 177 .bool [0] [.r, .r, .l, .r, .b] [] [0, 3, 7, 8, 9] m ⟨[.one (.cell (.list false bV aB)), .one (.cell (.ref 1)), .one (.cell (.list false bV eD)), .one (.cell (.int .i64 iA)), .one (.cell (.int .i64 oL))], [.arr (.int .i64) s0 .open]⟩
noncomputable def dw (k : Nat) (s_0 : (List Int)) (v_1 : Int) : Option Bool := run C k 178 .bool [.val (.list (.int .i64)) s_0, .val (.int .i64) v_1]
noncomputable def iD (k : Nat) (s_0 : (List bn)) (fu : Int) (Da : (List aF)) (Db : Int) : Option Bool := run C k 179 .bool [.val (.list bV) s_0, .oq 180 [.ro (.int .i64) fu, .ro (.list bR) Da, .ro (.int .i64) Db]]
noncomputable def mZ (k : Nat) (a_0 : bn) (b_1 : bn) : Option Bool := run C k 125 .bool [.val bV a_0, .val bV b_1]
noncomputable def yC (k : Nat) (jB : eH) : Option (bE × eH) := run C k 167 (.pair dn gG) [.gJ gG jB]
noncomputable def fK (k : Nat) (jB : eH) : Option ((List bn) × eH) := run C k 168 (.pair (.list bV) gG) [.gJ gG jB]
noncomputable def fK.l0 (k m : Nat) (nS : Int) (bU : (List Int)) (bN : Int) (bO : Int) (s1 : (List bn)) : Option ((List bn) × eH) := nG C k 168 (.pair (.list bV) gG) 0 gG 1 [.r, .r, .l, .r, .b] [] [0, 3, 4] m ⟨[.one (.cell (.ptr 1 0)), .one (.cell (.ref 5)), .one (.cell (.int .i64 nS))], [.box (some gG) [.list true (.int .u8) bU, .int .i64 bN, .int .i64 bO], .arr bV s1 .open]⟩
noncomputable def qR (k : Nat) (JE : bE) (Az : (List bn)) : Option (aV × (Bool × Unit)) := run C k 166 (.pair iF (.pair .bool .unit)) [.val dn JE, .val (.list bV) Az]
noncomputable def gQ (k : Nat) (jB : eH) : Option ((List aF) × eH) := run C k 170 (.pair (.list bR) gG) [.gJ gG jB]
noncomputable def gQ.l0 (k m : Nat) (je : Int) (bU : (List Int)) (bN : Int) (bO : Int) (s1 : (List aF)) (s2 : (List aF)) : Option ((List aF) × eH) := nG C k 170 (.pair (.list bR) gG) 0 gG 1 [.r, .r, .r, .l, .r, .b] [] [0, 3, 4, 5] m ⟨[.one (.cell (.ptr 1 0)), .one (.cell (.ref 5)), .one (.cell (.ref 9)), .one (.cell (.int .i64 je))], [.box (some gG) [.list true (.int .u8) bU, .int .i64 bN, .int .i64 bO], .arr bR s1 .open, .arr bR s2 .open]⟩
noncomputable def iH (k : Nat) (jB : eH) : Option ((List bE) × eH) := run C k 232 (.pair (.list dn) gG) [.gJ gG jB]
noncomputable def iH.l0 (k m : Nat) (Ep : Int) (je : Int) (bU : (List Int)) (bN : Int) (bO : Int) (s1 : (List bE)) : Option ((List bE) × eH) := nG C k 232 (.pair (.list dn) gG) 0 gG 1 [.r, .r, .r, .l, .r, .b] [] [0, 3, 4, 5] m ⟨[.one (.cell (.ptr 1 0)), .one (.cell (.ref 5)), .one (.cell (.int .i64 Ep)), .one (.cell (.int .i64 je))], [.box (some gG) [.list true (.int .u8) bU, .int .i64 bN, .int .i64 bO], .arr dn s1 .open]⟩
noncomputable def iI (k : Nat) (jB : eH) : Option ((List aU) × eH) := run C k 233 (.pair (.list dY) gG) [.gJ gG jB]
noncomputable def iI.l0 (k m : Nat) (nS : Int) (bU : (List Int)) (bN : Int) (bO : Int) (s1 : (List aU)) : Option ((List aU) × eH) := nG C k 233 (.pair (.list dY) gG) 0 gG 1 [.r, .r, .l, .r, .b] [] [0, 3, 4] m ⟨[.one (.cell (.ptr 1 0)), .one (.cell (.ref 5)), .one (.cell (.int .i64 nS))], [.box (some gG) [.list true (.int .u8) bU, .int .i64 bN, .int .i64 bO], .arr dY s1 .open]⟩
noncomputable def iJ (k : Nat) (jB : eH) : Option ((List bE) × eH) := run C k 234 (.pair (.list dn) gG) [.gJ gG jB]
noncomputable def iJ.l0 (k m : Nat) (ZR : Int) (je : Int) (bU : (List Int)) (bN : Int) (bO : Int) (s1 : (List bE)) : Option ((List bE) × eH) := nG C k 234 (.pair (.list dn) gG) 0 gG 1 [.r, .r, .r, .l, .r, .b] [] [0, 3, 4, 5] m ⟨[.one (.cell (.ptr 1 0)), .one (.cell (.ref 5)), .one (.cell (.int .i64 ZR)), .one (.cell (.int .i64 je))], [.box (some gG) [.list true (.int .u8) bU, .int .i64 bN, .int .i64 bO], .arr dn s1 .open]⟩
noncomputable def lM (k : Nat) (aB : (List bn)) (bF : (List aF)) (gy : Int) : Option ((List Int) × (Bool × Unit)) := run C k 235 (.pair (.list (.int .i64)) (.pair .bool .unit)) [.val (.list bV) aB, .val (.list bR) bF, .val (.int .i64) gy]
noncomputable def jS (k : Nat) (bD : aV) : Option aV := run C k 134 iF [.val iF bD]
noncomputable def fq (k : Nat) (x_0 : Int) (Gu : Int) (yD : Int) : Option Bool := run C k 236 .bool [.val (.int .i64) x_0, .val (.int .i64) Gu, .val (.int .i64) yD]
noncomputable def lZ (k : Nat) (bD : aV) (Ot : aV) (XQ : Bool) : Option (aV × (Bool × Unit)) := run C k 136 (.pair iF (.pair .bool .unit)) [.val iF bD, .give iF Ot, .val .bool XQ]
noncomputable def qU (k : Nat) (aB : (List aU)) (x_1 : aU) : Option (List aU) := run C k 237 (.list dY) [.val (.list dY) aB, .val dY x_1]
noncomputable def eU (k : Nat) (a_0 : (List aU)) (b_1 : (List aU)) : Option Bool := run C k 238 .bool [.val (.list dY) a_0, .val (.list dY) b_1]
noncomputable def eU.l0 (k m : Nat) (a_0 : (List aU)) (b_1 : (List aU)) (je : Int) : Option Bool := cB C k 238 .bool [0, 0] [.r, .r, .l, .r, .b] [] [0, 1, 5] m ⟨[.one (.cell (.list false dY a_0)), .one (.cell (.list false dY b_1)), .one (.cell (.int .i64 je))], []⟩
noncomputable def mP (k : Nat) (aB : (List aF)) (e_1 : aF) : Option ((List aF) × (Bool × Unit)) := run C k 226 (.pair (.list bR) (.pair .bool .unit)) [.val (.list bR) aB, .val bR e_1]
noncomputable def IV (k : Nat) (a_0 : Int) (b_1 : Int) : Option Int := run C k 239 (.int .i64) [.val (.int .i64) a_0, .val (.int .i64) b_1]
noncomputable def nX (k : Nat) (p_0 : bn) : Option bn := run C k 118 bV [.val bV p_0]
noncomputable def bJ (k : Nat) (aB : (List aF)) : Option (List aF) := run C k 171 (.list bR) [.val (.list bR) aB]
noncomputable def mQ (k : Nat) (aB : (List bE)) : Option (List bE) := run C k 172 (.list dn) [.val (.list dn) aB]
noncomputable def qV (k : Nat) (aB : (List Int)) : Option (List Int) := run C k 173 (.list (.int .i64)) [.val (.list (.int .i64)) aB]
noncomputable def iO (k : Nat) (aB : (List aU)) : Option (List aU) := run C k 174 (.list dY) [.val (.list dY) aB]
noncomputable def mg (k : Nat) (aB : (List bE)) : Option (List bE) := run C k 175 (.list dn) [.val (.list dn) aB]
noncomputable def wX (k : Nat) (aB : (List aF)) (e_1 : aF) : Option ((List aF) × (Bool × Unit)) := run C k 99 (.pair (.list bR) (.pair .bool .unit)) [.val (.list bR) aB, .val bR e_1]
noncomputable def vQ (k : Nat) (aB : (List aF)) (e_1 : aF) : Option ((List aF) × (Bool × Unit)) := run C k 102 (.pair (.list bR) (.pair .bool .unit)) [.val (.list bR) aB, .val bR e_1]
noncomputable def bf (k : Nat) (s_0 : (List bE)) (fu : bE) : Option Int := run C k 104 (.int .i64) [.val (.list dn) s_0, .oq 105 [.ro dn fu]]
noncomputable def bf.l0 (k m : Nat) (s_0 : (List bE)) (jv : bE) (eD : Int) (iA : Int) : Option Int := cB C k 104 (.int .i64) [0, 0] [.r, .l, .r, .b] [] [0, 1, 7, 8] m ⟨[.one (.cell (.list false dn s_0)), .one (.cell (.oq 105 [.ro dn jv])), .one (.cell (.int .i64 eD)), .one (.cell (.int .i64 iA))], []⟩
noncomputable def kW (k : Nat) (s_0 : (List bE)) (Dc : Int) (Mq : (List bE)) : Option (List bE) := run C k 106 (.list dn) [.give (.list dn) s_0, .val (.int .i64) Dc, .val (.list dn) Mq]
noncomputable def sj (k : Nat) (aB : (List bn)) (bF : (List aF)) (gy : Int) : Option ((List Int) × (Bool × Unit)) := run C k 108 (.pair (.list (.int .i64)) (.pair .bool .unit)) [.val (.list bV) aB, .val (.list bR) bF, .val (.int .i64) gy]
noncomputable def aS (k : Nat) (s_0 : (List bn)) (fu : Int) : Option Int := run C k 110 (.int .i64) [.val (.list bV) s_0, .oq 111 [.ro (.int .i64) fu]]
noncomputable def aS.l0 (k m : Nat) (s_0 : (List bn)) (jv : Int) (eD : Int) (iA : Int) : Option Int := cB C k 110 (.int .i64) [0, 0] [.r, .l, .r, .b] [] [0, 1, 7, 8] m ⟨[.one (.cell (.list false bV s_0)), .one (.cell (.oq 111 [.ro (.int .i64) jv])), .one (.cell (.int .i64 eD)), .one (.cell (.int .i64 iA))], []⟩
noncomputable def aC (k : Nat) (s_0 : (List Int)) (v_1 : Int) : Option Int := run C k 112 (.int .i64) [.val (.list (.int .i64)) s_0, .val (.int .i64) v_1]
noncomputable def aC.l0 (k m : Nat) (s_0 : (List Int)) (v_1 : Int) (eD : Int) (iA : Int) : Option Int := cB C k 112 (.int .i64) [0, 0] [.r, .l, .r, .b] [] [0, 1, 7, 8] m ⟨[.one (.cell (.list false (.int .i64) s_0)), .one (.cell (.int .i64 v_1)), .one (.cell (.int .i64 eD)), .one (.cell (.int .i64 iA))], []⟩
noncomputable def dR (k : Nat) (aB : (List bn)) (bF : (List aF)) (bZ : (List Int)) (pq : Int) : Option (Int × (Bool × Unit)) := run C k 113 (.pair (.int .i64) (.pair .bool .unit)) [.val (.list bV) aB, .val (.list bR) bF, .val (.list (.int .i64)) bZ, .val (.int .i64) pq]
noncomputable def dR.l0 (k m : Nat) (bF : (List aF)) (bZ : (List Int)) (pq : Int) (vO : (List bn)) (Tj : Int) (IW : Int) : Option (Int × (Bool × Unit)) := cB C k 113 (.pair (.int .i64) (.pair .bool .unit)) [0, 0, 0, 0] [.r, .r, .l, .r, .b] [] [1, 2, 3, 24, 25, 26] m ⟨[.one (.cell (.list false bR bF)), .one (.cell (.list false (.int .i64) bZ)), .one (.cell (.int .i64 pq)), .one (.cell (.list false bV vO)), .one (.cell (.int .i64 Tj)), .one (.cell (.int .i64 IW))], []⟩
noncomputable def jg (k : Nat) (s_0 : (List bn)) (Dc : Int) (XR : Int) : Option (List bn) := run C k 114 (.list bV) [.give (.list bV) s_0, .val (.int .i64) Dc, .val (.int .i64) XR]
noncomputable def kG (k : Nat) (s_0 : (List bn)) (Dc : Int) (Mq : (List bn)) : Option (List bn) := run C k 117 (.list bV) [.give (.list bV) s_0, .val (.int .i64) Dc, .val (.list bV) Mq]
noncomputable def yE (k : Nat) (aB : (List aU)) (x_1 : aU) : Option (List aU) := run C k 120 (.list dY) [.val (.list dY) aB, .val dY x_1]
noncomputable def cmp_Compare_int (k : Nat) (x_0 : Int) (y_1 : Int) : Option Int := run C k 223 (.int .i64) [.val (.int .i64) x_0, .val (.int .i64) y_1]
noncomputable def bX (k : Nat) (vK : (List Int)) : Option Int := run C k 222 (.int .i64) [.val (.list (.int .i64)) vK]
noncomputable def bX.l0 (k m : Nat) (rP : Int) (tQ : (List Int)) (eD : Int) (iA : Int) : Option Int := cB C k 222 (.int .i64) [0] [.r, .r, .l, .r, .b] [] [3, 6, 7, 8] m ⟨[.one (.cell (.int .i64 rP)), .one (.cell (.list false (.int .i64) tQ)), .one (.cell (.int .i64 eD)), .one (.cell (.int .i64 iA))], []⟩
noncomputable def aW (k : Nat) (aB : (List Int)) (dU : Int) (cO : Int) : Option Bool := run C k 227 .bool [.val (.list (.int .i64)) aB, .val (.int .i64) dU, .val (.int .i64) cO]
noncomputable def aW.l0 (k m : Nat) (aB : (List Int)) (dU : Int) (cO : Int) (oL : (List Int)) (kT : Int) (iP : Int) : Option Bool := cB C k 227 .bool [0, 0, 0] [.r, .l, .r, .b] [] [0, 1, 2, 9, 10, 11] m ⟨[.one (.cell (.list false (.int .i64) aB)), .one (.cell (.int .i64 dU)), .one (.cell (.int .i64 cO)), .one (.cell (.list false (.int .i64) oL)), .one (.cell (.int .i64 kT)), .one (.cell (.int .i64 iP))], []⟩
noncomputable def aT (k : Nat) (s_0 : (List bn)) (fu : Int) (Da : (List aF)) (Db : Int) : Option Int := run C k 110 (.int .i64) [.val (.list bV) s_0, .oq 180 [.ro (.int .i64) fu, .ro (.list bR) Da, .ro (.int .i64) Db]]
noncomputable def aT.l0 (k m : Nat) (s_0 : (List bn)) (jv : Int) (Df : (List aF)) (Dg : Int) (eD : Int) (iA : Int) : Option Int := cB C k 110 (.int .i64) [0, 0] [.r, .l, .r, .b] [] [0, 1, 7, 8] m ⟨[.one (.cell (.list false bV s_0)), .one (.cell (.oq 180 [.ro (.int .i64) jv, .ro (.list bR) Df, .ro (.int .i64) Dg])), .one (.cell (.int .i64 eD)), .one (.cell (.int .i64 iA))], []⟩
noncomputable def fM (k : Nat) (bD : aV) : Option Bool := run C k 212 .bool [.val iF bD]
noncomputable def gN (k : Nat) (jB : eH) (eZ : Int) (yD : Int) : Option ((List aF) × eH) := run C k 225 (.pair (.list bR) gG) [.gJ gG jB, .val (.int .i64) eZ, .val (.int .i64) yD]
noncomputable def gN.l0 (k m : Nat) (eZ : Int) (Qg : Int) (IX : Int) (bU : (List Int)) (bN : Int) (bO : Int) (s1 : (List aF)) : Option ((List aF) × eH) := nG C k 225 (.pair (.list bR) gG) 0 gG 3 [.r, .r, .r, .l, .r, .b] [] [0, 1, 7, 8, 9] m ⟨[.one (.cell (.ptr 1 0)), .one (.cell (.int .i64 eZ)), .one (.cell (.ref 5)), .one (.cell (.int .i64 Qg)), .one (.cell (.int .i64 IX))], [.box (some gG) [.list true (.int .u8) bU, .int .i64 bN, .int .i64 bO], .arr bR s1 .open]⟩
noncomputable def yF (k : Nat) (jB : eH) : Option (aU × eH) := run C k 224 (.pair dY gG) [.gJ gG jB]
noncomputable def aK (k : Nat) (aB : (List bn)) : Option Bool := run C k 267 .bool [.val (.list bV) aB]
noncomputable def aK.l0 (k m : Nat) (aB : (List bn)) (iQ : Int) : Option Bool := cB C k 267 .bool [0] [.r, .l, .r, .b] [] [0, 3] m ⟨[.one (.cell (.list false bV aB)), .one (.cell (.int .i64 iQ))], []⟩
noncomputable def aK.l1 (k m m1 : Nat) (aB : (List bn)) (iQ : Int) (eT : Int) (bU : Int) (bN : Int) (bO : Int) (fP : (List Int)) : Option Bool := cB C k 267 .bool [0] [.r, .l, .r, .b, .p, .r, .l, .b, .r, .r, .r, .b] [⟨[0, 3], m1⟩] [0, 3, 4, 5] m ⟨[.one (.cell (.list false bV aB)), .one (.cell (.int .i64 iQ)), .one (.cell (.ptr 1 0)), .one (.cell (.int .i64 eT))], [.box (some bV) [.int .i64 bU, .int .i64 bN, .int .i64 bO, .list true (.int .i64) fP]]⟩
noncomputable def dO (k : Nat) (aB : (List aF)) : Option Bool := run C k 247 .bool [.val (.list bR) aB]
noncomputable def dO.l0 (k m : Nat) (aB : (List aF)) (iQ : Int) : Option Bool := cB C k 247 .bool [0] [.r, .l, .r, .b] [] [0, 3] m ⟨[.one (.cell (.list false bR aB)), .one (.cell (.int .i64 iQ))], []⟩
noncomputable def cK (k : Nat) (aB : (List bn)) (bF : (List aF)) (gy : Int) (jT : (List Int)) : Option ((List Int) × (Bool × Unit)) := run C k 268 (.pair (.list (.int .i64)) (.pair .bool .unit)) [.val (.list bV) aB, .val (.list bR) bF, .val (.int .i64) gy, .val (.list (.int .i64)) jT]
noncomputable def cK.l0 (k m : Nat) (aB : (List bn)) (bF : (List aF)) (gy : Int) (jT : (List Int)) (Ab : Int) : Option ((List Int) × (Bool × Unit)) := cB C k 268 (.pair (.list (.int .i64)) (.pair .bool .unit)) [0, 0, 0, 0] [.r, .r, .l, .r, .b] [] [0, 1, 2, 3, 10] m ⟨[.one (.cell (.list false bV aB)), .one (.cell (.list false bR bF)), .one (.cell (.int .i64 gy)), .one (.cell (.list false (.int .i64) jT)), .one (.cell (.int .i64 Ab))], []⟩
noncomputable def gW (k : Nat) (aB : (List bn)) : Option (List bn) := run C k 135 (.list bV) [.val (.list bV) aB]
noncomputable def gW.l0 (k m : Nat) (aB : (List bn)) (nS : Int) (s0 : (List bn)) : Option (List bn) := cB C k 135 (.list bV) [0] [.r, .r, .l, .r, .b] [] [0, 3, 4] m ⟨[.one (.cell (.list false bV aB)), .one (.cell (.ref 1)), .one (.cell (.int .i64 nS))], [.arr bV s0 .open]⟩
noncomputable def iY (k : Nat) (aB : (List aU)) (x_1 : aU) : Option (List aU) := run C k 269 (.list dY) [.val (.list dY) aB, .val dY x_1]
noncomputable def iY.l0 (k m : Nat) (aB : (List aU)) (eT : Int) (bU : Int) (bN : Int) (bO : Int) (fP : Int) (kQ : Int) : Option (List aU) := cB C k 269 (.list dY) [0, 0] [.r, .r, .l, .b] [] [0, 3, 5] m ⟨[.one (.cell (.list false dY aB)), .one (.cell (.ptr 1 0)), .one (.cell (.int .i64 eT))], [.box (some dY) [.int .i64 bU, .int .i64 bN, .int .i64 bO, .int .i64 fP, .int .i64 kQ]]⟩
noncomputable def dX (k : Nat) (aB : (List aU)) : Option Bool := run C k 250 .bool [.val (.list dY) aB]
noncomputable def dX.l0 (k m : Nat) (aB : (List aU)) (iQ : Int) : Option Bool := cB C k 250 .bool [0] [.r, .l, .r, .b] [] [0, 3] m ⟨[.one (.cell (.list false dY aB)), .one (.cell (.int .i64 iQ))], []⟩
noncomputable def jI (k : Nat) (aB : (List aF)) (e_1 : aF) : Option (List aF) := run C k 255 (.list bR) [.val (.list bR) aB, .val bR e_1]
noncomputable def jI.l0 (k m : Nat) (aB : (List aF)) (eT : Int) (bU : Int) (bN : Int) (bO : Int) (fP : Int) : Option (List aF) := cB C k 255 (.list bR) [0, 0] [.r, .r, .l, .b] [] [0, 3, 5] m ⟨[.one (.cell (.list false bR aB)), .one (.cell (.ptr 1 0)), .one (.cell (.int .i64 eT))], [.box (some bR) [.int .i64 bU, .int .i64 bN, .int .i64 bO, .int .i64 fP]]⟩
noncomputable def bg (k : Nat) (s_0 : (List aF)) (fu : aF) : Option Int := run C k 194 (.int .i64) [.val (.list bR) s_0, .oq 200 [.ro bR fu]]
noncomputable def bg.l0 (k m : Nat) (s_0 : (List aF)) (jv : aF) (eD : Int) (iA : Int) : Option Int := cB C k 194 (.int .i64) [0, 0] [.r, .l, .r, .b] [] [0, 1, 7, 8] m ⟨[.one (.cell (.list false bR s_0)), .one (.cell (.oq 200 [.ro bR jv])), .one (.cell (.int .i64 eD)), .one (.cell (.int .i64 iA))], []⟩
noncomputable def jq (k : Nat) (s_0 : (List aF)) (Dc : Int) (Mq : (List aF)) : Option (List aF) := run C k 201 (.list bR) [.give (.list bR) s_0, .val (.int .i64) Dc, .val (.list bR) Mq]
noncomputable def cu (k : Nat) (s_0 : (List aF)) (v_1 : aF) : Option Int := run C k 203 (.int .i64) [.val (.list bR) s_0, .val bR v_1]
noncomputable def cu.l0 (k m : Nat) (s_0 : (List aF)) (eD : Int) (iA : Int) (bU : Int) (bN : Int) (bO : Int) (fP : Int) : Option Int := cB C k 203 (.int .i64) [0, 0] [.r, .l, .r, .b] [] [0, 3, 7, 8] m ⟨[.one (.cell (.list false bR s_0)), .one (.cell (.ptr 1 0)), .one (.cell (.int .i64 eD)), .one (.cell (.int .i64 iA))], [.box (some bR) [.int .i64 bU, .int .i64 bN, .int .i64 bO, .int .i64 fP]]⟩
noncomputable def kX (k : Nat) (s_0 : (List aF)) (Dc : Int) (XR : Int) : Option (List aF) := run C k 204 (.list bR) [.give (.list bR) s_0, .val (.int .i64) Dc, .val (.int .i64) XR]
noncomputable def vR (k : Nat) (t_0 : bE) (a_1 : bE) : Option Bool := run C k 105 .bool [.val dn t_0, .rp dn a_1]
noncomputable def vS (k : Nat) (p_0 : bn) (a_1 : Int) : Option Bool := run C k 111 .bool [.val bV p_0, .rp (.int .i64) a_1]
noncomputable def jR (k : Nat) (p_0 : bn) (l_1 : (List aF)) (kP : Int) : Option Bool := run C k 181 .bool [.val bV p_0, .val (.list bR) l_1, .val (.int .i64) kP]
noncomputable def IY (k : Nat) (aB : (List aU)) (x_1 : aU) : Option (List aU) := run C k 211 (.list dY) [.give (.list dY) aB, .val dY x_1]
noncomputable def cmp_isNaN_int (k : Nat) (x_0 : Int) : Option Bool := run C k 254 .bool [.val (.int .i64) x_0]
noncomputable def su (k : Nat) (p_0 : bn) (a_1 : Int) (a_2 : (List aF)) (XP : Int) : Option Bool := run C k 180 .bool [.val bV p_0, .rp (.int .i64) a_1, .rp (.list bR) a_2, .rp (.int .i64) XP]
noncomputable def uQ (k : Nat) (JE : bE) : Option Bool := run C k 248 .bool [.val dn JE]
noncomputable def fF (k : Nat) (aB : (List bE)) : Option Bool := run C k 249 .bool [.val (.list dn) aB]
noncomputable def fF.l0 (k m : Nat) (aB : (List bE)) (iQ : Int) : Option Bool := cB C k 249 .bool [0] [.r, .l, .r, .b] [] [0, 3] m ⟨[.one (.cell (.list false dn aB)), .one (.cell (.int .i64 iQ))], []⟩
noncomputable def eB (k : Nat) (aB : (List bE)) : Option Bool := run C k 251 .bool [.val (.list dn) aB]
noncomputable def eB.l0 (k m : Nat) (aB : (List bE)) (iQ : Int) : Option Bool := cB C k 251 .bool [0] [.r, .l, .r, .b] [] [0, 3] m ⟨[.one (.cell (.list false dn aB)), .one (.cell (.int .i64 iQ))], []⟩
noncomputable def aX (k : Nat) (aB : (List bn)) (bF : (List aF)) (bZ : (List Int)) : Option Bool := run C k 252 .bool [.val (.list bV) aB, .val (.list bR) bF, .val (.list (.int .i64)) bZ]
noncomputable def aX.l0 (k m : Nat) (aB : (List bn)) (bF : (List aF)) (bZ : (List Int)) (Bo : Int) : Option Bool := cB C k 252 .bool [0, 0, 0] [.r, .l, .r, .b] [] [0, 1, 2, 7] m ⟨[.one (.cell (.list false bV aB)), .one (.cell (.list false bR bF)), .one (.cell (.list false (.int .i64) bZ)), .one (.cell (.int .i64 Bo))], []⟩
noncomputable def aX.l1 (k m m1 : Nat) (aB : (List bn)) (bF : (List aF)) (bZ : (List Int)) (Bo : Int) (Er : Bool) (Tk : Int) : Option Bool := cB C k 252 .bool [0, 0, 0] [.r, .l, .r, .b, .p, .r, .l, .b, .r, .l, .r, .b] [⟨[0, 1, 2, 7], m1⟩] [0, 1, 2, 7, 8, 9] m ⟨[.one (.cell (.list false bV aB)), .one (.cell (.list false bR bF)), .one (.cell (.list false (.int .i64) bZ)), .one (.cell (.int .i64 Bo)), .one (.cell (.prop (Er = true) (instDecidableEqBool Er true))), .one (.cell (.int .i64 Tk))], []⟩
noncomputable def Es (k : Nat) (Og : aF) : Option Bool := run C k 275 .bool [.val bR Og]
noncomputable def sS (k : Nat) (a_0 : aF) (b_1 : aF) : Option Bool := run C k 276 .bool [.val bR a_0, .val bR b_1]
noncomputable def gP (k : Nat) (aB : (List Int)) (vM : Int) : Option Bool := run C k 279 .bool [.val (.list (.int .i64)) aB, .val (.int .i64) vM]
noncomputable def gP.l0 (k m : Nat) (aB : (List Int)) (vM : Int) (je : Int) : Option Bool := cB C k 279 .bool [0, 0] [.r, .l, .r, .b] [] [0, 1, 5] m ⟨[.one (.cell (.list false (.int .i64) aB)), .one (.cell (.int .i64 vM)), .one (.cell (.int .i64 je))], []⟩
noncomputable def uR (k : Nat) (p_0 : bn) (l_1 : (List aF)) (kP : Int) : Option Bool := run C k 278 .bool [.val bV p_0, .val (.list bR) l_1, .val (.int .i64) kP]
noncomputable def qW (k : Nat) (a_0 : aU) (b_1 : aU) : Option Bool := run C k 277 .bool [.val dY a_0, .val dY b_1]
noncomputable def uS (k : Nat) (a_0 : aU) (b_1 : aU) : Option Bool := run C k 288 .bool [.val dY a_0, .val dY b_1]
noncomputable def uj (k : Nat) (RP : aF) (a_1 : aF) : Option Bool := run C k 200 .bool [.val bR RP, .rp bR a_1]
noncomputable def lX (k : Nat) (aB : (List aF)) (eZ : Int) : Option (List aF) := run C k 83 (.list bR) [.val (.list bR) aB, .val (.int .i64) eZ]
noncomputable def bC (k : Nat) (aB : (List aF)) (dU : Int) (cO : Int) : Option Bool := run C k 228 .bool [.val (.list bR) aB, .val (.int .i64) dU, .val (.int .i64) cO]
noncomputable def bC.l0 (k m : Nat) (aB : (List aF)) (dU : Int) (cO : Int) (oL : (List aF)) (kT : Int) (iP : Int) : Option Bool := cB C k 228 .bool [0, 0, 0] [.r, .l, .r, .b] [] [0, 1, 2, 9, 10, 11] m ⟨[.one (.cell (.list false bR aB)), .one (.cell (.int .i64 dU)), .one (.cell (.int .i64 cO)), .one (.cell (.list false bR oL)), .one (.cell (.int .i64 kT)), .one (.cell (.int .i64 iP))], []⟩
noncomputable def aL (k : Nat) (x_0 : (List aU)) (tK : aU) : Option (Int × (Bool × Unit)) := run C k 244 (.pair (.int .i64) (.pair .bool .unit)) [.val (.list dY) x_0, .val dY tK, .oq 176 []]
noncomputable def aL.l0 (k m : Nat) (x_0 : (List aU)) (ZT : Int) (IX : Int) (JU : Int) (bU : Int) (bN : Int) (bO : Int) (fP : Int) (kQ : Int) : Option (Int × (Bool × Unit)) := cB C k 244 (.pair (.int .i64) (.pair .bool .unit)) [0, 0, 0] [.r, .r, .r, .l, .b] [] [0, 2, 4, 8, 9, 10] m ⟨[.one (.cell (.list false dY x_0)), .one (.cell (.oq 176 [])), .one (.cell (.ptr 1 0)), .one (.cell (.int .i64 ZT)), .one (.cell (.int .i64 IX)), .one (.cell (.int .i64 JU))], [.box (some dY) [.int .i64 bU, .int .i64 bN, .int .i64 bO, .int .i64 fP, .int .i64 kQ]]⟩
noncomputable def qm (k : Nat) (s_0 : (List aU)) (Dc : Int) (Mq : (List aU)) : Option (List aU) := run C k 245 (.list dY) [.give (.list dY) s_0, .val (.int .i64) Dc, .val (.list dY) Mq]
noncomputable def yG (k : Nat) (a_0 : aU) (b_1 : aU) : Option Bool := run C k 246 .bool [.val dY a_0, .val dY b_1]
noncomputable def gB (k : Nat) (aB : (List aF)) (eZ : Int) : Option (List aF) := run C k 292 (.list bR) [.val (.list bR) aB, .val (.int .i64) eZ]
noncomputable def gB.l0 (k m : Nat) (aB : (List aF)) (eZ : Int) (Tm : Int) (s0 : (List aF)) : Option (List aF) := cB C k 292 (.list bR) [0, 0] [.r, .r, .l, .r, .b] [] [0, 1, 5, 6] m ⟨[.one (.cell (.list false bR aB)), .one (.cell (.int .i64 eZ)), .one (.cell (.ref 1)), .one (.cell (.int .i64 Tm))], [.arr bR s0 .open]⟩
noncomputable def fO (k : Nat) (aB : (List aF)) (dU : Int) (cO : Int) : Option Bool := run C k 291 .bool [.val (.list bR) aB, .val (.int .i64) dU, .val (.int .i64) cO]
noncomputable def fO.l0 (k m : Nat) (aB : (List aF)) (dU : Int) (cO : Int) (Bo : Int) : Option Bool := cB C k 291 .bool [0, 0, 0] [.r, .l, .r, .b] [] [0, 1, 2, 7] m ⟨[.one (.cell (.list false bR aB)), .one (.cell (.int .i64 dU)), .one (.cell (.int .i64 cO)), .one (.cell (.int .i64 Bo))], []⟩
noncomputable def aj (k : Nat) (s_0 : (List aF)) (fu : Int) : Option (List aF) := run C k 185 (.list bR) [.give (.list bR) s_0, .oq 189 [.ro (.int .i64) fu]]
noncomputable def aj.l0 (k m : Nat) (nW : Int) (je : Int) (JR : Int) (s0 : (List aF)) : Option (List aF) := cB C k 185 (.list bR) [0, 0] [.r, .r, .r, .l, .r, .b] [] [0, 1, 5, 6] m ⟨[.one (.cell (.ref 1)), .one (.cell (.oq 189 [.ro (.int .i64) nW])), .one (.cell (.int .i64 je)), .one (.cell (.int .i64 JR))], [.arr bR s0 .open]⟩
noncomputable def au (k : Nat) (s_0 : (List aF)) (fu : Int) : Option Int := run C k 194 (.int .i64) [.val (.list bR) s_0, .oq 189 [.ro (.int .i64) fu]]
noncomputable def au.l0 (k m : Nat) (s_0 : (List aF)) (jv : Int) (eD : Int) (iA : Int) : Option Int := cB C k 194 (.int .i64) [0, 0] [.r, .l, .r, .b] [] [0, 1, 7, 8] m ⟨[.one (.cell (.list false bR s_0)), .one (.cell (.oq 189 [.ro (.int .i64) jv])), .one (.cell (.int .i64 eD)), .one (.cell (.int .i64 iA))], []⟩
noncomputable def iV (k : Nat) (Og : aF) (a_1 : Int) : Option Bool := run C k 189 .bool [.val bR Og, .rp (.int .i64) a_1]
theorem yR (k : Nat) (bK) : jo (k + 1) bK =
 (Oo k bK).bind fun q28 =>
 if q28 = true then
 some true
 else (lY k bK).bind fun RQ =>
 (qI k RQ.1 RQ.2.1).bind fun Qh =>
 (pU k bK).bind fun Tn =>
 (qJ k Tn.1 Tn.2.1).bind fun q24 =>
 (pV k bK).bind fun RS =>
 (qK k RS.1 RS.2.1).bind fun q22 =>
 (qL k bK).bind fun Tp =>
 (sN k Tp.1 Tp.2.1).bind fun RU =>
 (pW k bK).bind fun RV =>
 (qN k RV.1 RV.2.1).bind fun Qi =>
 (qO k bK).bind fun Tq =>
 (sO k Tq.1 Tq.2.1).bind fun q16 =>
 (qP k bK).bind fun Qj =>
 (sP k Qj.1 Qj.2.1 Qj.2.2.1 Qj.2.2.2.1 Qj.2.2.2.2.1).bind fun Tt =>
 (qQ k bK).bind fun RX =>
 (sQ k RX.1 RX.2.1).bind fun RY =>
 let x1 : Option Bool :=
  let x2 : Option Bool :=
   let x3 : Option Bool :=
    let x4 : Option Bool :=
     let x5 : Option Bool :=
      let x6 : Option Bool :=
       let x7 : Option Bool :=
        let x8 : Option Bool :=
         jo.l0 k k (decide (Qh.2.1 = true)) (decide (q24.2.1 = true)) (decide (q22.2.1 = true)) (decide (RU.2.1 = true)) (decide (Qi.2.1 = true)) (decide (q16.2.1 = true)) (decide (Tt.2.1 = true)) (decide (RY.2.1 = true)) RQ.1.2.1.1 RQ.1.2.1.2.1 RQ.1.2.2.2.2.2.2.2.1 RQ.1.2.2.2.2.2.2.2.2.1 Qh.1.2.1.1 Qh.1.2.1.2.1 Qh.1.2.2.2.2.2.2.2.1 Qh.1.2.2.2.2.2.2.2.2.1 Tn.1.2.1.1 Tn.1.2.1.2.1 Tn.1.2.2.2.2.2.2.2.1 Tn.1.2.2.2.2.2.2.2.2.1 q24.1.2.1.1 q24.1.2.1.2.1 q24.1.2.2.2.2.2.2.2.1 q24.1.2.2.2.2.2.2.2.2.1 RS.1.2.1.1 RS.1.2.1.2.1 RS.1.2.2.2.2.2.2.2.1 RS.1.2.2.2.2.2.2.2.2.1 q22.1.2.1.1 q22.1.2.1.2.1 q22.1.2.2.2.2.2.2.2.1 q22.1.2.2.2.2.2.2.2.2.1 Tp.1.2.1.1 Tp.1.2.1.2.1 Tp.1.2.2.2.2.2.2.2.1 Tp.1.2.2.2.2.2.2.2.2.1 RU.1.2.1.1 RU.1.2.1.2.1 RU.1.2.2.2.2.2.2.2.1 RU.1.2.2.2.2.2.2.2.2.1 RV.1.2.1.1 RV.1.2.1.2.1 RV.1.2.2.2.2.2.2.2.1 RV.1.2.2.2.2.2.2.2.2.1 Qi.1.2.1.1 Qi.1.2.1.2.1 Qi.1.2.2.2.2.2.2.2.1 Qi.1.2.2.2.2.2.2.2.2.1 Tq.1.1 Tq.1.2.1.1 Tq.1.2.1.2.1 Tq.1.2.2.1 Tq.1.2.2.2.1 Tq.1.2.2.2.2.1 Tq.1.2.2.2.2.2.1 Tq.1.2.2.2.2.2.2.1 Tq.1.2.2.2.2.2.2.2.1 Tq.1.2.2.2.2.2.2.2.2.1 q16.1.2.1.1 q16.1.2.1.2.1 q16.1.2.2.2.2.2.2.2.1 q16.1.2.2.2.2.2.2.2.2.1 Qj.1.2.1.1 Qj.1.2.1.2.1 Qj.1.2.2.2.2.2.2.2.1 Qj.1.2.2.2.2.2.2.2.2.1 Tt.1.2.1.1 Tt.1.2.1.2.1 Tt.1.2.2.2.2.2.2.2.1 Tt.1.2.2.2.2.2.2.2.2.1 RX.1.2.1.1 RX.1.2.1.2.1 RX.1.2.2.2.2.2.2.2.1 RX.1.2.2.2.2.2.2.2.2.1 RY.1.2.1.1 RY.1.2.1.2.1 RY.1.2.2.2.2.2.2.2.1 RY.1.2.2.2.2.2.2.2.2.1 RQ.1.1 RQ.1.2.2.1 RQ.1.2.2.2.1 RQ.1.2.2.2.2.1 RQ.1.2.2.2.2.2.1 RQ.1.2.2.2.2.2.2.1 Qh.1.1 Qh.1.2.2.1 Qh.1.2.2.2.1 Qh.1.2.2.2.2.1 Qh.1.2.2.2.2.2.1 Qh.1.2.2.2.2.2.2.1 Tn.1.1 Tn.1.2.2.1 Tn.1.2.2.2.1 Tn.1.2.2.2.2.1 Tn.1.2.2.2.2.2.1 Tn.1.2.2.2.2.2.2.1 q24.1.1 q24.1.2.2.1 q24.1.2.2.2.1 q24.1.2.2.2.2.1 q24.1.2.2.2.2.2.1 q24.1.2.2.2.2.2.2.1 RS.1.1 RS.1.2.2.1 RS.1.2.2.2.1 RS.1.2.2.2.2.1 RS.1.2.2.2.2.2.1 RS.1.2.2.2.2.2.2.1 q22.1.1 q22.1.2.2.1 q22.1.2.2.2.1 q22.1.2.2.2.2.1 q22.1.2.2.2.2.2.1 q22.1.2.2.2.2.2.2.1 Tp.1.1 Tp.1.2.2.1 Tp.1.2.2.2.1 Tp.1.2.2.2.2.1 Tp.1.2.2.2.2.2.1 Tp.1.2.2.2.2.2.2.1 RU.1.1 RU.1.2.2.1 RU.1.2.2.2.1 RU.1.2.2.2.2.1 RU.1.2.2.2.2.2.1 RU.1.2.2.2.2.2.2.1 RV.1.1 RV.1.2.2.1 RV.1.2.2.2.1 RV.1.2.2.2.2.1 RV.1.2.2.2.2.2.1 RV.1.2.2.2.2.2.2.1 Qi.1.1 Qi.1.2.2.1 Qi.1.2.2.2.1 Qi.1.2.2.2.2.1 Qi.1.2.2.2.2.2.1 Qi.1.2.2.2.2.2.2.1 q16.1.1 q16.1.2.2.1 q16.1.2.2.2.1 q16.1.2.2.2.2.1 q16.1.2.2.2.2.2.1 q16.1.2.2.2.2.2.2.1 Qj.1.1 Qj.1.2.2.1 Qj.1.2.2.2.1 Qj.1.2.2.2.2.1 Qj.1.2.2.2.2.2.1 Qj.1.2.2.2.2.2.2.1 Tt.1.1 Tt.1.2.2.1 Tt.1.2.2.2.1 Tt.1.2.2.2.2.1 Tt.1.2.2.2.2.2.1 Tt.1.2.2.2.2.2.2.1 RX.1.1 RX.1.2.2.1 RX.1.2.2.2.1 RX.1.2.2.2.2.1 RX.1.2.2.2.2.2.1 RX.1.2.2.2.2.2.2.1 RY.1.1 RY.1.2.2.1 RY.1.2.2.2.1 RY.1.2.2.2.2.1 RY.1.2.2.2.2.2.1 RY.1.2.2.2.2.2.2.1
        if RY.2.1 = true then
        (aZ k RY.1).bind fun q0 =>
        if ¬ (q0 = true) then
        some false
        else if (RY.1.2.2.2.2.2.2.2.2.1 : Int) ≠ (IntKind.wrap .i64 (RX.1.2.2.2.2.2.2.2.2.1 + RX.2.1)) then
        some false
        else x8
        else x8
       if Tt.2.1 = true then
       (aZ k Tt.1).bind fun q1 =>
       if ¬ (q1 = true) then
       some false
       else x7
       else x7
      if q16.2.1 = true then
      (aZ k q16.1).bind fun q2 =>
      if ¬ (q2 = true) then
      some false
      else if (((List.length q16.1.2.2.2.1 : Nat) : Int) : Int) ≠ (IntKind.wrap .i64 (((List.length Tq.1.2.2.2.1 : Nat) : Int) + 1)) then
      some false
      else x6
      else x6
     if Qi.2.1 = true then
     (aZ k Qi.1).bind fun q4 =>
     if ¬ (q4 = true) then
     some false
     else (fQ k Qi.1.2.2.2.2.1 RV.2.1).bind fun q3 =>
     if q3 = true then
     some false
     else if (((List.length Qi.1.2.2.2.1 : Nat) : Int) : Int) ≠ (IntKind.wrap .i64 (((List.length RV.1.2.2.2.1 : Nat) : Int) - 1)) then
     some false
     else x5
     else x5
    if RU.2.1 = true then
    (aZ k RU.1).bind fun q5 =>
    if ¬ (q5 = true) then
    some false
    else if (((List.length RU.1.2.2.2.2.1 : Nat) : Int) : Int) ≠ Tp.2.1 then
    some false
    else x4
    else x4
   if q22.2.1 = true then
   (aZ k q22.1).bind fun q7 =>
   if ¬ (q7 = true) then
   some false
   else (gM k q22.1.2.2.1 RS.2.1.1).bind fun q6 =>
   if (q6 : Int) ≠ RS.2.1.2.1 then
   some false
   else x3
   else x3
  if q24.2.1 = true then
  (aZ k q24.1).bind fun q9 =>
  if ¬ (q9 = true) then
  some false
  else (eO k q24.1.1 Tn.2.1).bind fun q8 =>
  if q8 = true then
  some false
  else x2
  else x2
 if Qh.2.1 = true then
 (aZ k Qh.1).bind fun q11 =>
 if ¬ (q11 = true) then
 some false
 else if (Qh.1.2.2.2.2.2.2.2.1 : Int) ≠ (IntKind.wrap .i64 (RQ.1.2.2.2.2.2.2.2.1 + 1)) then
 some false
 else (eO k Qh.1.1 RQ.2.1).bind fun q10 =>
 if ¬ (q10 = true) then
 some false
 else x1
 else x1 := by kernel_rfl
theorem jo.aA (k m : Nat) (Om IK zT CW CX IL zU zV bN bO yX yY zW zX zY zZ qG qH Em En Xf Xg Xh Xi Xj Xk Xl Xm Xn Xo Xp Xq Xr Xt Xu Xv Xw Xx Xy Xz XA XB XC XD XE XF XG XH Rf Rh Ri Rj Rk Rl Rm Rn Ro Rp Rq Rs Rt Ru Rv Rw Rx Ry Rz RA RB RD RF RG RH RI RJ RL RN RO s16 s17 s18 s19 s20 s21 s22 s23 s24 s25 s26 s27 s28 s29 s30 s31 s32 s33 s34 s35 s36 s37 s38 s39 s40 s41 s42 s43 s44 s45 s46 s47 s48 s49 s50 s51 s52 s53 s54 s55 s56 s57 s58 s59 s60 s61 s62 s63 s64 s65 s66 s67 s68 s69 s70 s71 s72 s73 s74 s75 s76 s77 s78 s79 s80 s81 s82 s83 s84 s85 s86 s87 s88 s89 s90 s91 s92 s93 s94 s95 s96 s97 s98 s99 XI XJ XK XL XM XN) : jo.l0 k (m + 1) Om IK zT CW CX IL zU zV bN bO yX yY zW zX zY zZ qG qH Em En Xf Xg Xh Xi Xj Xk Xl Xm Xn Xo Xp Xq Xr Xt Xu Xv Xw Xx Xy Xz XA XB XC XD XE XF XG XH Rf Rh Ri Rj Rk Rl Rm Rn Ro Rp Rq Rs Rt Ru Rv Rw Rx Ry Rz RA RB RD RF RG RH RI RJ RL RN RO s16 s17 s18 s19 s20 s21 s22 s23 s24 s25 s26 s27 s28 s29 s30 s31 s32 s33 s34 s35 s36 s37 s38 s39 s40 s41 s42 s43 s44 s45 s46 s47 s48 s49 s50 s51 s52 s53 s54 s55 s56 s57 s58 s59 s60 s61 s62 s63 s64 s65 s66 s67 s68 s69 s70 s71 s72 s73 s74 s75 s76 s77 s78 s79 s80 s81 s82 s83 s84 s85 s86 s87 s88 s89 s90 s91 s92 s93 s94 s95 s96 s97 s98 s99 XI XJ XK XL XM XN =
 let x1 : Option Bool :=
  let x2 : Option Bool :=
   let x3 : Option Bool :=
    let x4 : Option Bool :=
     let x5 : Option Bool :=
      let x6 : Option Bool :=
       let x7 : Option Bool :=
        if zV = true then
        some true
        else (dD k (s94, ((RF, (RG, ())), (s95, (s96, (s97, (s98, (s99, (RH, (RI, ()))))))))) (XI, ((RJ, (RL, ())), (XJ, (XK, (XL, (XM, (XN, (RN, (RO, ())))))))))).bind fun q0 =>
        some (decide (q0 = true))
       if zU = true then
       x7
       else (dD k (s82, ((Rv, (Rw, ())), (s83, (s84, (s85, (s86, (s87, (Rx, (Ry, ()))))))))) (s88, ((Rz, (RA, ())), (s89, (s90, (s91, (s92, (s93, (RB, (RD, ())))))))))).bind fun q1 =>
       if q1 = true then
       x7
       else some false
      if IL = true then
      x6
      else (dD k (Rf, ((Rh, (Ri, ())), (Rj, (Rk, (Rl, (Rm, (Rn, (Ro, (Rp, ()))))))))) (s76, ((Rq, (Rs, ())), (s77, (s78, (s79, (s80, (s81, (Rt, (Ru, ())))))))))).bind fun q2 =>
      if q2 = true then
      x6
      else some false
     if CX = true then
     x5
     else (dD k (s64, ((XA, (XB, ())), (s65, (s66, (s67, (s68, (s69, (XC, (XD, ()))))))))) (s70, ((XE, (XF, ())), (s71, (s72, (s73, (s74, (s75, (XG, (XH, ())))))))))).bind fun q3 =>
     if q3 = true then
     x5
     else some false
    if CW = true then
    x4
    else (dD k (s52, ((Xr, (Xt, ())), (s53, (s54, (s55, (s56, (s57, (Xu, (Xv, ()))))))))) (s58, ((Xw, (Xx, ())), (s59, (s60, (s61, (s62, (s63, (Xy, (Xz, ())))))))))).bind fun q4 =>
    if q4 = true then
    x4
    else some false
   if zT = true then
   x3
   else (dD k (s40, ((Xj, (Xk, ())), (s41, (s42, (s43, (s44, (s45, (Xl, (Xm, ()))))))))) (s46, ((Xn, (Xo, ())), (s47, (s48, (s49, (s50, (s51, (Xp, (Xq, ())))))))))).bind fun q5 =>
   if q5 = true then
   x3
   else some false
  if IK = true then
  x2
  else (dD k (s28, ((qG, (qH, ())), (s29, (s30, (s31, (s32, (s33, (Em, (En, ()))))))))) (s34, ((Xf, (Xg, ())), (s35, (s36, (s37, (s38, (s39, (Xh, (Xi, ())))))))))).bind fun q6 =>
  if q6 = true then
  x2
  else some false
 if Om = true then
 x1
 else (dD k (s16, ((bN, (bO, ())), (s17, (s18, (s19, (s20, (s21, (yX, (yY, ()))))))))) (s22, ((zW, (zX, ())), (s23, (s24, (s25, (s26, (s27, (zY, (zZ, ())))))))))).bind fun q7 =>
 if q7 = true then
 x1
 else some false := by kernel_rfl
theorem Fg (k : Nat) (bK) : Oo (k + 1) bK =
 some (decide ((1048576 : Int) < ((List.length bK : Nat) : Int))) := by kernel_rfl
theorem kE (k : Nat) (bK) : lY (k + 1) bK =
 (fJ k bK).bind fun r1 =>
 (dx k r1).bind fun r2 =>
 (uP k r2.2).bind fun r3 =>
 (jA k r3.2 5).bind fun r4 =>
 if r4.1 = true then
 (iM k r4.2 ([20, 21, 90, 108, 109])).bind fun r5 =>
 (jA k r5.2 9).bind fun r6 =>
 if r6.1 = true then
 some ((r2.1.1, (r2.1.2.1, (r2.1.2.2.1, (r2.1.2.2.2.1, (r2.1.2.2.2.2.1, (r2.1.2.2.2.2.2.1, (r2.1.2.2.2.2.2.2.1, (9999, r2.1.2.2.2.2.2.2.2.2)))))))), ((r3.1.1, (r3.1.2.1, (r5.1, r3.1.2.2.2))), ()))
 else some (r2.1, ((r3.1.1, (r3.1.2.1, (r5.1, r3.1.2.2.2))), ()))
 else (jA k r4.2 9).bind fun r7 =>
 if r7.1 = true then
 some ((r2.1.1, (r2.1.2.1, (r2.1.2.2.1, (r2.1.2.2.2.1, (r2.1.2.2.2.2.1, (r2.1.2.2.2.2.2.1, (r2.1.2.2.2.2.2.2.1, (9999, r2.1.2.2.2.2.2.2.2.2)))))))), (r3.1, ()))
 else some (r2.1, (r3.1, ())) := by kernel_rfl
theorem Dh (k : Nat) (bD e_1) : qI (k + 1) bD e_1 =
 (uh k bD e_1).bind fun r1 =>
 some (r1.1, (decide (r1.2.1 = true), ())) := by kernel_rfl
theorem mR (k : Nat) (bK) : pU (k + 1) bK =
 (lY k bK).bind fun r1 =>
 (fJ k bK).bind fun r2 =>
 if (0 : Int) < ((List.length r1.1.1 : Nat) : Int) then
 (jA k r2 4).bind fun r3 =>
 if ¬ (r3.1 = true) then
 (aM k r3.2 ((List.length r1.1.1 : Nat) : Int)).bind fun r4 =>
 if 0 <= r4.1 then
 if r4.1 < ((List.length r1.1.1 : Nat) : Int) then
 some (r1.1, ((rd bR r1.1.1 r4.1), ())) else none else none
 else some r1
 else some r1 := by kernel_rfl
theorem Di (k : Nat) (bD e_1) : qJ (k + 1) bD e_1 =
 (rT k bD e_1).bind fun r1 =>
 some (r1.1, (decide (r1.2.1 = true), ())) := by kernel_rfl
theorem yZ (k : Nat) (bK) : pV (k + 1) bK =
 (fJ k bK).bind fun r1 =>
 (dx k r1).bind fun r2 =>
 (iM k r2.2 ([0, 5, 20, 60, 2000, 2001, (-1)])).bind fun r3 =>
 (iM k r3.2 ([60, 90, 20, 300, 19, 301])).bind fun r4 =>
 some (r2.1, ((r3.1, (r4.1, ())), ())) := by kernel_rfl
theorem Dj (k : Nat) (bD x_1) : qK (k + 1) bD x_1 =
 (rU k bD x_1).bind fun r1 =>
 some (r1.1, (decide (r1.2.1 = true), ())) := by kernel_rfl
theorem Ac (k : Nat) (bK) : qL (k + 1) bK =
 (fJ k bK).bind fun r1 =>
 (dx k r1).bind fun r2 =>
 (aM k r2.2 6).bind fun r3 =>
 some (r2.1, (r3.1, ())) := by kernel_rfl
theorem Et (k : Nat) (bD qM) : sN (k + 1) bD qM =
 (rV k bD qM).bind fun r1 =>
 some (r1.1, (decide (r1.2.1 = true), ())) := by kernel_rfl
theorem za (k : Nat) (bK) : pW (k + 1) bK =
 (fJ k bK).bind fun r1 =>
 (dx k r1).bind fun r2 =>
 (aM k r2.2 7).bind fun r3 =>
 some (r2.1, (r3.1, ())) := by kernel_rfl
theorem Dk (k : Nat) (bD id_1) : qN (k + 1) bD id_1 =
 (rW k bD id_1).bind fun r1 =>
 some (r1.1, (decide (r1.2.1 = true), ())) := by kernel_rfl
theorem Ad (k : Nat) (bK) : qO (k + 1) bK =
 (fJ k bK).bind fun r1 =>
 (dx k r1).bind fun r2 =>
 (Aa k r2.2).bind fun r3 =>
 if 0 <= 0 then
 if 0 < ((List.length r3.1 : Nat) : Int) then
 some (r2.1, ((rd bV r3.1 0), ())) else none else none := by kernel_rfl
theorem Eu (k : Nat) (bD p_1) : sO (k + 1) bD p_1 =
 (rX k bD p_1).bind fun r1 =>
 some (r1.1, (decide (r1.2.1 = true), ())) := by kernel_rfl
theorem Ae (k : Nat) (bK) : qP (k + 1) bK =
 (fJ k bK).bind fun r1 =>
 (dx k r1).bind fun r2 =>
 (iM k r2.2 ([1, 2, 5, 100, 0, 101])).bind fun r3 =>
 (aM k r3.2 6).bind fun r4 =>
 (aM k r4.2 11).bind fun r5 =>
 (iM k r5.2 ([1, 2, 99, 100])).bind fun r6 =>
 some (r2.1, (r3.1, (r4.1, (r5.1, (r6.1, ()))))) := by kernel_rfl
theorem Ew (k : Nat) (bD CY yx uO CZ) : sP (k + 1) bD CY yx uO CZ =
 (rY k bD CY yx uO CZ).bind fun r1 =>
 some (r1.1, (decide (r1.2.1 = true), ())) := by kernel_rfl
theorem tL (k : Nat) (bK) : qQ (k + 1) bK =
 (fJ k bK).bind fun r1 =>
 (dx k r1).bind fun r2 =>
 (jA k r2.2 9).bind fun r3 =>
 if r3.1 = true then
 (iM k r3.2 ([1, 5, 1000, 1001, 0])).bind fun r4 =>
 some ((r2.1.1, (r2.1.2.1, (r2.1.2.2.1, (r2.1.2.2.2.1, (r2.1.2.2.2.2.1, (r2.1.2.2.2.2.2.1, (r2.1.2.2.2.2.2.2.1, (r2.1.2.2.2.2.2.2.2.1, (99999, ()))))))))), (r4.1, ()))
 else (iM k r3.2 ([1, 5, 1000, 1001, 0])).bind fun r5 =>
 some (r2.1, (r5.1, ())) := by kernel_rfl
theorem Ey (k : Nat) (bD vM) : sQ (k + 1) bD vM =
 (rZ k bD vM).bind fun r1 =>
 some (r1.1, (decide (r1.2.1 = true), ())) := by kernel_rfl
theorem eP (k : Nat) (bD) : aZ (k + 1) bD =
 (aP k bD.1).bind fun r1 =>
 if r1 = true then
 (yA k bD.2.1).bind fun r2 =>
 if r2 = true then
 (eG k bD.2.2.1).bind fun r3 =>
 if r3 = true then
 (dW k bD.2.2.2.2.2.1).bind fun r4 =>
 if r4 = true then
 (dZ k bD.2.2.2.2.2.2.1).bind fun r5 =>
 if r5 = true then
 (eF k bD.2.2.2.1 bD.1 bD.2.2.2.2.1).bind fun r6 =>
 if r6 = true then
 (aY k bD.2.2.2.2.2.2.2.1 1 9999).bind fun r7 =>
 if r7 = true then
 (aY k bD.2.2.2.2.2.2.2.2.1 0 100000).bind fun r8 =>
 some (decide (r8 = true))
 else some false
 else some false
 else some false
 else some false
 else some false
 else some false
 else some false := by kernel_rfl
theorem Ez (k : Nat) (aB e_1) : eO (k + 1) aB e_1 =
 eO.l0 k k aB 0 e_1.1 e_1.2.1 e_1.2.2.1 e_1.2.2.2.1 := by kernel_rfl
theorem eO.aA (k m : Nat) (aB je bU bN bO fP) : eO.l0 k (m + 1) aB je bU bN bO fP =
 if (je : Int) < ((List.length aB : Nat) : Int) then
 if 0 <= je then
 if je < ((List.length aB : Nat) : Int) then
 if (((rd bR aB je).1 : Int) = bU) /\ ((((rd bR aB je).2.1 : Int) = bN) /\ ((((rd bR aB je).2.2.1 : Int) = bO) /\ (((rd bR aB je).2.2.2.1 : Int) = fP))) then
 some true
 else eO.l0 k m aB (IntKind.wrap .i64 (je + 1)) bU bN bO fP else none else none
 else some false := by kernel_rfl
theorem IZ (k : Nat) (aB vN) : gM (k + 1) aB vN =
 (eG k aB).bind fun r1 =>
 if r1 = true then
 gM.l0 k k vN 0 aB ((List.length aB : Nat) : Int) 0
 else some 0 := by kernel_rfl
theorem gM.aA (k m : Nat) (vN IQ kT iP jH) : gM.l0 k (m + 1) vN IQ kT iP jH =
 if (jH : Int) < iP then
 if 0 <= jH then
 if jH < ((List.length kT : Nat) : Int) then
 if LE.le (α := Int) (rd dn kT jH).1 vN then
 gM.l0 k m vN (rd dn kT jH).2.1 kT iP (IntKind.wrap .i64 (jH + 1))
 else gM.l0 k m vN IQ kT iP (IntKind.wrap .i64 (jH + 1)) else none else none
 else some IQ := by kernel_rfl
theorem EA (k : Nat) (aB vM) : fQ (k + 1) aB vM =
 fQ.l0 k k aB vM 0 := by kernel_rfl
theorem fQ.aA (k m : Nat) (aB vM je) : fQ.l0 k (m + 1) aB vM je =
 if (je : Int) < ((List.length aB : Nat) : Int) then
 if 0 <= je then
 if je < ((List.length aB : Nat) : Int) then
 if Eq (α := Int) (rd (.int .i64) aB je) vM then
 some true
 else fQ.l0 k m aB vM (IntKind.wrap .i64 (je + 1)) else none else none
 else some false := by kernel_rfl
theorem dP (k : Nat) (a_0 b_1) : dD (k + 1) a_0 b_1 =
 (bP k a_0.1 b_1.1).bind fun r1 =>
 if r1 = true then
 if ((a_0.2.1.1 : Int) = b_1.2.1.1) /\ ((a_0.2.1.2.1 : Int) = b_1.2.1.2.1) then
 (bQ k a_0.2.2.1 b_1.2.2.1).bind fun r2 =>
 if r2 = true then
 (aO k a_0.2.2.2.1 b_1.2.2.2.1).bind fun r3 =>
 if r3 = true then
 (bL k a_0.2.2.2.2.1 b_1.2.2.2.2.1).bind fun r4 =>
 if r4 = true then
 (bM k a_0.2.2.2.2.2.1 b_1.2.2.2.2.2.1).bind fun r5 =>
 if r5 = true then
 (bI k a_0.2.2.2.2.2.2.1 b_1.2.2.2.2.2.2.1).bind fun r6 =>
 if r6 = true then
 if (a_0.2.2.2.2.2.2.2.1 : Int) = b_1.2.2.2.2.2.2.2.1 then
 some (decide ((a_0.2.2.2.2.2.2.2.2.1 : Int) = b_1.2.2.2.2.2.2.2.2.1))
 else some false
 else some false
 else some false
 else some false
 else some false
 else some false
 else some false
 else some false := by kernel_rfl
theorem JV (k : Nat) (bK) : fJ (k + 1) bK =
 fJ.l0 k k bK (IntKind.wrap .i64 (193017 + ((List.length bK : Nat) : Int))) 0 := by kernel_rfl
theorem fJ.aA (k m : Nat) (bK h_3 nS) : fJ.l0 k (m + 1) bK h_3 nS =
 if (nS : Int) < ((List.length bK : Nat) : Int) then
 if (nS : Int) < 4000 then
 if 0 <= nS then
 if nS < ((List.length bK : Nat) : Int) then
 fJ.l0 k m bK (IntKind.wrap .i64 (((BitVec.ofInt (IntKind.bits .i64) (IntKind.wrap .i64 ((IntKind.wrap .i64 ((IntKind.wrap .i64 (h_3 * 137)) + (IntKind.wrap .i64 ((rd (.int .u8) bK nS))))) + 11)) &&& BitVec.ofInt (IntKind.bits .i64) 1073741823).toNat : Nat))) (IntKind.wrap .i64 (nS + 1)) else none else none
 else some (bK, (0, (h_3, ())))
 else some (bK, (0, (h_3, ()))) := by kernel_rfl
theorem FC (k : Nat) (jB) : dx (k + 1) jB =
 (yB k jB).bind fun r1 =>
 (aM k r1.2 6).bind fun r2 =>
 dx.l0 k k r2.1 r2.2.1 r2.2.2.1 r2.2.2.2.1 0 0 0 0 r1.1.2.1.1 r1.1.2.1.2.1 r1.1.2.2.2.2.2.2.2.1 r1.1.2.2.2.2.2.2.2.2.1 r1.1.1 r1.1.2.2.1 r1.1.2.2.2.1 r1.1.2.2.2.2.1 r1.1.2.2.2.2.2.1 r1.1.2.2.2.2.2.2.1 := by kernel_rfl
theorem dx.aA (k m : Nat) (nS bU bN bO zW zX zY zZ qG qH Em En s3 s4 s5 s6 s7 s8) : dx.l0 k (m + 1) nS bU bN bO zW zX zY zZ qG qH Em En s3 s4 s5 s6 s7 s8 =
 if (0 : Int) < nS then
 (aM k (bU, (bN, (bO, ()))) 5).bind fun r3 =>
 if (r3.1 : Int) = 0 then
 (aM k r3.2 5).bind fun r4 =>
 (wU k (s3, ((qG, (qH, ())), (s4, (s5, (s6, (s7, (s8, (Em, (En, ()))))))))) (IntKind.wrap .i64 (1 + r4.1))).bind fun r5 =>
 dx.l0 k m (IntKind.wrap .i64 (nS - 1)) r4.2.1 r4.2.2.1 r4.2.2.2.1 zW zX zY zZ r5.1.2.1.1 r5.1.2.1.2.1 r5.1.2.2.2.2.2.2.2.1 r5.1.2.2.2.2.2.2.2.2.1 r5.1.1 r5.1.2.2.1 r5.1.2.2.2.1 r5.1.2.2.2.2.1 r5.1.2.2.2.2.2.1 r5.1.2.2.2.2.2.2.1
 else if (r3.1 : Int) = 1 then
 (aM k r3.2 5).bind fun r6 =>
 (aM k r6.2 4).bind fun r7 =>
 (aM k r7.2 4).bind fun r8 =>
 (aM k r8.2 3).bind fun r9 =>
 (wV k (s3, ((qG, (qH, ())), (s4, (s5, (s6, (s7, (s8, (Em, (En, ()))))))))) (IntKind.wrap .i64 (1 + r6.1)) (IntKind.wrap .i64 (1 + r7.1)) r8.1 (IntKind.wrap .i64 (1 + r9.1))).bind fun Wq =>
 dx.l0 k m (IntKind.wrap .i64 (nS - 1)) r9.2.1 r9.2.2.1 r9.2.2.2.1 zW zX zY zZ Wq.1.2.1.1 Wq.1.2.1.2.1 Wq.1.2.2.2.2.2.2.2.1 Wq.1.2.2.2.2.2.2.2.2.1 Wq.1.1 Wq.1.2.2.1 Wq.1.2.2.2.1 Wq.1.2.2.2.2.1 Wq.1.2.2.2.2.2.1 Wq.1.2.2.2.2.2.2.1
 else if (r3.1 : Int) = 2 then
 (aM k r3.2 3).bind fun r11 =>
 (wW k (s3, ((qG, (qH, ())), (s4, (s5, (s6, (s7, (s8, (Em, (En, ()))))))))) (IntKind.wrap .i64 (1 + r11.1))).bind fun Ws =>
 dx.l0 k m (IntKind.wrap .i64 (nS - 1)) r11.2.1 r11.2.2.1 r11.2.2.2.1 zW zX zY zZ Ws.1.2.1.1 Ws.1.2.1.2.1 Ws.1.2.2.2.2.2.2.2.1 Ws.1.2.2.2.2.2.2.2.2.1 Ws.1.1 Ws.1.2.2.1 Ws.1.2.2.2.1 Ws.1.2.2.2.2.1 Ws.1.2.2.2.2.2.1 Ws.1.2.2.2.2.2.2.1
 else (uP k r3.2).bind fun r13 =>
 (vP k (s3, ((qG, (qH, ())), (s4, (s5, (s6, (s7, (s8, (Em, (En, ()))))))))) r13.1).bind fun Wt =>
 dx.l0 k m (IntKind.wrap .i64 (nS - 1)) r13.2.1 r13.2.2.1 r13.2.2.2.1 zW zX zY zZ Wt.1.2.1.1 Wt.1.2.1.2.1 Wt.1.2.2.2.2.2.2.2.1 Wt.1.2.2.2.2.2.2.2.2.1 Wt.1.1 Wt.1.2.2.1 Wt.1.2.2.2.1 Wt.1.2.2.2.2.1 Wt.1.2.2.2.2.2.1 Wt.1.2.2.2.2.2.2.1
 else some ((s3, ((qG, (qH, ())), (s4, (s5, (s6, (s7, (s8, (Em, (En, ()))))))))), (bU, (bN, (bO, ())))) := by kernel_rfl
theorem FD (k : Nat) (jB) : uP (k + 1) jB =
 (aM k jB 20).bind fun r1 =>
 (aM k r1.2 10).bind fun r2 =>
 (aM k r2.2 18).bind fun r3 =>
 (aM k r3.2 3).bind fun r4 =>
 some ((IntKind.wrap .i64 (6 * r1.1), (IntKind.wrap .i64 (3 * (IntKind.wrap .i64 (1 + r2.1))), (IntKind.wrap .i64 (55 + r3.1), (IntKind.wrap .i64 (1 + r4.1), ())))), r4.2) := by kernel_rfl
theorem Ja (k : Nat) (jB vM) : jA (k + 1) jB vM =
 (aM k jB vM).bind fun r1 =>
 some (decide ((r1.1 : Int) = 0), r1.2) := by kernel_rfl
theorem JW (k : Nat) (jB Eo) : iM (k + 1) jB Eo =
 (aM k jB ((List.length Eo : Nat) : Int)).bind fun r1 =>
 if 0 <= r1.1 then
 if r1.1 < ((List.length Eo : Nat) : Int) then
 some ((rd (.int .i64) Eo r1.1), r1.2) else none else none := by kernel_rfl
theorem Ca (k : Nat) (bD fu) : uh (k + 1) bD fu =
 (ay k bD).bind fun r1 =>
 (kg k r1 fu).bind fun r2 =>
 if ¬ (r2.1 = true) then
 (ay k bD).bind fun r3 =>
 some (r3, (false, ()))
 else (aZ k r2.2).bind fun r4 =>
 if ¬ (r4 = true) then
 (ay k bD).bind fun r5 =>
 some (r5, (false, ()))
 else some (r2.2, (true, ())) := by kernel_rfl
theorem um (k : Nat) (jB vM) : aM (k + 1) jB vM =
 if (vM : Int) <= 0 then
 some (0, jB)
 else if (vM : Int) <= 256 then
 (ql k jB).bind fun r1 =>
 if vM = (0 : Int) then
 none
 else some ((Int.tmod r1.1 vM), r1.2)
 else (ql k jB).bind fun r2 =>
 (ql k r2.2).bind fun r3 =>
 (ql k r3.2).bind fun r4 =>
 if vM = (0 : Int) then
 none
 else some ((Int.tmod (IntKind.wrap .i64 ((IntKind.wrap .i64 ((IntKind.wrap .i64 (r2.1 * 65536)) + (IntKind.wrap .i64 (r3.1 * 256)))) + r4.1)) vM), r4.2) := by kernel_rfl
theorem AL (k : Nat) (bD fu) : rT (k + 1) bD fu =
 (ay k bD).bind fun r1 =>
 (lJ k r1 fu).bind fun r2 =>
 if ¬ (r2.1 = true) then
 (ay k bD).bind fun r3 =>
 some (r3, (false, ()))
 else (aZ k r2.2).bind fun r4 =>
 if ¬ (r4 = true) then
 (ay k bD).bind fun r5 =>
 some (r5, (false, ()))
 else some (r2.2, (true, ())) := by kernel_rfl
theorem AO (k : Nat) (bD fu) : rU (k + 1) bD fu =
 (ay k bD).bind fun r1 =>
 (lK k r1 fu).bind fun r2 =>
 if ¬ (r2.1 = true) then
 (ay k bD).bind fun r3 =>
 some (r3, (false, ()))
 else (aZ k r2.2).bind fun r4 =>
 if ¬ (r4 = true) then
 (ay k bD).bind fun r5 =>
 some (r5, (false, ()))
 else some (r2.2, (true, ())) := by kernel_rfl
theorem AP (k : Nat) (bD fu) : rV (k + 1) bD fu =
 (ay k bD).bind fun r1 =>
 (mF k r1 fu).bind fun r2 =>
 if ¬ (r2.1 = true) then
 (ay k bD).bind fun r3 =>
 some (r3, (false, ()))
 else (aZ k r2.2).bind fun r4 =>
 if ¬ (r4 = true) then
 (ay k bD).bind fun r5 =>
 some (r5, (false, ()))
 else some (r2.2, (true, ())) := by kernel_rfl
theorem AQ (k : Nat) (bD fu) : rW (k + 1) bD fu =
 (ay k bD).bind fun r1 =>
 (ko k r1 fu).bind fun r2 =>
 if ¬ (r2.1 = true) then
 (ay k bD).bind fun r3 =>
 some (r3, (false, ()))
 else (aZ k r2.2).bind fun r4 =>
 if ¬ (r4 = true) then
 (ay k bD).bind fun r5 =>
 some (r5, (false, ()))
 else some (r2.2, (true, ())) := by kernel_rfl
theorem nN (k : Nat) (jB) : Aa (k + 1) jB =
 (bA k jB).bind fun r1 =>
 (aM k r1.2 ((List.length r1.1 : Nat) : Int)).bind fun r2 =>
 (aM k r2.2 9).bind fun r3 =>
 if (r3.1 : Int) = 0 then
 (iM k r3.2 ([0, 2, 99, 100])).bind fun r4 =>
 if 0 <= r2.1 then
 if r2.1 < ((List.length r1.1 : Nat) : Int) then
 some ((setAt bV r1.1 r2.1 (fun yy => (r4.1, yy.2))), r4.2) else none else none
 else if (r3.1 : Int) = 1 then
 (iM k r3.2 ([20, 21, 108])).bind fun r5 =>
 if 0 <= r2.1 then
 if r2.1 < ((List.length r1.1 : Nat) : Int) then
 some ((setAt bV r1.1 r2.1 (fun yy => (yy.1, (r5.1, yy.2.2)))), r5.2) else none else none
 else if (r3.1 : Int) = 2 then
 (iM k r3.2 ([20, 108, 109])).bind fun r6 =>
 if 0 <= r2.1 then
 if r2.1 < ((List.length r1.1 : Nat) : Int) then
 some ((setAt bV r1.1 r2.1 (fun yy => (yy.1, (yy.2.1, (r6.1, yy.2.2.2))))), r6.2) else none else none
 else if (r3.1 : Int) = 3 then
 if 0 <= r2.1 then
 if r2.1 < ((List.length r1.1 : Nat) : Int) then
 some ((setAt bV r1.1 r2.1 (fun yy => (yy.1, (yy.2.1, (yy.2.2.1, ([2, 1], ())))))), r3.2) else none else none
 else some (r1.1, r3.2) := by kernel_rfl
theorem AR (k : Nat) (bD fu) : rX (k + 1) bD fu =
 (ay k bD).bind fun r1 =>
 (dF k r1 fu).bind fun r2 =>
 if ¬ (r2.1 = true) then
 (ay k bD).bind fun r3 =>
 some (r3, (false, ()))
 else (aZ k r2.2).bind fun r4 =>
 if ¬ (r4 = true) then
 (ay k bD).bind fun r5 =>
 some (r5, (false, ()))
 else some (r2.2, (true, ())) := by kernel_rfl
theorem AU (k : Nat) (bD fu Da Db XO) : rY (k + 1) bD fu Da Db XO =
 (ay k bD).bind fun r1 =>
 (mG k r1 fu Da Db XO).bind fun r2 =>
 if ¬ (r2.1 = true) then
 (ay k bD).bind fun r3 =>
 some (r3, (false, ()))
 else (aZ k r2.2).bind fun r4 =>
 if ¬ (r4 = true) then
 (ay k bD).bind fun r5 =>
 some (r5, (false, ()))
 else some (r2.2, (true, ())) := by kernel_rfl
theorem AV (k : Nat) (bD fu) : rZ (k + 1) bD fu =
 (ay k bD).bind fun r1 =>
 (mH k r1 fu).bind fun r2 =>
 if ¬ (r2.1 = true) then
 (ay k bD).bind fun r3 =>
 some (r3, (false, ()))
 else (aZ k r2.2).bind fun r4 =>
 if ¬ (r4 = true) then
 (ay k bD).bind fun r5 =>
 some (r5, (false, ()))
 else some (r2.2, (true, ())) := by kernel_rfl
theorem tZ (k : Nat) (aB) : aP (k + 1) aB =
 aP.l0 k k aB aB ((List.length aB : Nat) : Int) 0 := by kernel_rfl
theorem aP.aA (k m : Nat) (aB oH tQ eD) : aP.l0 k (m + 1) aB oH tQ eD =
 if (eD : Int) < tQ then
 if 0 <= eD then
 if eD < ((List.length oH : Nat) : Int) then
 (aY k (rd bR oH eD).1 0 2000).bind fun r1 =>
 if ¬ (r1 = true) then
 some false
 else (aY k (rd bR oH eD).2.1 1 96).bind fun r2 =>
 if ¬ (r2 = true) then
 some false
 else (aY k (rd bR oH eD).2.2.1 21 108).bind fun r3 =>
 if ¬ (r3 = true) then
 some false
 else (aY k (rd bR oH eD).2.2.2.1 1 4).bind fun r4 =>
 if ¬ (r4 = true) then
 some false
 else if (0 : Int) < eD then
 if 0 <= (IntKind.wrap .i64 (eD - 1)) then
 if (IntKind.wrap .i64 (eD - 1)) < ((List.length aB : Nat) : Int) then
 (iW k (rd bR aB (IntKind.wrap .i64 (eD - 1))) (rd bR oH eD)).bind fun r5 =>
 if (0 : Int) <= r5 then
 some false
 else aP.l0 k m aB oH tQ (IntKind.wrap .i64 (eD + 1)) else none else none
 else aP.l0 k m aB oH tQ (IntKind.wrap .i64 (eD + 1)) else none else none
 else some (decide ((((List.length aB : Nat) : Int) : Int) <= 40)) := by kernel_rfl
theorem mI (k : Nat) (JE) : yA (k + 1) JE =
 (aY k JE.1 1 12).bind fun r1 =>
 if r1 = true then
 if (JE.2.1 : Int) = 1 then
 some true
 else if (JE.2.1 : Int) = 2 then
 some true
 else if (JE.2.1 : Int) = 4 then
 some true
 else some (decide ((JE.2.1 : Int) = 8))
 else some false := by kernel_rfl
theorem FE (k : Nat) (aB) : eG (k + 1) aB =
 eG.l0 k k aB aB ((List.length aB : Nat) : Int) 0 := by kernel_rfl
theorem eG.aA (k m : Nat) (aB oH tQ eD) : eG.l0 k (m + 1) aB oH tQ eD =
 if (eD : Int) < tQ then
 if 0 <= eD then
 if eD < ((List.length oH : Nat) : Int) then
 if (eD : Int) = 0 then
 if Ne (α := Int) (rd dn oH eD).1 0 then
 some false
 else if (0 : Int) < eD then
 if 0 <= (IntKind.wrap .i64 (eD - 1)) then
 if (IntKind.wrap .i64 (eD - 1)) < ((List.length aB : Nat) : Int) then
 if LE.le (α := Int) (rd dn oH eD).1 (rd dn aB (IntKind.wrap .i64 (eD - 1))).1 then
 some false
 else if LT.lt (α := Int) 2000 (rd dn oH eD).1 then
 some false
 else (aY k (rd dn oH eD).2.1 20 300).bind fun r1 =>
 if ¬ (r1 = true) then
 some false
 else eG.l0 k m aB oH tQ (IntKind.wrap .i64 (eD + 1)) else none else none
 else if LT.lt (α := Int) 2000 (rd dn oH eD).1 then
 some false
 else (aY k (rd dn oH eD).2.1 20 300).bind fun r2 =>
 if ¬ (r2 = true) then
 some false
 else eG.l0 k m aB oH tQ (IntKind.wrap .i64 (eD + 1))
 else if (0 : Int) < eD then
 if 0 <= (IntKind.wrap .i64 (eD - 1)) then
 if (IntKind.wrap .i64 (eD - 1)) < ((List.length aB : Nat) : Int) then
 if LE.le (α := Int) (rd dn oH eD).1 (rd dn aB (IntKind.wrap .i64 (eD - 1))).1 then
 some false
 else if LT.lt (α := Int) 2000 (rd dn oH eD).1 then
 some false
 else (aY k (rd dn oH eD).2.1 20 300).bind fun r3 =>
 if ¬ (r3 = true) then
 some false
 else eG.l0 k m aB oH tQ (IntKind.wrap .i64 (eD + 1)) else none else none
 else if LT.lt (α := Int) 2000 (rd dn oH eD).1 then
 some false
 else (aY k (rd dn oH eD).2.1 20 300).bind fun r4 =>
 if ¬ (r4 = true) then
 some false
 else eG.l0 k m aB oH tQ (IntKind.wrap .i64 (eD + 1)) else none else none
 else (aY k ((List.length aB : Nat) : Int) 1 8).bind fun r5 =>
 some (decide (r5 = true)) := by kernel_rfl
theorem EB (k : Nat) (aB) : dW (k + 1) aB =
 dW.l0 k k aB aB ((List.length aB : Nat) : Int) 0 := by kernel_rfl
theorem dW.aA (k m : Nat) (aB oH tQ eD) : dW.l0 k (m + 1) aB oH tQ eD =
 if (eD : Int) < tQ then
 if 0 <= eD then
 if eD < ((List.length oH : Nat) : Int) then
 (aY k (rd dY oH eD).1 1 100).bind fun r1 =>
 if ¬ (r1 = true) then
 some false
 else (aY k (rd dY oH eD).2.1 1 4).bind fun r2 =>
 if ¬ (r2 = true) then
 some false
 else (aY k (rd dY oH eD).2.2.1 0 9).bind fun r3 =>
 if ¬ (r3 = true) then
 some false
 else (aY k (rd dY oH eD).2.2.2.1 0 100000).bind fun r4 =>
 if ¬ (r4 = true) then
 some false
 else (aY k (rd dY oH eD).2.2.2.2.1 1 99).bind fun r5 =>
 if ¬ (r5 = true) then
 some false
 else if (0 : Int) < eD then
 if 0 <= (IntKind.wrap .i64 (eD - 1)) then
 if (IntKind.wrap .i64 (eD - 1)) < ((List.length aB : Nat) : Int) then
 (nM k (rd dY aB (IntKind.wrap .i64 (eD - 1))) (rd dY oH eD)).bind fun r6 =>
 if (0 : Int) <= r6 then
 some false
 else dW.l0 k m aB oH tQ (IntKind.wrap .i64 (eD + 1)) else none else none
 else dW.l0 k m aB oH tQ (IntKind.wrap .i64 (eD + 1)) else none else none
 else some (decide ((((List.length aB : Nat) : Int) : Int) <= 30)) := by kernel_rfl
theorem Cb (k : Nat) (aB) : dZ (k + 1) aB =
 dZ.l0 k k aB aB ((List.length aB : Nat) : Int) 0 := by kernel_rfl
theorem dZ.aA (k m : Nat) (aB oH tQ eD) : dZ.l0 k (m + 1) aB oH tQ eD =
 if (eD : Int) < tQ then
 if 0 <= eD then
 if eD < ((List.length oH : Nat) : Int) then
 if Ne (α := Int) (rd dn oH eD).1 eD then
 some false
 else (aY k (rd dn oH eD).2.1 1 500).bind fun r1 =>
 if ¬ (r1 = true) then
 some false
 else if (0 : Int) < eD then
 if 0 <= (IntKind.wrap .i64 (eD - 1)) then
 if (IntKind.wrap .i64 (eD - 1)) < ((List.length aB : Nat) : Int) then
 if LE.le (α := Int) (rd dn oH eD).2.1 (rd dn aB (IntKind.wrap .i64 (eD - 1))).2.1 then
 some false
 else dZ.l0 k m aB oH tQ (IntKind.wrap .i64 (eD + 1)) else none else none
 else dZ.l0 k m aB oH tQ (IntKind.wrap .i64 (eD + 1)) else none else none
 else some (decide ((((List.length aB : Nat) : Int) : Int) <= 26)) := by kernel_rfl
theorem ng (k : Nat) (aB bF bZ) : eF (k + 1) aB bF bZ =
 (aQ k aB).bind fun r1 =>
 if ¬ (r1 = true) then
 some false
 else (aP k bF).bind fun r2 =>
 if ¬ (r2 = true) then
 some false
 else if (4 : Int) < ((List.length bZ : Nat) : Int) then
 some false
 else eF.l0 k k aB bZ bZ ((List.length bZ : Nat) : Int) 0 bF := by kernel_rfl
theorem eF.aA (k m : Nat) (aB bZ Qf Vv vO bU) : eF.l0 k (m + 1) aB bZ Qf Vv vO bU =
 if (vO : Int) < Vv then
 if 0 <= vO then
 if vO < ((List.length Qf : Nat) : Int) then
 if 0 <= vO then
 if vO <= ((List.length bZ : Nat) : Int) then
 (dw k (List.take ((Int.toNat vO) - (Int.toNat 0)) (List.drop (Int.toNat 0) bZ)) (rd (.int .i64) Qf vO)).bind fun r3 =>
 if r3 = true then
 some false
 else (iD k aB (rd (.int .i64) Qf vO) bU vO).bind fun r4 =>
 if ¬ (r4 = true) then
 some false
 else eF.l0 k m aB bZ Qf Vv (IntKind.wrap .i64 (vO + 1)) bU else none else none else none else none
 else some true := by kernel_rfl
theorem mE (k : Nat) (Vt dU cO) : aY (k + 1) Vt dU cO =
 if (dU : Int) <= Vt then
 some (decide ((Vt : Int) <= cO))
 else some false := by kernel_rfl
theorem nO (k : Nat) (fC fB) : bP (k + 1) fC fB =
 if (((List.length fC : Nat) : Int) : Int) ≠ ((List.length fB : Nat) : Int) then
 some false
 else bP.l0 k k fC fB ((List.length fC : Nat) : Int) 0 := by kernel_rfl
theorem bP.aA (k m : Nat) (fC fB jH fU) : bP.l0 k (m + 1) fC fB jH fU =
 if (fU : Int) < jH then
 if 0 <= fU then
 if fU < ((List.length fC : Nat) : Int) then
 if 0 <= fU then
 if fU < ((List.length fB : Nat) : Int) then
 if ¬ ((((rd bR fC fU).1 : Int) = (rd bR fB fU).1) /\ ((((rd bR fC fU).2.1 : Int) = (rd bR fB fU).2.1) /\ ((((rd bR fC fU).2.2.1 : Int) = (rd bR fB fU).2.2.1) /\ (((rd bR fC fU).2.2.2.1 : Int) = (rd bR fB fU).2.2.2.1)))) then
 some false
 else bP.l0 k m fC fB jH (IntKind.wrap .i64 (fU + 1)) else none else none else none else none
 else some true := by kernel_rfl
theorem nP (k : Nat) (fC fB) : bQ (k + 1) fC fB =
 if (((List.length fC : Nat) : Int) : Int) ≠ ((List.length fB : Nat) : Int) then
 some false
 else bQ.l0 k k fC fB ((List.length fC : Nat) : Int) 0 := by kernel_rfl
theorem bQ.aA (k m : Nat) (fC fB jH fU) : bQ.l0 k (m + 1) fC fB jH fU =
 if (fU : Int) < jH then
 if 0 <= fU then
 if fU < ((List.length fC : Nat) : Int) then
 if 0 <= fU then
 if fU < ((List.length fB : Nat) : Int) then
 if ¬ ((((rd dn fC fU).1 : Int) = (rd dn fB fU).1) /\ (((rd dn fC fU).2.1 : Int) = (rd dn fB fU).2.1)) then
 some false
 else bQ.l0 k m fC fB jH (IntKind.wrap .i64 (fU + 1)) else none else none else none else none
 else some true := by kernel_rfl
theorem jV (k : Nat) (fC fB) : aO (k + 1) fC fB =
 if (((List.length fC : Nat) : Int) : Int) ≠ ((List.length fB : Nat) : Int) then
 some false
 else aO.l0 k k fB fC ((List.length fC : Nat) : Int) 0 := by kernel_rfl
theorem aO.aA (k m : Nat) (fB Ti Vw IU) : aO.l0 k (m + 1) fB Ti Vw IU =
 if (IU : Int) < Vw then
 if 0 <= IU then
 if IU < ((List.length Ti : Nat) : Int) then
 if 0 <= IU then
 if IU < ((List.length fB : Nat) : Int) then
 (mZ k (rd bV Ti IU) (rd bV fB IU)).bind fun r1 =>
 if ¬ (r1 = true) then
 some false
 else aO.l0 k m fB Ti Vw (IntKind.wrap .i64 (IU + 1)) else none else none else none else none
 else some true := by kernel_rfl
theorem ou (k : Nat) (fC fB) : bL (k + 1) fC fB =
 if (((List.length fC : Nat) : Int) : Int) ≠ ((List.length fB : Nat) : Int) then
 some false
 else bL.l0 k k fC fB ((List.length fC : Nat) : Int) 0 := by kernel_rfl
theorem bL.aA (k m : Nat) (fC fB jH fU) : bL.l0 k (m + 1) fC fB jH fU =
 if (fU : Int) < jH then
 if 0 <= fU then
 if fU < ((List.length fC : Nat) : Int) then
 if 0 <= fU then
 if fU < ((List.length fB : Nat) : Int) then
 if Ne (α := Int) (rd (.int .i64) fC fU) (rd (.int .i64) fB fU) then
 some false
 else bL.l0 k m fC fB jH (IntKind.wrap .i64 (fU + 1)) else none else none else none else none
 else some true := by kernel_rfl
theorem oz (k : Nat) (fC fB) : bM (k + 1) fC fB =
 if (((List.length fC : Nat) : Int) : Int) ≠ ((List.length fB : Nat) : Int) then
 some false
 else bM.l0 k k fC fB ((List.length fC : Nat) : Int) 0 := by kernel_rfl
theorem bM.aA (k m : Nat) (fC fB jH fU) : bM.l0 k (m + 1) fC fB jH fU =
 if (fU : Int) < jH then
 if 0 <= fU then
 if fU < ((List.length fC : Nat) : Int) then
 if 0 <= fU then
 if fU < ((List.length fB : Nat) : Int) then
 if ¬ ((((rd dY fC fU).1 : Int) = (rd dY fB fU).1) /\ ((((rd dY fC fU).2.1 : Int) = (rd dY fB fU).2.1) /\ ((((rd dY fC fU).2.2.1 : Int) = (rd dY fB fU).2.2.1) /\ ((((rd dY fC fU).2.2.2.1 : Int) = (rd dY fB fU).2.2.2.1) /\ (((rd dY fC fU).2.2.2.2.1 : Int) = (rd dY fB fU).2.2.2.2.1))))) then
 some false
 else bM.l0 k m fC fB jH (IntKind.wrap .i64 (fU + 1)) else none else none else none else none
 else some true := by kernel_rfl
theorem ni (k : Nat) (fC fB) : bI (k + 1) fC fB =
 if (((List.length fC : Nat) : Int) : Int) ≠ ((List.length fB : Nat) : Int) then
 some false
 else bI.l0 k k fC fB ((List.length fC : Nat) : Int) 0 := by kernel_rfl
theorem bI.aA (k m : Nat) (fC fB jH fU) : bI.l0 k (m + 1) fC fB jH fU =
 if (fU : Int) < jH then
 if 0 <= fU then
 if fU < ((List.length fC : Nat) : Int) then
 if 0 <= fU then
 if fU < ((List.length fB : Nat) : Int) then
 if ¬ ((((rd dn fC fU).1 : Int) = (rd dn fB fU).1) /\ (((rd dn fC fU).2.1 : Int) = (rd dn fB fU).2.1)) then
 some false
 else bI.l0 k m fC fB jH (IntKind.wrap .i64 (fU + 1)) else none else none else none else none
 else some true := by kernel_rfl
theorem uo (k : Nat) (jB) : yB (k + 1) jB =
 (yC k jB).bind fun r1 =>
 (fK k r1.2).bind fun r2 =>
 (qR k r1.1 r2.1).bind fun r3 =>
 (gQ k r2.2).bind fun r4 =>
 (iH k r4.2).bind fun r5 =>
 (iI k r5.2).bind fun r6 =>
 (iJ k r6.2).bind fun r7 =>
 (lM k r3.1.2.2.2.1 r4.1 2).bind fun r8 =>
 if r8.2.1 = true then
 (jA k r7.2 5).bind fun r9 =>
 if ¬ (r9.1 = true) then
 some ((r4.1, (r3.1.2.1, (r5.1, (r3.1.2.2.2.1, (r8.1, (r6.1, (r7.1, r3.1.2.2.2.2.2.2.2))))))), r9.2)
 else some ((r4.1, (r3.1.2.1, (r5.1, (r3.1.2.2.2.1, (r3.1.2.2.2.2.1, (r6.1, (r7.1, r3.1.2.2.2.2.2.2.2))))))), r9.2)
 else some ((r4.1, (r3.1.2.1, (r5.1, (r3.1.2.2.2.1, (r3.1.2.2.2.2.1, (r6.1, (r7.1, r3.1.2.2.2.2.2.2.2))))))), r7.2) := by kernel_rfl
theorem sw (k : Nat) (bD vM) : wU (k + 1) bD vM =
 (jS k bD).bind fun r1 =>
 (fq k vM 1 1000).bind fun r2 =>
 if ¬ (r2 = true) then
 some (r1, (false, ()))
 else (fq k bD.2.2.2.2.2.2.2.2.1 0 100000).bind fun r3 =>
 if ¬ (r3 = true) then
 some (r1, (false, ()))
 else (lZ k bD (r1.1, (r1.2.1, (r1.2.2.1, (r1.2.2.2.1, (r1.2.2.2.2.1, (r1.2.2.2.2.2.1, (r1.2.2.2.2.2.2.1, (r1.2.2.2.2.2.2.2.1, (IntKind.wrap .i64 (bD.2.2.2.2.2.2.2.2.1 + vM), ()))))))))) true).bind fun r4 =>
 some (r4.1, (decide (r4.2.1 = true), ())) := by kernel_rfl
theorem EC (k : Nat) (bD CY yx uO CZ) : wV (k + 1) bD CY yx uO CZ =
 (jS k bD).bind fun r1 =>
 (qU k bD.2.2.2.2.2.1 (CY, (yx, (uO, (bD.2.2.2.2.2.2.2.2.1, (CZ, ())))))).bind fun r2 =>
 (eU k r2 bD.2.2.2.2.2.1).bind fun r3 =>
 (lZ k bD (r1.1, (r1.2.1, (r1.2.2.1, (r1.2.2.2.1, (r1.2.2.2.2.1, (r2, r1.2.2.2.2.2.2)))))) (decide (¬ (r3 = true)))).bind fun r4 =>
 some (r4.1, (decide (r4.2.1 = true), ())) := by kernel_rfl
theorem ED (k : Nat) (bD qM) : wW (k + 1) bD qM =
 (jS k bD).bind fun r1 =>
 (lM k bD.2.2.2.1 bD.1 qM).bind fun r2 =>
 (lZ k bD (r1.1, (r1.2.1, (r1.2.2.1, (r1.2.2.2.1, (r2.1, r1.2.2.2.2.2))))) (decide (r2.2.1 = true))).bind fun r3 =>
 some (r3.1, (decide (r3.2.1 = true), ())) := by kernel_rfl
theorem Dl (k : Nat) (bD e_1) : vP (k + 1) bD e_1 =
 (jS k bD).bind fun r1 =>
 (mP k bD.1 e_1).bind fun r2 =>
 (IV k 10000 bD.2.2.2.2.2.2.2.1).bind fun r3 =>
 (lZ k bD (r2.1, (r1.2.1, (r1.2.2.1, (r1.2.2.2.1, (r1.2.2.2.2.1, (r1.2.2.2.2.2.1, (r1.2.2.2.2.2.2.1, (IntKind.wrap .i64 (r3 + 1), r1.2.2.2.2.2.2.2.2)))))))) (decide (r2.2.1 = true))).bind fun r4 =>
 some (r4.1, (decide (r4.2.1 = true), ())) := by kernel_rfl
theorem vZ (k : Nat) (bD) : ay (k + 1) bD =
 ay.l0 k k bD.2.2.2.1 ((List.length bD.2.2.2.1 : Nat) : Int) 0 bD.1 bD.2.1.1 bD.2.1.2.1 bD.2.2.1 bD.2.2.2.1 bD.2.2.2.2.1 bD.2.2.2.2.2.1 bD.2.2.2.2.2.2.1 bD.2.2.2.2.2.2.2.1 bD.2.2.2.2.2.2.2.2.1 0 0 0 0 [] := by kernel_rfl
theorem ay.aA (k m : Nat) (iA oL kT bU bN bO fP kQ Vx Vy Vz yX yY zW zX zY zZ s2) : ay.l0 k (m + 1) iA oL kT bU bN bO fP kQ Vx Vy Vz yX yY zW zX zY zZ s2 =
 if (kT : Int) < oL then
 if 0 <= kT then
 if kT < ((List.length iA : Nat) : Int) then
 (nX k (rd bV iA kT)).bind fun r1 =>
 if (List.length s2 + List.length ([r1] : (List bn))) * 48 <= 211106232532992 then
 ay.l0 k m iA oL (IntKind.wrap .i64 (kT + 1)) bU bN bO fP kQ Vx Vy Vz yX yY zW zX zY zZ (s2 ++ ([r1] : (List bn))) else none else none else none
 else (bJ k bU).bind fun r2 =>
 (mQ k fP).bind fun r3 =>
 (qV k Vx).bind fun r4 =>
 (iO k Vy).bind fun r5 =>
 (mg k Vz).bind fun r6 =>
 some (r2, ((bN, (bO, ())), (r3, (s2, (r4, (r5, (r6, (yX, (yY, ()))))))))) := by kernel_rfl
theorem uI (k : Nat) (bD a_1) : kg (k + 1) bD a_1 =
 (wX k bD.1 a_1).bind fun r1 =>
 some (decide (r1.2.1 = true), (r1.1, (bD.2.1, (bD.2.2.1, (bD.2.2.2.1, (bD.2.2.2.2.1, (bD.2.2.2.2.2.1, (bD.2.2.2.2.2.2.1, (IntKind.wrap .i64 (bD.2.2.2.2.2.2.2.1 + 1), bD.2.2.2.2.2.2.2.2))))))))) := by kernel_rfl
theorem Af (k : Nat) (jB) : ql (k + 1) jB =
 if (33 : Int) < 0 then
 none
 else if (47 : Int) < 0 then
 none
 else if (jB.2.1 : Int) < ((List.length jB.1 : Nat) : Int) then
 if 0 <= jB.2.1 then
 if jB.2.1 < ((List.length jB.1 : Nat) : Int) then
 some (IntKind.wrap .i64 (((BitVec.ofInt (IntKind.bits .i64) (IntKind.wrap .i64 ((IntKind.wrap .i64 (((BitVec.ofInt (IntKind.bits .i64) (IntKind.wrap .i64 (((BitVec.ofInt (IntKind.bits .i64) (Int.fdiv (IntKind.wrap .i64 ((IntKind.wrap .i64 (jB.2.2.1 * 6364136223846793005)) + 1442695040888963407)) (2 ^ (min (Int.toNat 33) (IntKind.bits .i64)))) ^^^ BitVec.ofInt (IntKind.bits .i64) (Int.fdiv (IntKind.wrap .i64 ((IntKind.wrap .i64 (jB.2.2.1 * 6364136223846793005)) + 1442695040888963407)) (2 ^ (min (Int.toNat 47) (IntKind.bits .i64))))).toNat : Nat))) &&& BitVec.ofInt (IntKind.bits .i64) 255).toNat : Nat))) + (IntKind.wrap .i64 ((rd (.int .u8) jB.1 jB.2.1))))) &&& BitVec.ofInt (IntKind.bits .i64) 255).toNat : Nat)), (jB.1, (IntKind.wrap .i64 (jB.2.1 + 1), (IntKind.wrap .i64 ((IntKind.wrap .i64 (jB.2.2.1 * 6364136223846793005)) + 1442695040888963407), ())))) else none else none
 else some (IntKind.wrap .i64 (((BitVec.ofInt (IntKind.bits .i64) (IntKind.wrap .i64 (((BitVec.ofInt (IntKind.bits .i64) (Int.fdiv (IntKind.wrap .i64 ((IntKind.wrap .i64 (jB.2.2.1 * 6364136223846793005)) + 1442695040888963407)) (2 ^ (min (Int.toNat 33) (IntKind.bits .i64)))) ^^^ BitVec.ofInt (IntKind.bits .i64) (Int.fdiv (IntKind.wrap .i64 ((IntKind.wrap .i64 (jB.2.2.1 * 6364136223846793005)) + 1442695040888963407)) (2 ^ (min (Int.toNat 47) (IntKind.bits .i64))))).toNat : Nat))) &&& BitVec.ofInt (IntKind.bits .i64) 255).toNat : Nat)), (jB.1, (jB.2.1, (IntKind.wrap .i64 ((IntKind.wrap .i64 (jB.2.2.1 * 6364136223846793005)) + 1442695040888963407), ())))) := by kernel_rfl
theorem AX (k : Nat) (bD a_1) : lJ (k + 1) bD a_1 =
 (vQ k bD.1 a_1).bind fun r1 =>
 some (decide (r1.2.1 = true), (r1.1, (bD.2.1, (bD.2.2.1, (bD.2.2.2.1, (bD.2.2.2.2.1, (bD.2.2.2.2.2.1, (bD.2.2.2.2.2.2.1, (IntKind.wrap .i64 (bD.2.2.2.2.2.2.2.1 + 1), bD.2.2.2.2.2.2.2.2))))))))) := by kernel_rfl
theorem AY (k : Nat) (bD a_1) : lK (k + 1) bD a_1 =
 (bf k bD.2.2.1 a_1).bind fun r1 =>
 if (r1 : Int) < 0 then
 if (List.length bD.2.2.1 + List.length ([a_1] : (List bE))) * 16 <= 211106232532992 then
 some (true, (bD.1, (bD.2.1, ((bD.2.2.1 ++ ([a_1] : (List bE))), bD.2.2.2)))) else none
 else if 0 <= r1 then
 if r1 < ((List.length bD.2.2.1 : Nat) : Int) then
 if Eq (α := Int) (rd dn bD.2.2.1 r1).1 a_1.1 then
 if 0 <= r1 then
 if r1 < ((List.length bD.2.2.1 : Nat) : Int) then
 some (true, (bD.1, (bD.2.1, ((List.set bD.2.2.1 (Int.toNat r1) a_1), bD.2.2.2)))) else none else none
 else (kW k bD.2.2.1 r1 [a_1]).bind fun r2 =>
 some (true, (bD.1, (bD.2.1, (r2, bD.2.2.2)))) else none else none := by kernel_rfl
theorem Cc (k : Nat) (bD a_1) : mF (k + 1) bD a_1 =
 (sj k bD.2.2.2.1 bD.1 a_1).bind fun r1 =>
 some (decide (r1.2.1 = true), (bD.1, (bD.2.1, (bD.2.2.1, (bD.2.2.2.1, (r1.1, bD.2.2.2.2.2)))))) := by kernel_rfl
theorem lu (k : Nat) (bD a_1) : ko (k + 1) bD a_1 =
 (aS k bD.2.2.2.1 a_1).bind fun r1 =>
 if (r1 : Int) < 0 then
 some (false, bD)
 else (aC k bD.2.2.2.2.1 a_1).bind fun r2 =>
 if (0 : Int) <= r2 then
 (dR k bD.2.2.2.1 bD.1 bD.2.2.2.2.1 (IntKind.wrap .i64 (r2 + 1))).bind fun r3 =>
 if ¬ (r3.2.1 = true) then
 some (false, bD)
 else if 0 <= r2 then
 if r2 < ((List.length bD.2.2.2.2.1 : Nat) : Int) then
 (jg k bD.2.2.2.1 r1 (IntKind.wrap .i64 (r1 + 1))).bind fun r4 =>
 some (true, (bD.1, (bD.2.1, (bD.2.2.1, (r4, ((List.set bD.2.2.2.2.1 (Int.toNat r2) r3.1), bD.2.2.2.2.2)))))) else none else none
 else (jg k bD.2.2.2.1 r1 (IntKind.wrap .i64 (r1 + 1))).bind fun r5 =>
 some (true, (bD.1, (bD.2.1, (bD.2.2.1, (r5, bD.2.2.2.2))))) := by kernel_rfl
theorem FH (k : Nat) (jB) : bA (k + 1) jB =
 bA.l0 k k 1 jB.1 jB.2.1 jB.2.2.1 [] := by kernel_rfl
theorem bA.aA (k m : Nat) (nS bU bN bO s1) : bA.l0 k (m + 1) nS bU bN bO s1 =
 (aM k (bU, (bN, (bO, ()))) 5).bind fun r1 =>
 if (nS : Int) <= (IntKind.wrap .i64 (1 + r1.1)) then
 (aM k r1.2 12).bind fun r2 =>
 (aM k r2.2 12).bind fun r3 =>
 bA.l1 k k m nS 1 r3.2.1 r3.2.2.1 r3.2.2.2.1 s1 (IntKind.wrap .i64 (2 * nS)) (IntKind.wrap .i64 (50 + r2.1)) (IntKind.wrap .i64 (66 + r3.1))
 else some (s1, r1.2) := by kernel_rfl
theorem bA.wG (k m m1 : Nat) (nS Oq bU bN bO s1 BZ qG qH) : bA.l1 k (m + 1) m1 nS Oq bU bN bO s1 BZ qG qH =
 if (Oq : Int) <= 3 then
 (jA k (bU, (bN, (bO, ()))) 3).bind fun r4 =>
 if ¬ (r4.1 = true) then
 if List.length ([Oq] : (List Int)) * 8 <= 211106232532992 then
 bA.l2 k m m1 nS (IntKind.wrap .i64 (Oq + 1)) r4.2.1 r4.2.2.1 r4.2.2.2.1 s1 BZ qG qH ([Oq] : (List Int)) else none
 else bA.l1 k m m1 nS (IntKind.wrap .i64 (Oq + 1)) r4.2.1 r4.2.2.1 r4.2.2.2.1 s1 BZ qG qH
 else if (List.length s1 + List.length ([(BZ, (qG, (qH, ([], ()))))] : (List bn))) * 48 <= 211106232532992 then
 bA.l0 k m1 (IntKind.wrap .i64 (nS + 1)) bU bN bO (s1 ++ ([(BZ, (qG, (qH, ([], ()))))] : (List bn))) else none := by kernel_rfl
theorem bA.VA (k m m1 : Nat) (nS Oq bU bN bO s1 BZ qG qH s3) : bA.l2 k (m + 1) m1 nS Oq bU bN bO s1 BZ qG qH s3 =
 if (Oq : Int) <= 3 then
 (jA k (bU, (bN, (bO, ()))) 3).bind fun r5 =>
 if ¬ (r5.1 = true) then
 if (List.length s3 + List.length ([Oq] : (List Int))) * 8 <= 211106232532992 then
 bA.l2 k m m1 nS (IntKind.wrap .i64 (Oq + 1)) r5.2.1 r5.2.2.1 r5.2.2.2.1 s1 BZ qG qH (s3 ++ ([Oq] : (List Int))) else none
 else bA.l2 k m m1 nS (IntKind.wrap .i64 (Oq + 1)) r5.2.1 r5.2.2.1 r5.2.2.2.1 s1 BZ qG qH s3
 else if (List.length s1 + List.length ([(BZ, (qG, (qH, (s3, ()))))] : (List bn))) * 48 <= 211106232532992 then
 bA.l0 k m1 (IntKind.wrap .i64 (nS + 1)) bU bN bO (s1 ++ ([(BZ, (qG, (qH, (s3, ()))))] : (List bn))) else none := by kernel_rfl
theorem Ce (k : Nat) (bD a_1) : dF (k + 1) bD a_1 =
 dF.l0 k k a_1 0 ((List.length bD.2.2.2.1 : Nat) : Int) 0 bD.2.1.1 bD.2.1.2.1 bD.2.2.2.2.2.2.2.1 bD.2.2.2.2.2.2.2.2.1 bD.2.2.2.1 bD.1 bD.2.2.1 bD.2.2.2.2.1 bD.2.2.2.2.2.1 bD.2.2.2.2.2.2.1 := by kernel_rfl
theorem dF.aA (k m : Nat) (t_1 Ep iP jH bN bO yX yY s1 s2 s3 s4 s5 s6) : dF.l0 k (m + 1) t_1 Ep iP jH bN bO yX yY s1 s2 s3 s4 s5 s6 =
 if (jH : Int) < iP then
 if 0 <= jH then
 if jH < ((List.length s1 : Nat) : Int) then
 if Eq (α := Int) (rd bV s1 jH).1 t_1.1 then
 some (false, (s2, ((bN, (bO, ())), (s3, (s1, (s4, (s5, (s6, (yX, (yY, ()))))))))))
 else if LT.lt (α := Int) (rd bV s1 jH).1 t_1.1 then
 dF.l0 k m t_1 (IntKind.wrap .i64 (Ep + 1)) iP (IntKind.wrap .i64 (jH + 1)) bN bO yX yY s1 s2 s3 s4 s5 s6
 else dF.l0 k m t_1 Ep iP (IntKind.wrap .i64 (jH + 1)) bN bO yX yY s1 s2 s3 s4 s5 s6 else none else none
 else (nX k t_1).bind fun r1 =>
 (kG k s1 Ep [r1]).bind fun r2 =>
 some (true, (s2, ((bN, (bO, ())), (s3, (r2, (s4, (s5, (s6, (yX, (yY, ())))))))))) := by kernel_rfl
theorem Cg (k : Nat) (bD a_1 a_2 XP a_4) : mG (k + 1) bD a_1 a_2 XP a_4 =
 (yE k bD.2.2.2.2.2.1 (a_1, (a_2, (XP, (bD.2.2.2.2.2.2.2.2.1, (a_4, ())))))).bind fun r1 =>
 (bM k bD.2.2.2.2.2.1 r1).bind fun r2 =>
 some (decide (¬ (r2 = true)), (bD.1, (bD.2.1, (bD.2.2.1, (bD.2.2.2.1, (bD.2.2.2.2.1, (r1, bD.2.2.2.2.2.2))))))) := by kernel_rfl
theorem pX (k : Nat) (bD a_1) : mH (k + 1) bD a_1 =
 (aY k a_1 1 1000).bind fun r1 =>
 if ¬ (r1 = true) then
 some (false, bD)
 else (aY k bD.2.2.2.2.2.2.2.2.1 0 100000).bind fun r2 =>
 if ¬ (r2 = true) then
 some (false, bD)
 else some (true, (bD.1, (bD.2.1, (bD.2.2.1, (bD.2.2.2.1, (bD.2.2.2.2.1, (bD.2.2.2.2.2.1, (bD.2.2.2.2.2.2.1, (bD.2.2.2.2.2.2.2.1, (IntKind.wrap .i64 (bD.2.2.2.2.2.2.2.2.1 + a_1), ())))))))))) := by kernel_rfl
theorem pR (k : Nat) (a_0 b_1) : iW (k + 1) a_0 b_1 =
 (cmp_Compare_int k a_0.1 b_1.1).bind fun r1 =>
 (cmp_Compare_int k a_0.2.2.2.1 b_1.2.2.2.1).bind fun r2 =>
 (cmp_Compare_int k a_0.2.2.1 b_1.2.2.1).bind fun r3 =>
 (bX k ([r1, r2, r3])).bind fun r4 =>
 some r4 := by kernel_rfl
theorem Dm (k : Nat) (a_0 b_1) : nM (k + 1) a_0 b_1 =
 (cmp_Compare_int k a_0.1 b_1.1).bind fun r1 =>
 (cmp_Compare_int k a_0.2.1 b_1.2.1).bind fun r2 =>
 (bX k ([r1, r2])).bind fun r3 =>
 some r3 := by kernel_rfl
theorem pQ (k : Nat) (aB) : aQ (k + 1) aB =
 aQ.l0 k k aB aB ((List.length aB : Nat) : Int) 0 [] := by kernel_rfl
theorem aQ.aA (k m : Nat) (aB eD iA oL s0) : aQ.l0 k (m + 1) aB eD iA oL s0 =
 if (oL : Int) < iA then
 if 0 <= oL then
 if oL < ((List.length eD : Nat) : Int) then
 (aY k (rd bV eD oL).2.1 21 (rd bV eD oL).2.2.1).bind fun r1 =>
 if ¬ (r1 = true) then
 some false
 else if LT.lt (α := Int) 108 (rd bV eD oL).2.2.1 then
 some false
 else (aW k (rd bV eD oL).2.2.2.1 1 4).bind fun r2 =>
 if ¬ (r2 = true) then
 some false
 else if (List.length s0 + List.length ([(rd bV eD oL).1] : (List Int))) * 8 <= 211106232532992 then
 aQ.l0 k m aB eD iA (IntKind.wrap .i64 (oL + 1)) (s0 ++ ([(rd bV eD oL).1] : (List Int))) else none else none else none
 else if (((List.length aB : Nat) : Int) : Int) <= 8 then
 (aW k s0 1 99).bind fun r3 =>
 some (decide (r3 = true))
 else some false := by kernel_rfl
theorem jE (k : Nat) (s_0 v_1) : dw (k + 1) s_0 v_1 =
 (aC k s_0 v_1).bind fun r1 =>
 some (decide ((0 : Int) <= r1)) := by kernel_rfl
theorem nQ (k : Nat) (s_0 fu Da Db) : iD (k + 1) s_0 fu Da Db =
 (aT k s_0 fu Da Db).bind fun r1 =>
 some (decide ((0 : Int) <= r1)) := by kernel_rfl
theorem kR (k : Nat) (a_0 b_1) : mZ (k + 1) a_0 b_1 =
 if (a_0.1 : Int) = b_1.1 then
 if (a_0.2.1 : Int) = b_1.2.1 then
 if (a_0.2.2.1 : Int) = b_1.2.2.1 then
 (bL k a_0.2.2.2.1 b_1.2.2.2.1).bind fun r1 =>
 some (decide (r1 = true))
 else some false
 else some false
 else some false := by kernel_rfl
theorem FI (k : Nat) (jB) : yC (k + 1) jB =
 (aM k jB 4).bind fun r1 =>
 (iM k r1.2 ([4, 4, 4, 8, 2])).bind fun r2 =>
 some ((IntKind.wrap .i64 (2 + r1.1), (r2.1, ())), r2.2) := by kernel_rfl
theorem Dp (k : Nat) (jB) : fK (k + 1) jB =
 fK.l0 k k 1 jB.1 jB.2.1 jB.2.2.1 [] := by kernel_rfl
theorem fK.aA (k m : Nat) (nS bU bN bO s1) : fK.l0 k (m + 1) nS bU bN bO s1 =
 (aM k (bU, (bN, (bO, ()))) 4).bind fun r1 =>
 if (nS : Int) <= (IntKind.wrap .i64 (2 + r1.1)) then
 (aM k r1.2 18).bind fun r2 =>
 (aM k r2.2 12).bind fun r3 =>
 if (List.length s1 + List.length ([(nS, (IntKind.wrap .i64 (40 + r2.1), (IntKind.wrap .i64 (76 + r3.1), ([1, 2, 3], ()))))] : (List bn))) * 48 <= 211106232532992 then
 fK.l0 k m (IntKind.wrap .i64 (nS + 1)) r3.2.1 r3.2.2.1 r3.2.2.2.1 (s1 ++ ([(nS, (IntKind.wrap .i64 (40 + r2.1), (IntKind.wrap .i64 (76 + r3.1), ([1, 2, 3], ()))))] : (List bn))) else none
 else some (s1, r1.2) := by kernel_rfl
theorem tN (k : Nat) (JE Az) : qR (k + 1) JE Az =
 (jS k ([], (JE, ([(0, (100, ()))], (Az, ([], ([], ([], (1, (0, ())))))))))).bind fun r1 =>
 (fM k r1).bind fun r2 =>
 if ¬ (r2 = true) then
 some (([], ((0, (0, ())), ([], ([], ([], ([], ([], (0, (0, ()))))))))), (false, ()))
 else some (r1, (true, ())) := by kernel_rfl
theorem EF (k : Nat) (jB) : gQ (k + 1) jB =
 (gN k jB 1 9).bind fun r1 =>
 (gN k r1.2 2 9).bind fun r2 =>
 gQ.l0 k k 0 r2.2.1 r2.2.2.1 r2.2.2.2.1 r1.1 r2.1 := by kernel_rfl
theorem gQ.aA (k m : Nat) (je bU bN bO s1 s2) : gQ.l0 k (m + 1) je bU bN bO s1 s2 =
 if (je : Int) < ((List.length s2 : Nat) : Int) then
 if 0 <= je then
 if je < ((List.length s2 : Nat) : Int) then
 (mP k s1 (rd bR s2 je)).bind fun r3 =>
 gQ.l0 k m (IntKind.wrap .i64 (je + 1)) bU bN bO r3.1 s2 else none else none
 else some (s1, (bU, (bN, (bO, ())))) := by kernel_rfl
theorem FJ (k : Nat) (jB) : iH (k + 1) jB =
 (iM k jB ([60, 90, 120, 50, 144])).bind fun r1 =>
 (aM k r1.2 4).bind fun r2 =>
 iH.l0 k k 0 r2.1 r2.2.1 r2.2.2.1 r2.2.2.2.1 ([(0, (r1.1, ()))]) := by kernel_rfl
theorem iH.aA (k m : Nat) (Ep je bU bN bO s1) : iH.l0 k (m + 1) Ep je bU bN bO s1 =
 if (0 : Int) < je then
 (aM k (bU, (bN, (bO, ()))) 50).bind fun r3 =>
 (iM k r3.2 ([40, 60, 72, 100, 120, 200, 77])).bind fun r4 =>
 if (List.length s1 + List.length ([(IntKind.wrap .i64 ((IntKind.wrap .i64 (Ep + 1)) + r3.1), (r4.1, ()))] : (List bE))) * 16 <= 211106232532992 then
 iH.l0 k m (IntKind.wrap .i64 ((IntKind.wrap .i64 (Ep + 1)) + r3.1)) (IntKind.wrap .i64 (je - 1)) r4.2.1 r4.2.2.1 r4.2.2.2.1 (s1 ++ ([(IntKind.wrap .i64 ((IntKind.wrap .i64 (Ep + 1)) + r3.1), (r4.1, ()))] : (List bE))) else none
 else some (s1, (bU, (bN, (bO, ())))) := by kernel_rfl
theorem FK (k : Nat) (jB) : iI (k + 1) jB =
 (aM k jB 9).bind fun r1 =>
 iI.l0 k k r1.1 r1.2.1 r1.2.2.1 r1.2.2.2.1 [] := by kernel_rfl
theorem iI.aA (k m : Nat) (nS bU bN bO s1) : iI.l0 k (m + 1) nS bU bN bO s1 =
 if (0 : Int) < nS then
 (yF k (bU, (bN, (bO, ())))).bind fun r2 =>
 (qU k s1 r2.1).bind fun r3 =>
 iI.l0 k m (IntKind.wrap .i64 (nS - 1)) r2.2.1 r2.2.2.1 r2.2.2.2.1 r3
 else some (s1, (bU, (bN, (bO, ())))) := by kernel_rfl
theorem FL (k : Nat) (jB) : iJ (k + 1) jB =
 (aM k jB 6).bind fun r1 =>
 iJ.l0 k k 0 r1.1 r1.2.1 r1.2.2.1 r1.2.2.2.1 [] := by kernel_rfl
theorem iJ.aA (k m : Nat) (ZR je bU bN bO s1) : iJ.l0 k (m + 1) ZR je bU bN bO s1 =
 if (0 : Int) < je then
 (aM k (bU, (bN, (bO, ()))) 9).bind fun r2 =>
 if (List.length s1 + List.length ([(((List.length s1 : Nat) : Int), (IntKind.wrap .i64 ((IntKind.wrap .i64 (ZR + 1)) + r2.1), ()))] : (List bE))) * 16 <= 211106232532992 then
 iJ.l0 k m (IntKind.wrap .i64 ((IntKind.wrap .i64 (ZR + 1)) + r2.1)) (IntKind.wrap .i64 (je - 1)) r2.2.1 r2.2.2.1 r2.2.2.2.1 (s1 ++ ([(((List.length s1 : Nat) : Int), (IntKind.wrap .i64 ((IntKind.wrap .i64 (ZR + 1)) + r2.1), ()))] : (List bE))) else none
 else some (s1, (bU, (bN, (bO, ())))) := by kernel_rfl
theorem gY (k : Nat) (aB bF gy) : lM (k + 1) aB bF gy =
 (aK k aB).bind fun r1 =>
 if ¬ (r1 = true) then
 some ([], (false, ()))
 else (dO k bF).bind fun r2 =>
 if ¬ (r2 = true) then
 some ([], (false, ()))
 else (fq k gy 1 4).bind fun r3 =>
 if ¬ (r3 = true) then
 some ([], (false, ()))
 else (cK k aB bF gy []).bind fun r4 =>
 some (r4.1, (decide (r4.2.1 = true), ())) := by kernel_rfl
theorem FM (k : Nat) (bD) : jS (k + 1) bD =
 if (List.length ([] : (List aF)) + List.length bD.1) * 32 <= 211106232532992 then
 if (List.length ([] : (List bE)) + List.length bD.2.2.1) * 16 <= 211106232532992 then
 (gW k bD.2.2.2.1).bind fun r1 =>
 if (List.length ([] : (List Int)) + List.length bD.2.2.2.2.1) * 8 <= 211106232532992 then
 if (List.length ([] : (List aU)) + List.length bD.2.2.2.2.2.1) * 40 <= 211106232532992 then
 if (List.length ([] : (List bE)) + List.length bD.2.2.2.2.2.2.1) * 16 <= 211106232532992 then
 some ((([] : (List aF)) ++ bD.1), (bD.2.1, ((([] : (List bE)) ++ bD.2.2.1), (r1, ((([] : (List Int)) ++ bD.2.2.2.2.1), ((([] : (List aU)) ++ bD.2.2.2.2.2.1), ((([] : (List bE)) ++ bD.2.2.2.2.2.2.1), bD.2.2.2.2.2.2.2))))))) else none else none else none else none else none := by kernel_rfl
theorem Dq (k : Nat) (x_0 Gu yD) : fq (k + 1) x_0 Gu yD =
 if (Gu : Int) <= x_0 then
 some (decide ((x_0 : Int) <= yD))
 else some false := by kernel_rfl
theorem uq (k : Nat) (bD Ot XQ) : lZ (k + 1) bD Ot XQ =
 if ¬ (XQ = true) then
 (jS k bD).bind fun r1 =>
 some (r1, (false, ()))
 else (fM k Ot).bind fun r2 =>
 if ¬ (r2 = true) then
 (jS k bD).bind fun r3 =>
 some (r3, (false, ()))
 else some (Ot, (true, ())) := by kernel_rfl
theorem kH (k : Nat) (aB x_1) : qU (k + 1) aB x_1 =
 (iY k aB x_1).bind fun r1 =>
 (dX k aB).bind fun r2 =>
 if ¬ (r2 = true) then
 if (List.length ([] : (List aU)) + List.length aB) * 40 <= 211106232532992 then
 some (([] : (List aU)) ++ aB) else none
 else (dX k r1).bind fun r3 =>
 if ¬ (r3 = true) then
 if (List.length ([] : (List aU)) + List.length aB) * 40 <= 211106232532992 then
 some (([] : (List aU)) ++ aB) else none
 else some r1 := by kernel_rfl
theorem vT (k : Nat) (a_0 b_1) : eU (k + 1) a_0 b_1 =
 if (((List.length a_0 : Nat) : Int) : Int) ≠ ((List.length b_1 : Nat) : Int) then
 some false
 else eU.l0 k k a_0 b_1 0 := by kernel_rfl
theorem eU.aA (k m : Nat) (a_0 b_1 je) : eU.l0 k (m + 1) a_0 b_1 je =
 if (je : Int) < ((List.length a_0 : Nat) : Int) then
 if 0 <= je then
 if je < ((List.length a_0 : Nat) : Int) then
 if 0 <= je then
 if je < ((List.length b_1 : Nat) : Int) then
 if ¬ ((((rd dY a_0 je).1 : Int) = (rd dY b_1 je).1) /\ ((((rd dY a_0 je).2.1 : Int) = (rd dY b_1 je).2.1) /\ ((((rd dY a_0 je).2.2.1 : Int) = (rd dY b_1 je).2.2.1) /\ ((((rd dY a_0 je).2.2.2.1 : Int) = (rd dY b_1 je).2.2.2.1) /\ (((rd dY a_0 je).2.2.2.2.1 : Int) = (rd dY b_1 je).2.2.2.2.1))))) then
 some false
 else eU.l0 k m a_0 b_1 (IntKind.wrap .i64 (je + 1)) else none else none else none else none
 else some true := by kernel_rfl
theorem xM (k : Nat) (aB e_1) : mP (k + 1) aB e_1 =
 (jI k aB e_1).bind fun r1 =>
 (dO k r1).bind fun r2 =>
 if ¬ (r2 = true) then
 if (List.length ([] : (List aF)) + List.length aB) * 32 <= 211106232532992 then
 some ((([] : (List aF)) ++ aB), (false, ())) else none
 else some (r1, (true, ())) := by kernel_rfl
theorem Ou (k : Nat) (a_0 b_1) : IV (k + 1) a_0 b_1 =
 if (b_1 : Int) < a_0 then
 some b_1
 else some a_0 := by kernel_rfl
theorem AZ (k : Nat) (p_0) : nX (k + 1) p_0 =
 (qV k p_0.2.2.2.1).bind fun r1 =>
 some (p_0.1, (p_0.2.1, (p_0.2.2.1, (r1, ())))) := by kernel_rfl
theorem kU (k : Nat) (aB) : bJ (k + 1) aB =
 if (List.length ([] : (List aF)) + List.length aB) * 32 <= 211106232532992 then
 some (([] : (List aF)) ++ aB) else none := by kernel_rfl
theorem wY (k : Nat) (aB) : mQ (k + 1) aB =
 if (List.length ([] : (List bE)) + List.length aB) * 16 <= 211106232532992 then
 some (([] : (List bE)) ++ aB) else none := by kernel_rfl
theorem Dt (k : Nat) (aB) : qV (k + 1) aB =
 if (List.length ([] : (List Int)) + List.length aB) * 8 <= 211106232532992 then
 some (([] : (List Int)) ++ aB) else none := by kernel_rfl
theorem xO (k : Nat) (aB) : iO (k + 1) aB =
 if (List.length ([] : (List aU)) + List.length aB) * 40 <= 211106232532992 then
 some (([] : (List aU)) ++ aB) else none := by kernel_rfl
theorem wh (k : Nat) (aB) : mg (k + 1) aB =
 if (List.length ([] : (List bE)) + List.length aB) * 16 <= 211106232532992 then
 some (([] : (List bE)) ++ aB) else none := by kernel_rfl
theorem xP (k : Nat) (aB e_1) : wX (k + 1) aB e_1 =
 (bg k aB e_1).bind fun r1 =>
 if (r1 : Int) < 0 then
 (bJ k aB).bind fun r2 =>
 (jq k r2 ((List.length aB : Nat) : Int) [e_1]).bind fun r3 =>
 (aP k r3).bind fun r4 =>
 if ¬ (r4 = true) then
 (bJ k aB).bind fun r5 =>
 some (r5, (false, ()))
 else some (r3, (true, ()))
 else (bJ k aB).bind fun r6 =>
 (jq k r6 r1 [e_1]).bind fun r7 =>
 (aP k r7).bind fun r8 =>
 if ¬ (r8 = true) then
 (bJ k aB).bind fun r9 =>
 some (r9, (false, ()))
 else some (r7, (true, ())) := by kernel_rfl
theorem qX (k : Nat) (aB e_1) : vQ (k + 1) aB e_1 =
 (cu k aB e_1).bind fun r1 =>
 (aP k aB).bind fun r2 =>
 if ¬ (r2 = true) then
 (bJ k aB).bind fun r3 =>
 some (r3, (false, ()))
 else if (r1 : Int) < 0 then
 (bJ k aB).bind fun r4 =>
 some (r4, (false, ()))
 else (bJ k aB).bind fun r5 =>
 (kX k r5 r1 (IntKind.wrap .i64 (r1 + 1))).bind fun r6 =>
 some (r6, (true, ())) := by kernel_rfl
theorem pY (k : Nat) (s_0 fu) : bf (k + 1) s_0 fu =
 bf.l0 k k s_0 fu ((List.length s_0 : Nat) : Int) 0 := by kernel_rfl
theorem bf.aA (k m : Nat) (s_0 jv eD iA) : bf.l0 k (m + 1) s_0 jv eD iA =
 if (iA : Int) < eD then
 if 0 <= iA then
 if iA < ((List.length s_0 : Nat) : Int) then
 (vR k (rd dn s_0 iA) jv).bind fun r1 =>
 if r1 = true then
 some iA
 else bf.l0 k m s_0 jv eD (IntKind.wrap .i64 (iA + 1)) else none else none
 else some (-1) := by kernel_rfl
theorem uT (k : Nat) (s_0 : (List bE)) (Dc : Int) (Mq : (List bE)) : kW (k + 1) s_0 Dc Mq = (gL dn 16) (.list dn) [.give (.list dn) s_0, .val (.int .i64) Dc, .val (.list dn) Mq] := by kernel_rfl
theorem Ba (k : Nat) (aB : (List bn)) (bF : (List aF)) (gy : Int) : sj (k + 1) aB bF gy = (tF Go.fZ.OO Go.fZ.OP Go.fZ.AJ) (.pair (.list (.int .i64)) (.pair .bool .unit)) [.val (.list bV) aB, .val (.list bR) bF, .val (.int .i64) gy] := by kernel_rfl
theorem oN (k : Nat) (s_0 fu) : aS (k + 1) s_0 fu =
 aS.l0 k k s_0 fu ((List.length s_0 : Nat) : Int) 0 := by kernel_rfl
theorem aS.aA (k m : Nat) (s_0 jv eD iA) : aS.l0 k (m + 1) s_0 jv eD iA =
 if (iA : Int) < eD then
 if 0 <= iA then
 if iA < ((List.length s_0 : Nat) : Int) then
 (vS k (rd bV s_0 iA) jv).bind fun r1 =>
 if r1 = true then
 some iA
 else aS.l0 k m s_0 jv eD (IntKind.wrap .i64 (iA + 1)) else none else none
 else some (-1) := by kernel_rfl
theorem jf (k : Nat) (s_0 v_1) : aC (k + 1) s_0 v_1 =
 aC.l0 k k s_0 v_1 ((List.length s_0 : Nat) : Int) 0 := by kernel_rfl
theorem aC.aA (k m : Nat) (s_0 v_1 eD iA) : aC.l0 k (m + 1) s_0 v_1 eD iA =
 if (iA : Int) < eD then
 if 0 <= iA then
 if iA < ((List.length s_0 : Nat) : Int) then
 if Eq (α := Int) v_1 (rd (.int .i64) s_0 iA) then
 some iA
 else aC.l0 k m s_0 v_1 eD (IntKind.wrap .i64 (iA + 1)) else none else none
 else some (-1) := by kernel_rfl
theorem qd (k : Nat) (aB bF bZ pq) : dR (k + 1) aB bF bZ pq =
 (eF k aB bF bZ).bind fun r1 =>
 if ¬ (r1 = true) then
 some (0, (false, ()))
 else (aY k pq 1 ((List.length bZ : Nat) : Int)).bind fun r2 =>
 if ¬ (r2 = true) then
 some (0, (false, ()))
 else dR.l0 k k bF bZ pq aB ((List.length aB : Nat) : Int) 0 := by kernel_rfl
theorem dR.aA (k m : Nat) (bF bZ pq vO Tj IW) : dR.l0 k (m + 1) bF bZ pq vO Tj IW =
 if (IW : Int) < Tj then
 if 0 <= IW then
 if IW < ((List.length vO : Nat) : Int) then
 (dw k bZ (rd bV vO IW).1).bind fun r3 =>
 if ¬ (r3 = true) then
 (jR k (rd bV vO IW) bF pq).bind fun r4 =>
 if r4 = true then
 some ((rd bV vO IW).1, (true, ()))
 else dR.l0 k m bF bZ pq vO Tj (IntKind.wrap .i64 (IW + 1))
 else dR.l0 k m bF bZ pq vO Tj (IntKind.wrap .i64 (IW + 1)) else none else none
 else some (0, (false, ())) := by kernel_rfl
theorem uw (k : Nat) (s_0 : (List bn)) (Dc : Int) (XR : Int) : jg (k + 1) s_0 Dc XR = (kC bV) (.list bV) [.give (.list bV) s_0, .val (.int .i64) Dc, .val (.int .i64) XR] := by kernel_rfl
theorem uy (k : Nat) (s_0 : (List bn)) (Dc : Int) (Mq : (List bn)) : kG (k + 1) s_0 Dc Mq = (gL bV 48) (.list bV) [.give (.list bV) s_0, .val (.int .i64) Dc, .val (.list bV) Mq] := by kernel_rfl
theorem uz (k : Nat) (aB x_1) : yE (k + 1) aB x_1 =
 (dW k aB).bind fun r1 =>
 if r1 = true then
 (iO k aB).bind fun r2 =>
 (IY k r2 x_1).bind fun r3 =>
 (dW k r3).bind fun r4 =>
 if r4 = true then
 some r3
 else (iO k aB).bind fun r5 =>
 some r5
 else (iO k aB).bind fun r6 =>
 some r6 := by kernel_rfl
theorem iK (k : Nat) (x_0 y_1) : cmp_Compare_int (k + 1) x_0 y_1 =
 (cmp_isNaN_int k x_0).bind fun r1 =>
 (cmp_isNaN_int k y_1).bind fun r2 =>
 if r1 = true then
 if r2 = true then
 some 0
 else some (-1)
 else if r2 = true then
 some 1
 else if (x_0 : Int) < y_1 then
 some (-1)
 else if (y_1 : Int) < x_0 then
 some 1
 else some 0 := by kernel_rfl
theorem sK (k : Nat) (vK) : bX (k + 1) vK =
 bX.l0 k k 0 vK ((List.length vK : Nat) : Int) 0 := by kernel_rfl
theorem bX.aA (k m : Nat) (rP tQ eD iA) : bX.l0 k (m + 1) rP tQ eD iA =
 if (iA : Int) < eD then
 if 0 <= iA then
 if iA < ((List.length tQ : Nat) : Int) then
 if Ne (α := Int) (rd (.int .i64) tQ iA) rP then
 some (rd (.int .i64) tQ iA)
 else bX.l0 k m rP tQ eD (IntKind.wrap .i64 (iA + 1)) else none else none
 else some rP := by kernel_rfl
theorem qD (k : Nat) (aB dU cO) : aW (k + 1) aB dU cO =
 aW.l0 k k aB dU cO aB ((List.length aB : Nat) : Int) 0 := by kernel_rfl
theorem aW.aA (k m : Nat) (aB dU cO oL kT iP) : aW.l0 k (m + 1) aB dU cO oL kT iP =
 if (iP : Int) < kT then
 if 0 <= iP then
 if iP < ((List.length oL : Nat) : Int) then
 (aY k (rd (.int .i64) oL iP) dU cO).bind fun r1 =>
 if ¬ (r1 = true) then
 some false
 else if (0 : Int) < iP then
 if 0 <= (IntKind.wrap .i64 (iP - 1)) then
 if (IntKind.wrap .i64 (iP - 1)) < ((List.length aB : Nat) : Int) then
 if LE.le (α := Int) (rd (.int .i64) oL iP) (rd (.int .i64) aB (IntKind.wrap .i64 (iP - 1))) then
 some false
 else aW.l0 k m aB dU cO oL kT (IntKind.wrap .i64 (iP + 1)) else none else none
 else aW.l0 k m aB dU cO oL kT (IntKind.wrap .i64 (iP + 1)) else none else none
 else some true := by kernel_rfl
theorem oO (k : Nat) (s_0 fu Da Db) : aT (k + 1) s_0 fu Da Db =
 aT.l0 k k s_0 fu Da Db ((List.length s_0 : Nat) : Int) 0 := by kernel_rfl
theorem aT.aA (k m : Nat) (s_0 jv Df Dg eD iA) : aT.l0 k (m + 1) s_0 jv Df Dg eD iA =
 if (iA : Int) < eD then
 if 0 <= iA then
 if iA < ((List.length s_0 : Nat) : Int) then
 (su k (rd bV s_0 iA) jv Df Dg).bind fun r1 =>
 if r1 = true then
 some iA
 else aT.l0 k m s_0 jv Df Dg eD (IntKind.wrap .i64 (iA + 1)) else none else none
 else some (-1) := by kernel_rfl
theorem bS (k : Nat) (bD) : fM (k + 1) bD =
 (dO k bD.1).bind fun r1 =>
 if r1 = true then
 (uQ k bD.2.1).bind fun r2 =>
 if r2 = true then
 (fF k bD.2.2.1).bind fun r3 =>
 if r3 = true then
 (dX k bD.2.2.2.2.2.1).bind fun r4 =>
 if r4 = true then
 (eB k bD.2.2.2.2.2.2.1).bind fun r5 =>
 if r5 = true then
 (aX k bD.2.2.2.1 bD.1 bD.2.2.2.2.1).bind fun r6 =>
 if r6 = true then
 (fq k bD.2.2.2.2.2.2.2.1 1 9999).bind fun r7 =>
 if r7 = true then
 (fq k bD.2.2.2.2.2.2.2.2.1 0 100000).bind fun r8 =>
 some (decide (r8 = true))
 else some false
 else some false
 else some false
 else some false
 else some false
 else some false
 else some false := by kernel_rfl
theorem Jb (k : Nat) (jB eZ yD) : gN (k + 1) jB eZ yD =
 (aM k jB yD).bind fun r1 =>
 gN.l0 k k eZ 0 r1.1 r1.2.1 r1.2.2.1 r1.2.2.2.1 [] := by kernel_rfl
theorem gN.aA (k m : Nat) (eZ Qg IX bU bN bO s1) : gN.l0 k (m + 1) eZ Qg IX bU bN bO s1 =
 if (0 : Int) < IX then
 (aM k (bU, (bN, (bO, ()))) 3).bind fun r2 =>
 (aM k r2.2 8).bind fun r3 =>
 (jA k r3.2 5).bind fun r4 =>
 if r4.1 = true then
 (mP k s1 (Qg, (IntKind.wrap .i64 (6 * (IntKind.wrap .i64 (1 + r2.1))), (IntKind.wrap .i64 (60 + r3.1), (eZ, ()))))).bind fun r5 =>
 gN.l0 k m eZ (IntKind.wrap .i64 ((IntKind.wrap .i64 (Qg + (IntKind.wrap .i64 (6 * (IntKind.wrap .i64 (1 + r2.1)))))) + 12)) (IntKind.wrap .i64 (IX - 1)) r4.2.1 r4.2.2.1 r4.2.2.2.1 r5.1
 else (mP k s1 (Qg, (IntKind.wrap .i64 (6 * (IntKind.wrap .i64 (1 + r2.1))), (IntKind.wrap .i64 (60 + r3.1), (eZ, ()))))).bind fun r6 =>
 gN.l0 k m eZ (IntKind.wrap .i64 (Qg + (IntKind.wrap .i64 (6 * (IntKind.wrap .i64 (1 + r2.1)))))) (IntKind.wrap .i64 (IX - 1)) r4.2.1 r4.2.2.1 r4.2.2.2.1 r6.1
 else some (s1, (bU, (bN, (bO, ())))) := by kernel_rfl
theorem FN (k : Nat) (jB) : yF (k + 1) jB =
 (aM k jB 5).bind fun r1 =>
 (aM k r1.2 4).bind fun r2 =>
 (aM k r2.2 4).bind fun r3 =>
 (aM k r3.2 5).bind fun r4 =>
 (aM k r4.2 3).bind fun r5 =>
 some ((IntKind.wrap .i64 (1 + r1.1), (IntKind.wrap .i64 (1 + r2.1), (r3.1, (r4.1, (IntKind.wrap .i64 (1 + r5.1), ()))))), r5.2) := by kernel_rfl
theorem Ch (k : Nat) (aB) : aK (k + 1) aB =
 aK.l0 k k aB 0 := by kernel_rfl
theorem aK.aA (k m : Nat) (aB iQ) : aK.l0 k (m + 1) aB iQ =
 if (iQ : Int) < ((List.length aB : Nat) : Int) then
 if 0 <= iQ then
 if iQ < ((List.length aB : Nat) : Int) then
 (fq k (rd bV aB iQ).1 1 99).bind fun r1 =>
 if ¬ (r1 = true) then
 some false
 else if LT.lt (α := Int) (rd bV aB iQ).2.1 21 then
 some false
 else if LT.lt (α := Int) (rd bV aB iQ).2.2.1 (rd bV aB iQ).2.1 then
 some false
 else if LT.lt (α := Int) 108 (rd bV aB iQ).2.2.1 then
 some false
 else if (0 : Int) < iQ then
 if 0 <= (IntKind.wrap .i64 (iQ - 1)) then
 if (IntKind.wrap .i64 (iQ - 1)) < ((List.length aB : Nat) : Int) then
 if LE.le (α := Int) (rd bV aB iQ).1 (rd bV aB (IntKind.wrap .i64 (iQ - 1))).1 then
 some false
 else aK.l1 k k m aB iQ 0 (rd bV aB iQ).1 (rd bV aB iQ).2.1 (rd bV aB iQ).2.2.1 (rd bV aB iQ).2.2.2.1 else none else none
 else aK.l1 k k m aB iQ 0 (rd bV aB iQ).1 (rd bV aB iQ).2.1 (rd bV aB iQ).2.2.1 (rd bV aB iQ).2.2.2.1 else none else none
 else some (decide ((((List.length aB : Nat) : Int) : Int) <= 8)) := by kernel_rfl
theorem aK.wG (k m m1 : Nat) (aB iQ eT bU bN bO fP) : aK.l1 k (m + 1) m1 aB iQ eT bU bN bO fP =
 if (eT : Int) < ((List.length fP : Nat) : Int) then
 if 0 <= eT then
 if eT < ((List.length fP : Nat) : Int) then
 (fq k (rd (.int .i64) fP eT) 1 4).bind fun r2 =>
 if ¬ (r2 = true) then
 some false
 else if (0 : Int) < eT then
 if 0 <= (IntKind.wrap .i64 (eT - 1)) then
 if (IntKind.wrap .i64 (eT - 1)) < ((List.length fP : Nat) : Int) then
 if 0 <= eT then
 if eT < ((List.length fP : Nat) : Int) then
 if LE.le (α := Int) (rd (.int .i64) fP eT) (rd (.int .i64) fP (IntKind.wrap .i64 (eT - 1))) then
 some false
 else aK.l1 k m m1 aB iQ (IntKind.wrap .i64 (eT + 1)) bU bN bO fP else none else none else none else none
 else aK.l1 k m m1 aB iQ (IntKind.wrap .i64 (eT + 1)) bU bN bO fP else none else none
 else aK.l0 k m1 aB (IntKind.wrap .i64 (iQ + 1)) := by kernel_rfl
theorem FP (k : Nat) (aB) : dO (k + 1) aB =
 dO.l0 k k aB 0 := by kernel_rfl
theorem dO.aA (k m : Nat) (aB iQ) : dO.l0 k (m + 1) aB iQ =
 if (iQ : Int) < ((List.length aB : Nat) : Int) then
 if 0 <= iQ then
 if iQ < ((List.length aB : Nat) : Int) then
 (Es k (rd bR aB iQ)).bind fun r1 =>
 if ¬ (r1 = true) then
 some false
 else if (0 : Int) < iQ then
 if 0 <= (IntKind.wrap .i64 (iQ - 1)) then
 if (IntKind.wrap .i64 (iQ - 1)) < ((List.length aB : Nat) : Int) then
 if 0 <= iQ then
 if iQ < ((List.length aB : Nat) : Int) then
 (sS k (rd bR aB (IntKind.wrap .i64 (iQ - 1))) (rd bR aB iQ)).bind fun r2 =>
 if ¬ (r2 = true) then
 some false
 else dO.l0 k m aB (IntKind.wrap .i64 (iQ + 1)) else none else none else none else none
 else dO.l0 k m aB (IntKind.wrap .i64 (iQ + 1)) else none else none
 else some (decide ((((List.length aB : Nat) : Int) : Int) <= 40)) := by kernel_rfl
theorem pz (k : Nat) (aB bF gy jT) : cK (k + 1) aB bF gy jT =
 if (((List.length jT : Nat) : Int) : Int) = gy then
 if (List.length ([] : (List Int)) + List.length jT) * 8 <= 211106232532992 then
 some ((([] : (List Int)) ++ jT), (true, ())) else none
 else cK.l0 k k aB bF gy jT 0 := by kernel_rfl
theorem cK.aA (k m : Nat) (aB bF gy jT Ab) : cK.l0 k (m + 1) aB bF gy jT Ab =
 if (Ab : Int) < ((List.length aB : Nat) : Int) then
 if 0 <= Ab then
 if Ab < ((List.length aB : Nat) : Int) then
 (gP k jT (rd bV aB Ab).1).bind fun r1 =>
 if r1 = true then
 cK.l0 k m aB bF gy jT (IntKind.wrap .i64 (Ab + 1))
 else if 0 <= Ab then
 if Ab < ((List.length aB : Nat) : Int) then
 (uR k (rd bV aB Ab) bF (IntKind.wrap .i64 (((List.length jT : Nat) : Int) + 1))).bind fun r2 =>
 if ¬ (r2 = true) then
 cK.l0 k m aB bF gy jT (IntKind.wrap .i64 (Ab + 1))
 else if (List.length ([] : (List Int)) + List.length jT) * 8 <= 211106232532992 then
 if 0 <= Ab then
 if Ab < ((List.length aB : Nat) : Int) then
 if (List.length (([] : (List Int)) ++ jT) + List.length ([(rd bV aB Ab).1] : (List Int))) * 8 <= 211106232532992 then
 (cK k aB bF gy ((([] : (List Int)) ++ jT) ++ ([(rd bV aB Ab).1] : (List Int)))).bind fun r3 =>
 if r3.2.1 = true then
 some (r3.1, (true, ()))
 else cK.l0 k m aB bF gy jT (IntKind.wrap .i64 (Ab + 1)) else none else none else none else none else none else none else none else none
 else some ([], (false, ())) := by kernel_rfl
theorem FQ (k : Nat) (aB) : gW (k + 1) aB =
 gW.l0 k k aB 0 [] := by kernel_rfl
theorem gW.aA (k m : Nat) (aB nS s0) : gW.l0 k (m + 1) aB nS s0 =
 if (nS : Int) < ((List.length aB : Nat) : Int) then
 if 0 <= nS then
 if nS < ((List.length aB : Nat) : Int) then
 if (List.length ([] : (List Int)) + List.length (rd bV aB nS).2.2.2.1) * 8 <= 211106232532992 then
 if (List.length s0 + List.length ([((rd bV aB nS).1, ((rd bV aB nS).2.1, ((rd bV aB nS).2.2.1, ((([] : (List Int)) ++ (rd bV aB nS).2.2.2.1), ()))))] : (List bn))) * 48 <= 211106232532992 then
 gW.l0 k m aB (IntKind.wrap .i64 (nS + 1)) (s0 ++ ([((rd bV aB nS).1, ((rd bV aB nS).2.1, ((rd bV aB nS).2.2.1, ((([] : (List Int)) ++ (rd bV aB nS).2.2.2.1), ()))))] : (List bn))) else none else none else none else none
 else some s0 := by kernel_rfl
theorem Jc (k : Nat) (aB x_1) : iY (k + 1) aB x_1 =
 iY.l0 k k aB 0 x_1.1 x_1.2.1 x_1.2.2.1 x_1.2.2.2.1 x_1.2.2.2.2.1 := by kernel_rfl
theorem iY.aA (k m : Nat) (aB eT bU bN bO fP kQ) : iY.l0 k (m + 1) aB eT bU bN bO fP kQ =
 if (eT : Int) < ((List.length aB : Nat) : Int) then
 if 0 <= eT then
 if eT < ((List.length aB : Nat) : Int) then
 (qW k (rd dY aB eT) (bU, (bN, (bO, (fP, (kQ, ())))))).bind fun r1 =>
 if r1 = true then
 iY.l0 k m aB (IntKind.wrap .i64 (eT + 1)) bU bN bO fP kQ
 else if 0 <= eT then
 if eT <= ((List.length aB : Nat) : Int) then
 if (0 : Int) < ((List.length (List.take ((Int.toNat ((List.length aB : Nat) : Int)) - (Int.toNat eT)) (List.drop (Int.toNat eT) aB)) : Nat) : Int) then
 if 0 <= 0 then
 if 0 < ((List.length (List.take ((Int.toNat ((List.length aB : Nat) : Int)) - (Int.toNat eT)) (List.drop (Int.toNat eT) aB)) : Nat) : Int) then
 if Eq (α := Int) (rd dY (List.take ((Int.toNat ((List.length aB : Nat) : Int)) - (Int.toNat eT)) (List.drop (Int.toNat eT) aB)) 0).1 bU then
 if 0 <= 0 then
 if 0 < ((List.length (List.take ((Int.toNat ((List.length aB : Nat) : Int)) - (Int.toNat eT)) (List.drop (Int.toNat eT) aB)) : Nat) : Int) then
 if Eq (α := Int) (rd dY (List.take ((Int.toNat ((List.length aB : Nat) : Int)) - (Int.toNat eT)) (List.drop (Int.toNat eT) aB)) 0).2.1 bN then
 if 0 <= 0 then
 if 0 < ((List.length (List.take ((Int.toNat ((List.length aB : Nat) : Int)) - (Int.toNat eT)) (List.drop (Int.toNat eT) aB)) : Nat) : Int) then
 (uS k (bU, (bN, (bO, (fP, (kQ, ()))))) (rd dY (List.take ((Int.toNat ((List.length aB : Nat) : Int)) - (Int.toNat eT)) (List.drop (Int.toNat eT) aB)) 0)).bind fun r2 =>
 if ¬ (r2 = true) then
 if (List.length ([] : (List aU)) + List.length aB) * 40 <= 211106232532992 then
 some (([] : (List aU)) ++ aB) else none
 else if 0 <= 1 then
 if 1 <= ((List.length (List.take ((Int.toNat ((List.length aB : Nat) : Int)) - (Int.toNat eT)) (List.drop (Int.toNat eT) aB)) : Nat) : Int) then
 if 0 <= eT then
 if eT <= ((List.length aB : Nat) : Int) then
 if (List.length ([] : (List aU)) + List.length (List.take ((Int.toNat eT) - (Int.toNat 0)) (List.drop (Int.toNat 0) aB))) * 40 <= 211106232532992 then
 if (List.length (([] : (List aU)) ++ (List.take ((Int.toNat eT) - (Int.toNat 0)) (List.drop (Int.toNat 0) aB))) + List.length ([(bU, (bN, (bO, (fP, (kQ, ())))))] : (List aU))) * 40 <= 211106232532992 then
 if (List.length ((([] : (List aU)) ++ (List.take ((Int.toNat eT) - (Int.toNat 0)) (List.drop (Int.toNat 0) aB))) ++ ([(bU, (bN, (bO, (fP, (kQ, ())))))] : (List aU))) + List.length (List.take ((Int.toNat ((List.length (List.take ((Int.toNat ((List.length aB : Nat) : Int)) - (Int.toNat eT)) (List.drop (Int.toNat eT) aB)) : Nat) : Int)) - (Int.toNat 1)) (List.drop (Int.toNat 1) (List.take ((Int.toNat ((List.length aB : Nat) : Int)) - (Int.toNat eT)) (List.drop (Int.toNat eT) aB))))) * 40 <= 211106232532992 then
 some (((([] : (List aU)) ++ (List.take ((Int.toNat eT) - (Int.toNat 0)) (List.drop (Int.toNat 0) aB))) ++ ([(bU, (bN, (bO, (fP, (kQ, ())))))] : (List aU))) ++ (List.take ((Int.toNat ((List.length (List.take ((Int.toNat ((List.length aB : Nat) : Int)) - (Int.toNat eT)) (List.drop (Int.toNat eT) aB)) : Nat) : Int)) - (Int.toNat 1)) (List.drop (Int.toNat 1) (List.take ((Int.toNat ((List.length aB : Nat) : Int)) - (Int.toNat eT)) (List.drop (Int.toNat eT) aB))))) else none else none else none else none else none else none else none else none else none
 else if 0 <= eT then
 if eT <= ((List.length aB : Nat) : Int) then
 if (List.length ([] : (List aU)) + List.length (List.take ((Int.toNat eT) - (Int.toNat 0)) (List.drop (Int.toNat 0) aB))) * 40 <= 211106232532992 then
 if (List.length (([] : (List aU)) ++ (List.take ((Int.toNat eT) - (Int.toNat 0)) (List.drop (Int.toNat 0) aB))) + List.length ([(bU, (bN, (bO, (fP, (kQ, ())))))] : (List aU))) * 40 <= 211106232532992 then
 if (List.length ((([] : (List aU)) ++ (List.take ((Int.toNat eT) - (Int.toNat 0)) (List.drop (Int.toNat 0) aB))) ++ ([(bU, (bN, (bO, (fP, (kQ, ())))))] : (List aU))) + List.length (List.take ((Int.toNat ((List.length aB : Nat) : Int)) - (Int.toNat eT)) (List.drop (Int.toNat eT) aB))) * 40 <= 211106232532992 then
 some (((([] : (List aU)) ++ (List.take ((Int.toNat eT) - (Int.toNat 0)) (List.drop (Int.toNat 0) aB))) ++ ([(bU, (bN, (bO, (fP, (kQ, ())))))] : (List aU))) ++ (List.take ((Int.toNat ((List.length aB : Nat) : Int)) - (Int.toNat eT)) (List.drop (Int.toNat eT) aB))) else none else none else none else none else none else none else none
 else if 0 <= eT then
 if eT <= ((List.length aB : Nat) : Int) then
 if (List.length ([] : (List aU)) + List.length (List.take ((Int.toNat eT) - (Int.toNat 0)) (List.drop (Int.toNat 0) aB))) * 40 <= 211106232532992 then
 if (List.length (([] : (List aU)) ++ (List.take ((Int.toNat eT) - (Int.toNat 0)) (List.drop (Int.toNat 0) aB))) + List.length ([(bU, (bN, (bO, (fP, (kQ, ())))))] : (List aU))) * 40 <= 211106232532992 then
 if (List.length ((([] : (List aU)) ++ (List.take ((Int.toNat eT) - (Int.toNat 0)) (List.drop (Int.toNat 0) aB))) ++ ([(bU, (bN, (bO, (fP, (kQ, ())))))] : (List aU))) + List.length (List.take ((Int.toNat ((List.length aB : Nat) : Int)) - (Int.toNat eT)) (List.drop (Int.toNat eT) aB))) * 40 <= 211106232532992 then
 some (((([] : (List aU)) ++ (List.take ((Int.toNat eT) - (Int.toNat 0)) (List.drop (Int.toNat 0) aB))) ++ ([(bU, (bN, (bO, (fP, (kQ, ())))))] : (List aU))) ++ (List.take ((Int.toNat ((List.length aB : Nat) : Int)) - (Int.toNat eT)) (List.drop (Int.toNat eT) aB))) else none else none else none else none else none else none else none
 else if 0 <= eT then
 if eT <= ((List.length aB : Nat) : Int) then
 if (List.length ([] : (List aU)) + List.length (List.take ((Int.toNat eT) - (Int.toNat 0)) (List.drop (Int.toNat 0) aB))) * 40 <= 211106232532992 then
 if (List.length (([] : (List aU)) ++ (List.take ((Int.toNat eT) - (Int.toNat 0)) (List.drop (Int.toNat 0) aB))) + List.length ([(bU, (bN, (bO, (fP, (kQ, ())))))] : (List aU))) * 40 <= 211106232532992 then
 if (List.length ((([] : (List aU)) ++ (List.take ((Int.toNat eT) - (Int.toNat 0)) (List.drop (Int.toNat 0) aB))) ++ ([(bU, (bN, (bO, (fP, (kQ, ())))))] : (List aU))) + List.length (List.take ((Int.toNat ((List.length aB : Nat) : Int)) - (Int.toNat eT)) (List.drop (Int.toNat eT) aB))) * 40 <= 211106232532992 then
 some (((([] : (List aU)) ++ (List.take ((Int.toNat eT) - (Int.toNat 0)) (List.drop (Int.toNat 0) aB))) ++ ([(bU, (bN, (bO, (fP, (kQ, ())))))] : (List aU))) ++ (List.take ((Int.toNat ((List.length aB : Nat) : Int)) - (Int.toNat eT)) (List.drop (Int.toNat eT) aB))) else none else none else none else none else none else none else none else none else none
 else if 0 <= eT then
 if eT <= ((List.length aB : Nat) : Int) then
 if (0 : Int) < ((List.length (List.take ((Int.toNat ((List.length aB : Nat) : Int)) - (Int.toNat eT)) (List.drop (Int.toNat eT) aB)) : Nat) : Int) then
 if 0 <= 0 then
 if 0 < ((List.length (List.take ((Int.toNat ((List.length aB : Nat) : Int)) - (Int.toNat eT)) (List.drop (Int.toNat eT) aB)) : Nat) : Int) then
 if Eq (α := Int) (rd dY (List.take ((Int.toNat ((List.length aB : Nat) : Int)) - (Int.toNat eT)) (List.drop (Int.toNat eT) aB)) 0).1 bU then
 if 0 <= 0 then
 if 0 < ((List.length (List.take ((Int.toNat ((List.length aB : Nat) : Int)) - (Int.toNat eT)) (List.drop (Int.toNat eT) aB)) : Nat) : Int) then
 if Eq (α := Int) (rd dY (List.take ((Int.toNat ((List.length aB : Nat) : Int)) - (Int.toNat eT)) (List.drop (Int.toNat eT) aB)) 0).2.1 bN then
 if 0 <= 0 then
 if 0 < ((List.length (List.take ((Int.toNat ((List.length aB : Nat) : Int)) - (Int.toNat eT)) (List.drop (Int.toNat eT) aB)) : Nat) : Int) then
 (uS k (bU, (bN, (bO, (fP, (kQ, ()))))) (rd dY (List.take ((Int.toNat ((List.length aB : Nat) : Int)) - (Int.toNat eT)) (List.drop (Int.toNat eT) aB)) 0)).bind fun r3 =>
 if ¬ (r3 = true) then
 if (List.length ([] : (List aU)) + List.length aB) * 40 <= 211106232532992 then
 some (([] : (List aU)) ++ aB) else none
 else if 0 <= 1 then
 if 1 <= ((List.length (List.take ((Int.toNat ((List.length aB : Nat) : Int)) - (Int.toNat eT)) (List.drop (Int.toNat eT) aB)) : Nat) : Int) then
 if 0 <= eT then
 if eT <= ((List.length aB : Nat) : Int) then
 if (List.length ([] : (List aU)) + List.length (List.take ((Int.toNat eT) - (Int.toNat 0)) (List.drop (Int.toNat 0) aB))) * 40 <= 211106232532992 then
 if (List.length (([] : (List aU)) ++ (List.take ((Int.toNat eT) - (Int.toNat 0)) (List.drop (Int.toNat 0) aB))) + List.length ([(bU, (bN, (bO, (fP, (kQ, ())))))] : (List aU))) * 40 <= 211106232532992 then
 if (List.length ((([] : (List aU)) ++ (List.take ((Int.toNat eT) - (Int.toNat 0)) (List.drop (Int.toNat 0) aB))) ++ ([(bU, (bN, (bO, (fP, (kQ, ())))))] : (List aU))) + List.length (List.take ((Int.toNat ((List.length (List.take ((Int.toNat ((List.length aB : Nat) : Int)) - (Int.toNat eT)) (List.drop (Int.toNat eT) aB)) : Nat) : Int)) - (Int.toNat 1)) (List.drop (Int.toNat 1) (List.take ((Int.toNat ((List.length aB : Nat) : Int)) - (Int.toNat eT)) (List.drop (Int.toNat eT) aB))))) * 40 <= 211106232532992 then
 some (((([] : (List aU)) ++ (List.take ((Int.toNat eT) - (Int.toNat 0)) (List.drop (Int.toNat 0) aB))) ++ ([(bU, (bN, (bO, (fP, (kQ, ())))))] : (List aU))) ++ (List.take ((Int.toNat ((List.length (List.take ((Int.toNat ((List.length aB : Nat) : Int)) - (Int.toNat eT)) (List.drop (Int.toNat eT) aB)) : Nat) : Int)) - (Int.toNat 1)) (List.drop (Int.toNat 1) (List.take ((Int.toNat ((List.length aB : Nat) : Int)) - (Int.toNat eT)) (List.drop (Int.toNat eT) aB))))) else none else none else none else none else none else none else none else none else none
 else if 0 <= eT then
 if eT <= ((List.length aB : Nat) : Int) then
 if (List.length ([] : (List aU)) + List.length (List.take ((Int.toNat eT) - (Int.toNat 0)) (List.drop (Int.toNat 0) aB))) * 40 <= 211106232532992 then
 if (List.length (([] : (List aU)) ++ (List.take ((Int.toNat eT) - (Int.toNat 0)) (List.drop (Int.toNat 0) aB))) + List.length ([(bU, (bN, (bO, (fP, (kQ, ())))))] : (List aU))) * 40 <= 211106232532992 then
 if (List.length ((([] : (List aU)) ++ (List.take ((Int.toNat eT) - (Int.toNat 0)) (List.drop (Int.toNat 0) aB))) ++ ([(bU, (bN, (bO, (fP, (kQ, ())))))] : (List aU))) + List.length (List.take ((Int.toNat ((List.length aB : Nat) : Int)) - (Int.toNat eT)) (List.drop (Int.toNat eT) aB))) * 40 <= 211106232532992 then
 some (((([] : (List aU)) ++ (List.take ((Int.toNat eT) - (Int.toNat 0)) (List.drop (Int.toNat 0) aB))) ++ ([(bU, (bN, (bO, (fP, (kQ, ())))))] : (List aU))) ++ (List.take ((Int.toNat ((List.length aB : Nat) : Int)) - (Int.toNat eT)) (List.drop (Int.toNat eT) aB))) else none else none else none else none else none else none else none
 else if 0 <= eT then
 if eT <= ((List.length aB : Nat) : Int) then
 if (List.length ([] : (List aU)) + List.length (List.take ((Int.toNat eT) - (Int.toNat 0)) (List.drop (Int.toNat 0) aB))) * 40 <= 211106232532992 then
 if (List.length (([] : (List aU)) ++ (List.take ((Int.toNat eT) - (Int.toNat 0)) (List.drop (Int.toNat 0) aB))) + List.length ([(bU, (bN, (bO, (fP, (kQ, ())))))] : (List aU))) * 40 <= 211106232532992 then
 if (List.length ((([] : (List aU)) ++ (List.take ((Int.toNat eT) - (Int.toNat 0)) (List.drop (Int.toNat 0) aB))) ++ ([(bU, (bN, (bO, (fP, (kQ, ())))))] : (List aU))) + List.length (List.take ((Int.toNat ((List.length aB : Nat) : Int)) - (Int.toNat eT)) (List.drop (Int.toNat eT) aB))) * 40 <= 211106232532992 then
 some (((([] : (List aU)) ++ (List.take ((Int.toNat eT) - (Int.toNat 0)) (List.drop (Int.toNat 0) aB))) ++ ([(bU, (bN, (bO, (fP, (kQ, ())))))] : (List aU))) ++ (List.take ((Int.toNat ((List.length aB : Nat) : Int)) - (Int.toNat eT)) (List.drop (Int.toNat eT) aB))) else none else none else none else none else none else none else none
 else if 0 <= eT then
 if eT <= ((List.length aB : Nat) : Int) then
 if (List.length ([] : (List aU)) + List.length (List.take ((Int.toNat eT) - (Int.toNat 0)) (List.drop (Int.toNat 0) aB))) * 40 <= 211106232532992 then
 if (List.length (([] : (List aU)) ++ (List.take ((Int.toNat eT) - (Int.toNat 0)) (List.drop (Int.toNat 0) aB))) + List.length ([(bU, (bN, (bO, (fP, (kQ, ())))))] : (List aU))) * 40 <= 211106232532992 then
 if (List.length ((([] : (List aU)) ++ (List.take ((Int.toNat eT) - (Int.toNat 0)) (List.drop (Int.toNat 0) aB))) ++ ([(bU, (bN, (bO, (fP, (kQ, ())))))] : (List aU))) + List.length (List.take ((Int.toNat ((List.length aB : Nat) : Int)) - (Int.toNat eT)) (List.drop (Int.toNat eT) aB))) * 40 <= 211106232532992 then
 some (((([] : (List aU)) ++ (List.take ((Int.toNat eT) - (Int.toNat 0)) (List.drop (Int.toNat 0) aB))) ++ ([(bU, (bN, (bO, (fP, (kQ, ())))))] : (List aU))) ++ (List.take ((Int.toNat ((List.length aB : Nat) : Int)) - (Int.toNat eT)) (List.drop (Int.toNat eT) aB))) else none else none else none else none else none else none else none := by kernel_rfl
theorem EG (k : Nat) (aB) : dX (k + 1) aB =
 dX.l0 k k aB 0 := by kernel_rfl
theorem dX.aA (k m : Nat) (aB iQ) : dX.l0 k (m + 1) aB iQ =
 if (iQ : Int) < ((List.length aB : Nat) : Int) then
 if 0 <= iQ then
 if iQ < ((List.length aB : Nat) : Int) then
 (fq k (rd dY aB iQ).1 1 100).bind fun r1 =>
 if ¬ (r1 = true) then
 some false
 else (fq k (rd dY aB iQ).2.1 1 4).bind fun r2 =>
 if ¬ (r2 = true) then
 some false
 else (fq k (rd dY aB iQ).2.2.1 0 9).bind fun r3 =>
 if ¬ (r3 = true) then
 some false
 else (fq k (rd dY aB iQ).2.2.2.1 0 100000).bind fun r4 =>
 if ¬ (r4 = true) then
 some false
 else (fq k (rd dY aB iQ).2.2.2.2.1 1 99).bind fun r5 =>
 if ¬ (r5 = true) then
 some false
 else if (0 : Int) < iQ then
 if 0 <= (IntKind.wrap .i64 (iQ - 1)) then
 if (IntKind.wrap .i64 (iQ - 1)) < ((List.length aB : Nat) : Int) then
 (qW k (rd dY aB (IntKind.wrap .i64 (iQ - 1))) (rd dY aB iQ)).bind fun r6 =>
 if ¬ (r6 = true) then
 some false
 else dX.l0 k m aB (IntKind.wrap .i64 (iQ + 1)) else none else none
 else dX.l0 k m aB (IntKind.wrap .i64 (iQ + 1)) else none else none
 else some (decide ((((List.length aB : Nat) : Int) : Int) <= 30)) := by kernel_rfl
theorem JX (k : Nat) (aB e_1) : jI (k + 1) aB e_1 =
 jI.l0 k k aB 0 e_1.1 e_1.2.1 e_1.2.2.1 e_1.2.2.2.1 := by kernel_rfl
theorem jI.aA (k m : Nat) (aB eT bU bN bO fP) : jI.l0 k (m + 1) aB eT bU bN bO fP =
 if (eT : Int) < ((List.length aB : Nat) : Int) then
 if 0 <= eT then
 if eT < ((List.length aB : Nat) : Int) then
 (sS k (rd bR aB eT) (bU, (bN, (bO, (fP, ()))))).bind fun r1 =>
 if r1 = true then
 jI.l0 k m aB (IntKind.wrap .i64 (eT + 1)) bU bN bO fP
 else if 0 <= eT then
 if eT <= ((List.length aB : Nat) : Int) then
 if (List.length ([] : (List aF)) + List.length (List.take ((Int.toNat eT) - (Int.toNat 0)) (List.drop (Int.toNat 0) aB))) * 32 <= 211106232532992 then
 if (List.length (([] : (List aF)) ++ (List.take ((Int.toNat eT) - (Int.toNat 0)) (List.drop (Int.toNat 0) aB))) + List.length ([(bU, (bN, (bO, (fP, ()))))] : (List aF))) * 32 <= 211106232532992 then
 if 0 <= eT then
 if eT <= ((List.length aB : Nat) : Int) then
 if (List.length ((([] : (List aF)) ++ (List.take ((Int.toNat eT) - (Int.toNat 0)) (List.drop (Int.toNat 0) aB))) ++ ([(bU, (bN, (bO, (fP, ()))))] : (List aF))) + List.length (List.take ((Int.toNat ((List.length aB : Nat) : Int)) - (Int.toNat eT)) (List.drop (Int.toNat eT) aB))) * 32 <= 211106232532992 then
 some (((([] : (List aF)) ++ (List.take ((Int.toNat eT) - (Int.toNat 0)) (List.drop (Int.toNat 0) aB))) ++ ([(bU, (bN, (bO, (fP, ()))))] : (List aF))) ++ (List.take ((Int.toNat ((List.length aB : Nat) : Int)) - (Int.toNat eT)) (List.drop (Int.toNat eT) aB))) else none else none else none else none else none else none else none else none else none
 else if 0 <= eT then
 if eT <= ((List.length aB : Nat) : Int) then
 if (List.length ([] : (List aF)) + List.length (List.take ((Int.toNat eT) - (Int.toNat 0)) (List.drop (Int.toNat 0) aB))) * 32 <= 211106232532992 then
 if (List.length (([] : (List aF)) ++ (List.take ((Int.toNat eT) - (Int.toNat 0)) (List.drop (Int.toNat 0) aB))) + List.length ([(bU, (bN, (bO, (fP, ()))))] : (List aF))) * 32 <= 211106232532992 then
 if 0 <= eT then
 if eT <= ((List.length aB : Nat) : Int) then
 if (List.length ((([] : (List aF)) ++ (List.take ((Int.toNat eT) - (Int.toNat 0)) (List.drop (Int.toNat 0) aB))) ++ ([(bU, (bN, (bO, (fP, ()))))] : (List aF))) + List.length (List.take ((Int.toNat ((List.length aB : Nat) : Int)) - (Int.toNat eT)) (List.drop (Int.toNat eT) aB))) * 32 <= 211106232532992 then
 some (((([] : (List aF)) ++ (List.take ((Int.toNat eT) - (Int.toNat 0)) (List.drop (Int.toNat 0) aB))) ++ ([(bU, (bN, (bO, (fP, ()))))] : (List aF))) ++ (List.take ((Int.toNat ((List.length aB : Nat) : Int)) - (Int.toNat eT)) (List.drop (Int.toNat eT) aB))) else none else none else none else none else none else none else none := by kernel_rfl
theorem qg (k : Nat) (s_0 fu) : bg (k + 1) s_0 fu =
 bg.l0 k k s_0 fu ((List.length s_0 : Nat) : Int) 0 := by kernel_rfl
theorem bg.aA (k m : Nat) (s_0 jv eD iA) : bg.l0 k (m + 1) s_0 jv eD iA =
 if (iA : Int) < eD then
 if 0 <= iA then
 if iA < ((List.length s_0 : Nat) : Int) then
 (uj k (rd bR s_0 iA) jv).bind fun r1 =>
 if r1 = true then
 some iA
 else bg.l0 k m s_0 jv eD (IntKind.wrap .i64 (iA + 1)) else none else none
 else some (-1) := by kernel_rfl
theorem uU (k : Nat) (s_0 : (List aF)) (Dc : Int) (Mq : (List aF)) : jq (k + 1) s_0 Dc Mq = (gL bR 32) (.list bR) [.give (.list bR) s_0, .val (.int .i64) Dc, .val (.list bR) Mq] := by kernel_rfl
theorem vU (k : Nat) (s_0 v_1) : cu (k + 1) s_0 v_1 =
 cu.l0 k k s_0 ((List.length s_0 : Nat) : Int) 0 v_1.1 v_1.2.1 v_1.2.2.1 v_1.2.2.2.1 := by kernel_rfl
theorem cu.aA (k m : Nat) (s_0 eD iA bU bN bO fP) : cu.l0 k (m + 1) s_0 eD iA bU bN bO fP =
 if (iA : Int) < eD then
 if 0 <= iA then
 if iA < ((List.length s_0 : Nat) : Int) then
 if ((bU : Int) = (rd bR s_0 iA).1) /\ (((bN : Int) = (rd bR s_0 iA).2.1) /\ (((bO : Int) = (rd bR s_0 iA).2.2.1) /\ ((fP : Int) = (rd bR s_0 iA).2.2.2.1))) then
 some iA
 else cu.l0 k m s_0 eD (IntKind.wrap .i64 (iA + 1)) bU bN bO fP else none else none
 else some (-1) := by kernel_rfl
theorem uV (k : Nat) (s_0 : (List aF)) (Dc : Int) (XR : Int) : kX (k + 1) s_0 Dc XR = (kC bR) (.list bR) [.give (.list bR) s_0, .val (.int .i64) Dc, .val (.int .i64) XR] := by kernel_rfl
theorem rA (k : Nat) (t_0 a_1) : vR (k + 1) t_0 a_1 =
 some (decide ((a_1.1 : Int) <= t_0.1)) := by kernel_rfl
theorem rC (k : Nat) (p_0 a_1) : vS (k + 1) p_0 a_1 =
 some (decide ((p_0.1 : Int) = a_1)) := by kernel_rfl
theorem jF (k : Nat) (p_0 l_1 kP) : jR (k + 1) p_0 l_1 kP =
 (dw k p_0.2.2.2.1 kP).bind fun r1 =>
 if r1 = true then
 (aP k l_1).bind fun r2 =>
 if r2 = true then
 (lX k l_1 kP).bind fun r3 =>
 (bC k r3 p_0.2.1 p_0.2.2.1).bind fun r4 =>
 some (decide (r4 = true))
 else some false
 else some false := by kernel_rfl
theorem Ov (k : Nat) (aB x_1) : IY (k + 1) aB x_1 =
 (aL k aB x_1).bind fun r1 =>
 if ¬ (r1.2.1 = true) then
 (qm k aB r1.1 [x_1]).bind fun r2 =>
 some r2
 else if 0 <= r1.1 then
 if r1.1 < ((List.length aB : Nat) : Int) then
 (yG k x_1 (rd dY aB r1.1)).bind fun r3 =>
 if r3 = true then
 if 0 <= r1.1 then
 if r1.1 < ((List.length aB : Nat) : Int) then
 some (List.set aB (Int.toNat r1.1) x_1) else none else none
 else some aB else none else none := by kernel_rfl
theorem rQ (k : Nat) (x_0) : cmp_isNaN_int (k + 1) x_0 =
 some (decide ((x_0 : Int) ≠ x_0)) := by kernel_rfl
theorem uJ (k : Nat) (p_0 a_1 a_2 XP) : su (k + 1) p_0 a_1 a_2 XP =
 if (p_0.1 : Int) = a_1 then
 (jR k p_0 a_2 (IntKind.wrap .i64 (XP + 1))).bind fun r1 =>
 some (decide (r1 = true))
 else some false := by kernel_rfl
theorem gT (k : Nat) (JE) : uQ (k + 1) JE =
 (fq k JE.1 1 12).bind fun r1 =>
 if r1 = true then
 if (JE.2.1 : Int) = 1 then
 some true
 else if (JE.2.1 : Int) = 2 then
 some true
 else if (JE.2.1 : Int) = 4 then
 some true
 else some (decide ((JE.2.1 : Int) = 8))
 else some false := by kernel_rfl
theorem FR (k : Nat) (aB) : fF (k + 1) aB =
 fF.l0 k k aB 0 := by kernel_rfl
theorem fF.aA (k m : Nat) (aB iQ) : fF.l0 k (m + 1) aB iQ =
 if (iQ : Int) < ((List.length aB : Nat) : Int) then
 if 0 <= iQ then
 if iQ < ((List.length aB : Nat) : Int) then
 (fq k (rd dn aB iQ).2.1 20 300).bind fun r1 =>
 if ¬ (r1 = true) then
 some false
 else if 0 <= iQ then
 if iQ < ((List.length aB : Nat) : Int) then
 (fq k (rd dn aB iQ).1 0 2000).bind fun r2 =>
 if ¬ (r2 = true) then
 some false
 else if (iQ : Int) = 0 then
 if 0 <= iQ then
 if iQ < ((List.length aB : Nat) : Int) then
 if Ne (α := Int) (rd dn aB iQ).1 0 then
 some false
 else if (0 : Int) < iQ then
 if 0 <= (IntKind.wrap .i64 (iQ - 1)) then
 if (IntKind.wrap .i64 (iQ - 1)) < ((List.length aB : Nat) : Int) then
 if 0 <= iQ then
 if iQ < ((List.length aB : Nat) : Int) then
 if LE.le (α := Int) (rd dn aB iQ).1 (rd dn aB (IntKind.wrap .i64 (iQ - 1))).1 then
 some false
 else fF.l0 k m aB (IntKind.wrap .i64 (iQ + 1)) else none else none else none else none
 else fF.l0 k m aB (IntKind.wrap .i64 (iQ + 1)) else none else none
 else if (0 : Int) < iQ then
 if 0 <= (IntKind.wrap .i64 (iQ - 1)) then
 if (IntKind.wrap .i64 (iQ - 1)) < ((List.length aB : Nat) : Int) then
 if 0 <= iQ then
 if iQ < ((List.length aB : Nat) : Int) then
 if LE.le (α := Int) (rd dn aB iQ).1 (rd dn aB (IntKind.wrap .i64 (iQ - 1))).1 then
 some false
 else fF.l0 k m aB (IntKind.wrap .i64 (iQ + 1)) else none else none else none else none
 else fF.l0 k m aB (IntKind.wrap .i64 (iQ + 1)) else none else none else none else none
 else (fq k ((List.length aB : Nat) : Int) 1 8).bind fun r3 =>
 some (decide (r3 = true)) := by kernel_rfl
theorem Ci (k : Nat) (aB) : eB (k + 1) aB =
 eB.l0 k k aB 0 := by kernel_rfl
theorem eB.aA (k m : Nat) (aB iQ) : eB.l0 k (m + 1) aB iQ =
 if (iQ : Int) < ((List.length aB : Nat) : Int) then
 if 0 <= iQ then
 if iQ < ((List.length aB : Nat) : Int) then
 if Ne (α := Int) (rd dn aB iQ).1 iQ then
 some false
 else if 0 <= iQ then
 if iQ < ((List.length aB : Nat) : Int) then
 (fq k (rd dn aB iQ).2.1 1 500).bind fun r1 =>
 if ¬ (r1 = true) then
 some false
 else if (0 : Int) < iQ then
 if 0 <= (IntKind.wrap .i64 (iQ - 1)) then
 if (IntKind.wrap .i64 (iQ - 1)) < ((List.length aB : Nat) : Int) then
 if 0 <= iQ then
 if iQ < ((List.length aB : Nat) : Int) then
 if LE.le (α := Int) (rd dn aB iQ).2.1 (rd dn aB (IntKind.wrap .i64 (iQ - 1))).2.1 then
 some false
 else eB.l0 k m aB (IntKind.wrap .i64 (iQ + 1)) else none else none else none else none
 else eB.l0 k m aB (IntKind.wrap .i64 (iQ + 1)) else none else none else none else none
 else some (decide ((((List.length aB : Nat) : Int) : Int) <= 26)) := by kernel_rfl
theorem Du (k : Nat) (aB bF bZ) : aX (k + 1) aB bF bZ =
 aX.l0 k k aB bF bZ 0 := by kernel_rfl
theorem aX.aA (k m : Nat) (aB bF bZ Bo) : aX.l0 k (m + 1) aB bF bZ Bo =
 if (Bo : Int) < ((List.length bZ : Nat) : Int) then
 aX.l1 k k m aB bF bZ Bo false 0
 else (aK k aB).bind fun r1 =>
 if r1 = true then
 (dO k bF).bind fun r2 =>
 if r2 = true then
 some (decide ((((List.length bZ : Nat) : Int) : Int) <= 4))
 else some false
 else some false := by kernel_rfl
theorem aX.wG (k m m1 : Nat) (aB bF bZ Bo Er Tk) : aX.l1 k (m + 1) m1 aB bF bZ Bo Er Tk =
 if (Tk : Int) < ((List.length aB : Nat) : Int) then
 if Er = true then
 aX.l1 k m m1 aB bF bZ Bo true (IntKind.wrap .i64 (Tk + 1))
 else if 0 <= Tk then
 if Tk < ((List.length aB : Nat) : Int) then
 if 0 <= Bo then
 if Bo < ((List.length bZ : Nat) : Int) then
 if Eq (α := Int) (rd bV aB Tk).1 (rd (.int .i64) bZ Bo) then
 if 0 <= Tk then
 if Tk < ((List.length aB : Nat) : Int) then
 (uR k (rd bV aB Tk) bF (IntKind.wrap .i64 (Bo + 1))).bind fun r3 =>
 aX.l1 k m m1 aB bF bZ Bo (decide (r3 = true)) (IntKind.wrap .i64 (Tk + 1)) else none else none
 else aX.l1 k m m1 aB bF bZ Bo false (IntKind.wrap .i64 (Tk + 1)) else none else none else none else none
 else if ¬ (Er = true) then
 some false
 else if 0 <= Bo then
 if Bo <= ((List.length bZ : Nat) : Int) then
 if 0 <= Bo then
 if Bo < ((List.length bZ : Nat) : Int) then
 (gP k (List.take ((Int.toNat Bo) - (Int.toNat 0)) (List.drop (Int.toNat 0) bZ)) (rd (.int .i64) bZ Bo)).bind fun r4 =>
 if r4 = true then
 some false
 else aX.l0 k m1 aB bF bZ (IntKind.wrap .i64 (Bo + 1)) else none else none else none else none := by kernel_rfl
theorem Mr (k : Nat) (Og) : Es (k + 1) Og =
 (fq k Og.1 0 2000).bind fun r1 =>
 if r1 = true then
 (fq k Og.2.1 1 96).bind fun r2 =>
 if r2 = true then
 (fq k Og.2.2.1 21 108).bind fun r3 =>
 if r3 = true then
 (fq k Og.2.2.2.1 1 4).bind fun r4 =>
 some (decide (r4 = true))
 else some false
 else some false
 else some false := by kernel_rfl
theorem EH (k : Nat) (a_0 b_1) : sS (k + 1) a_0 b_1 =
 if (a_0.1 : Int) ≠ b_1.1 then
 some (decide ((a_0.1 : Int) < b_1.1))
 else if (a_0.2.2.2.1 : Int) ≠ b_1.2.2.2.1 then
 some (decide ((a_0.2.2.2.1 : Int) < b_1.2.2.2.1))
 else some (decide ((a_0.2.2.1 : Int) < b_1.2.2.1)) := by kernel_rfl
theorem Jd (k : Nat) (aB vM) : gP (k + 1) aB vM =
 gP.l0 k k aB vM 0 := by kernel_rfl
theorem gP.aA (k m : Nat) (aB vM je) : gP.l0 k (m + 1) aB vM je =
 if (je : Int) < ((List.length aB : Nat) : Int) then
 if 0 <= je then
 if je < ((List.length aB : Nat) : Int) then
 if Eq (α := Int) (rd (.int .i64) aB je) vM then
 some true
 else gP.l0 k m aB vM (IntKind.wrap .i64 (je + 1)) else none else none
 else some false := by kernel_rfl
theorem uD (k : Nat) (p_0 l_1 kP) : uR (k + 1) p_0 l_1 kP =
 (gP k p_0.2.2.2.1 kP).bind fun r1 =>
 if r1 = true then
 (dO k l_1).bind fun r2 =>
 if r2 = true then
 (gB k l_1 kP).bind fun r3 =>
 (fO k r3 p_0.2.1 p_0.2.2.1).bind fun r4 =>
 some (decide (r4 = true))
 else some false
 else some false := by kernel_rfl
theorem Dv (k : Nat) (a_0 b_1) : qW (k + 1) a_0 b_1 =
 if (a_0.1 : Int) < b_1.1 then
 some true
 else if (a_0.1 : Int) = b_1.1 then
 some (decide ((a_0.2.1 : Int) < b_1.2.1))
 else some false := by kernel_rfl
theorem FT (k : Nat) (a_0 b_1) : uS (k + 1) a_0 b_1 =
 if (a_0.2.2.2.1 : Int) ≠ b_1.2.2.2.1 then
 some (decide ((b_1.2.2.2.1 : Int) < a_0.2.2.2.1))
 else if (a_0.2.2.2.2.1 : Int) ≠ b_1.2.2.2.2.1 then
 some (decide ((b_1.2.2.2.2.1 : Int) < a_0.2.2.2.2.1))
 else some (decide ((b_1.2.2.1 : Int) < a_0.2.2.1)) := by kernel_rfl
theorem Cj (k : Nat) (RP a_1) : uj (k + 1) RP a_1 =
 (iW k RP a_1).bind fun r1 =>
 some (decide ((0 : Int) <= r1)) := by kernel_rfl
theorem uf (k : Nat) (aB eZ) : lX (k + 1) aB eZ =
 (bJ k aB).bind fun r1 =>
 (aj k r1 eZ).bind fun r2 =>
 some r2 := by kernel_rfl
theorem qE (k : Nat) (aB dU cO) : bC (k + 1) aB dU cO =
 bC.l0 k k aB dU cO aB ((List.length aB : Nat) : Int) 0 := by kernel_rfl
theorem bC.aA (k m : Nat) (aB dU cO oL kT iP) : bC.l0 k (m + 1) aB dU cO oL kT iP =
 if (iP : Int) < kT then
 if 0 <= iP then
 if iP < ((List.length oL : Nat) : Int) then
 (aY k (rd bR oL iP).2.2.1 dU cO).bind fun r1 =>
 if ¬ (r1 = true) then
 some false
 else bC.l0 k m aB dU cO oL kT (IntKind.wrap .i64 (iP + 1)) else none else none
 else (aP k aB).bind fun r2 =>
 some (decide (r2 = true)) := by kernel_rfl
theorem mU (k : Nat) (x_0 tK) : aL (k + 1) x_0 tK =
 aL.l0 k k x_0 ((List.length x_0 : Nat) : Int) 0 ((List.length x_0 : Nat) : Int) tK.1 tK.2.1 tK.2.2.1 tK.2.2.2.1 tK.2.2.2.2.1 := by kernel_rfl
theorem aL.aA (k m : Nat) (x_0 ZT IX JU bU bN bO fP kQ) : aL.l0 k (m + 1) x_0 ZT IX JU bU bN bO fP kQ =
 if (IX : Int) < JU then
 if (1 : Int) < 0 then
 none
 else if 0 <= (IntKind.wrap .i64 ((Int.fdiv (IntKind.wrap .u64 (IntKind.wrap .i64 (IX + JU))) (2 ^ (min (Int.toNat 1) (IntKind.bits .u64)))))) then
 if (IntKind.wrap .i64 ((Int.fdiv (IntKind.wrap .u64 (IntKind.wrap .i64 (IX + JU))) (2 ^ (min (Int.toNat 1) (IntKind.bits .u64)))))) < ((List.length x_0 : Nat) : Int) then
 (nM k (rd dY x_0 (IntKind.wrap .i64 ((Int.fdiv (IntKind.wrap .u64 (IntKind.wrap .i64 (IX + JU))) (2 ^ (min (Int.toNat 1) (IntKind.bits .u64))))))) (bU, (bN, (bO, (fP, (kQ, ())))))).bind fun r1 =>
 if (r1 : Int) < 0 then
 aL.l0 k m x_0 ZT (IntKind.wrap .i64 ((IntKind.wrap .i64 ((Int.fdiv (IntKind.wrap .u64 (IntKind.wrap .i64 (IX + JU))) (2 ^ (min (Int.toNat 1) (IntKind.bits .u64)))))) + 1)) JU bU bN bO fP kQ
 else aL.l0 k m x_0 ZT IX (IntKind.wrap .i64 ((Int.fdiv (IntKind.wrap .u64 (IntKind.wrap .i64 (IX + JU))) (2 ^ (min (Int.toNat 1) (IntKind.bits .u64)))))) bU bN bO fP kQ else none else none
 else if (IX : Int) < ZT then
 if 0 <= IX then
 if IX < ((List.length x_0 : Nat) : Int) then
 (nM k (rd dY x_0 IX) (bU, (bN, (bO, (fP, (kQ, ())))))).bind fun r2 =>
 some (IX, (decide ((r2 : Int) = 0), ())) else none else none
 else some (IX, (false, ())) := by kernel_rfl
theorem vV (k : Nat) (s_0 : (List aU)) (Dc : Int) (Mq : (List aU)) : qm (k + 1) s_0 Dc Mq = (gL dY 40) (.list dY) [.give (.list dY) s_0, .val (.int .i64) Dc, .val (.list dY) Mq] := by kernel_rfl
theorem FU (k : Nat) (a_0 b_1) : yG (k + 1) a_0 b_1 =
 (cmp_Compare_int k a_0.2.2.2.1 b_1.2.2.2.1).bind fun r1 =>
 (cmp_Compare_int k a_0.2.2.2.2.1 b_1.2.2.2.2.1).bind fun r2 =>
 (cmp_Compare_int k a_0.2.2.1 b_1.2.2.1).bind fun r3 =>
 (bX k ([r1, r2, r3])).bind fun r4 =>
 some (decide ((0 : Int) < r4)) := by kernel_rfl
theorem FV (k : Nat) (aB eZ) : gB (k + 1) aB eZ =
 gB.l0 k k aB eZ 0 [] := by kernel_rfl
theorem gB.aA (k m : Nat) (aB eZ Tm s0) : gB.l0 k (m + 1) aB eZ Tm s0 =
 if (Tm : Int) < ((List.length aB : Nat) : Int) then
 if 0 <= Tm then
 if Tm < ((List.length aB : Nat) : Int) then
 if Eq (α := Int) (rd bR aB Tm).2.2.2.1 eZ then
 if 0 <= Tm then
 if Tm < ((List.length aB : Nat) : Int) then
 if (List.length s0 + List.length ([(rd bR aB Tm)] : (List aF))) * 32 <= 211106232532992 then
 gB.l0 k m aB eZ (IntKind.wrap .i64 (Tm + 1)) (s0 ++ ([(rd bR aB Tm)] : (List aF))) else none else none else none
 else gB.l0 k m aB eZ (IntKind.wrap .i64 (Tm + 1)) s0 else none else none
 else some s0 := by kernel_rfl
theorem Dw (k : Nat) (aB dU cO) : fO (k + 1) aB dU cO =
 fO.l0 k k aB dU cO 0 := by kernel_rfl
theorem fO.aA (k m : Nat) (aB dU cO Bo) : fO.l0 k (m + 1) aB dU cO Bo =
 if (Bo : Int) < ((List.length aB : Nat) : Int) then
 if 0 <= Bo then
 if Bo < ((List.length aB : Nat) : Int) then
 (fq k (rd bR aB Bo).2.2.1 dU cO).bind fun r1 =>
 if ¬ (r1 = true) then
 some false
 else fO.l0 k m aB dU cO (IntKind.wrap .i64 (Bo + 1)) else none else none
 else (dO k aB).bind fun r2 =>
 some (decide (r2 = true)) := by kernel_rfl
theorem iB (k : Nat) (s_0 fu) : aj (k + 1) s_0 fu =
 (au k s_0 fu).bind fun r1 =>
 if (r1 : Int) = (-1) then
 some s_0
 else aj.l0 k k fu r1 (IntKind.wrap .i64 (r1 + 1)) s_0 := by kernel_rfl
theorem aj.aA (k m : Nat) (nW je JR s0) : aj.l0 k (m + 1) nW je JR s0 =
 if (JR : Int) < ((List.length s0 : Nat) : Int) then
 if 0 <= JR then
 if JR < ((List.length s0 : Nat) : Int) then
 (iV k (rd bR s0 JR) nW).bind fun r2 =>
 if ¬ (r2 = true) then
 if 0 <= je then
 if je < ((List.length s0 : Nat) : Int) then
 aj.l0 k m nW (IntKind.wrap .i64 (je + 1)) (IntKind.wrap .i64 (JR + 1)) (List.set s0 (Int.toNat je) (rd bR s0 JR)) else none else none
 else aj.l0 k m nW je (IntKind.wrap .i64 (JR + 1)) s0 else none else none
 else if 0 <= je then
 if je <= ((List.length s0 : Nat) : Int) then
 if 0 <= je then
 if je <= ((List.length (List.take (Int.toNat je) s0 ++ List.replicate ((Int.toNat ((List.length s0 : Nat) : Int)) - (Int.toNat je)) (Ty.dflt bR) ++ List.drop ((Int.toNat je) + ((Int.toNat ((List.length s0 : Nat) : Int)) - (Int.toNat je))) s0) : Nat) : Int) then
 some (List.take ((Int.toNat je) - (Int.toNat 0)) (List.drop (Int.toNat 0) (List.take (Int.toNat je) s0 ++ List.replicate ((Int.toNat ((List.length s0 : Nat) : Int)) - (Int.toNat je)) (Ty.dflt bR) ++ List.drop ((Int.toNat je) + ((Int.toNat ((List.length s0 : Nat) : Int)) - (Int.toNat je))) s0))) else none else none else none else none := by kernel_rfl
theorem iL (k : Nat) (s_0 fu) : au (k + 1) s_0 fu =
 au.l0 k k s_0 fu ((List.length s_0 : Nat) : Int) 0 := by kernel_rfl
theorem au.aA (k m : Nat) (s_0 jv eD iA) : au.l0 k (m + 1) s_0 jv eD iA =
 if (iA : Int) < eD then
 if 0 <= iA then
 if iA < ((List.length s_0 : Nat) : Int) then
 (iV k (rd bR s_0 iA) jv).bind fun r1 =>
 if r1 = true then
 some iA
 else au.l0 k m s_0 jv eD (IntKind.wrap .i64 (iA + 1)) else none else none
 else some (-1) := by kernel_rfl
theorem qF (k : Nat) (Og a_1) : iV (k + 1) Og a_1 =
 some (decide ((Og.2.2.2.1 : Int) ≠ a_1)) := by kernel_rfl
end Go.jy
