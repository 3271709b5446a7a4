/- The functions that the law FnHappened reaches, as equations; printed by pe.py. No condition. -/
import Derived.Test.YtmocpfgfjeaelaaGreatPrim
import Derived.Test.YtmocpfgfjeaelaaGreatIns
import Derived.Test.YtmocpfgfjeaelaaGreatPureSeat
import Derived.Test.YtmocpfgfjeaelaaGreatSeatF
import Derived.Test.YtmocpfgfjeaelaaGreatProg
import Derived.KernelRfl
set_option linter.unusedVariables false
open Go Go.Flat
namespace Go.fM
abbrev dV : Ty := .pair (.int .i64) (.pair (.int .i64) .unit)
abbrev cu := Int × (Int × Unit)
abbrev II : Ty := .pair (.int .i64) dV
abbrev UD := Int × cu
abbrev bL : Ty := .pair (.int .i64) II
abbrev aF := Int × UD
abbrev dx : Ty := .pair (.int .i64) (.pair (.int .i64) (.pair (.int .i64) (.pair (.list (.int .i64)) .unit)))
abbrev bF := Int × (Int × (Int × ((List Int) × Unit)))
abbrev eP : Ty := .pair (.int .i64) bL
abbrev bf := Int × aF
abbrev jC : Ty := .pair (.list bL) (.pair dV (.pair (.list dV) (.pair (.list dx) (.pair (.list (.int .i64)) (.pair (.list eP) (.pair (.list dV) dV))))))
abbrev bg := (List aF) × (cu × ((List cu) × ((List bF) × ((List Int) × ((List bf) × ((List cu) × cu))))))
abbrev Dc : Ty := .pair (.int .i64) (.pair (.int .i64) (.pair bL (.pair dV (.pair dx (.pair eP .unit)))))
abbrev kX := Int × (Int × (aF × (cu × (bF × (bf × Unit)))))
abbrev Zw : Ty := .pair (.list (.int .i64)) (.pair (.list (.int .i64)) .unit)
abbrev aaO := (List Int) × ((List Int) × Unit)
abbrev UE : Ty := .pair (.list (.int .i64)) (.pair (.int .i64) .unit)
abbrev Zx := (List Int) × (Int × Unit)
abbrev gq : Ty := .pair (.list (.int .u8)) dV
abbrev dQ := (List Int) × cu
noncomputable def C : dn := {
  P := Go.Proofs.Tryz.prog,
  tt := [(1, none), (2, some (.int .i64)), (3, some (.int .i64)), (4, some .bool), (5, some (.int .u8)), (6, some (.int .u8)), (9, some .str), (10, some .str), (11, some .str), (12, some (.int .u64)), (15, none), (16, none), (17, none), (21, some (.int .i32)), (22, some (.list (.int .u8))), (23, none), (24, some (.list bL)), (25, some dV), (26, some dV), (27, some (.list dV)), (28, some (.list dx)), (29, some (.list (.int .i64))), (30, some (.list eP)), (31, some (.list dV)), (32, some jC), (33, some jC), (34, some (.list Dc)), (36, none), (38, none), (39, some bL), (40, some bL), (41, some dV), (42, some dV), (43, some dx), (44, some dx), (45, some eP), (46, some eP), (47, some Dc), (48, some Dc), (49, none), (50, some (.list (.list II))), (52, none), (53, none), (54, some dV), (55, some dV), (57, none), (58, none), (59, some Zw), (60, some Zw), (62, none), (64, none), (65, none), (66, none), (67, none), (69, none), (70, none), (72, none), (73, none), (75, none), (76, none), (78, none), (79, none), (81, none), (82, none), (83, none), (84, none), (85, none), (86, none), (87, some (.list bL)), (88, some dV), (89, some (.list dV)), (90, some (.list dx)), (91, some (.list eP)), (92, some (.list dV)), (93, some jC), (94, some jC), (95, some dx), (96, none), (97, none), (98, none), (99, none), (100, none), (101, none), (102, none), (103, none), (104, none), (105, none), (106, none), (107, none), (108, none), (109, none), (110, none), (112, none), (113, none), (114, none), (115, none), (116, none), (117, none), (118, none), (119, none), (120, none), (121, none), (122, none), (123, none), (124, none), (125, some (.list II)), (127, none), (128, none), (129, none), (130, none), (131, none), (132, none), (133, none), (134, none), (135, some UE), (136, some UE), (138, none), (139, none), (140, none), (141, none), (142, none), (143, none), (144, none), (145, none), (146, none), (147, none), (148, none), (149, none), (150, none), (151, none), (152, none), (153, none), (154, none), (155, none), (157, none), (158, none), (159, none), (160, none), (162, none), (163, none), (164, none), (165, none), (166, none), (167, none), (168, none), (169, none), (170, none), (171, none), (172, none), (173, some dV), (174, some dV), (175, none), (176, none), (177, none), (178, none), (179, none), (180, none), (181, none), (182, none), (183, none), (184, none), (185, none), (186, none), (187, none), (188, none), (189, none), (190, none), (191, none), (192, none), (193, none), (194, none), (195, none), (196, none), (197, none), (198, some (.list .str)), (199, some gq), (200, some gq), (201, none), (202, none), (203, none), (204, none), (205, none), (206, none), (207, none), (208, none), (209, none), (210, none), (211, none), (212, some II), (213, some II), (214, none), (215, none), (216, none), (217, none), (218, none), (219, none), (221, none), (222, none), (223, none), (224, none), (225, none), (226, none), (227, none), (228, none), (229, none), (230, none), (231, some bL), (232, none), (233, some dV), (234, none), (235, some eP), (236, none), (237, some dV), (238, none), (239, none), (240, none), (241, none), (242, none), (243, none), (244, none), (245, none), (246, none), (247, none), (248, none), (249, some (.int .u64)), (250, none), (251, none), (252, none), (253, none), (254, none), (255, none), (256, none), (257, none), (258, none), (259, some (.int .i64)), (261, none), (262, none), (263, none), (264, none), (265, none), (266, some (.int .u32)), (267, none), (268, some (.int .u64)), (269, none), (270, none), (271, none), (272, none), (273, some (.int .u64)), (274, none), (275, none), (276, none), (277, none), (278, none), (279, none), (280, none), (281, none), (282, none), (283, none), (289, none), (290, some (.int .u8)), (291, some (.int .u8)), (292, none), (293, none), (294, some (.int .i32)), (295, some (.int .i32))],
  vars := [(54, [4, 5, 10, 11, 12]), (56, [1, 5, 8, 9, 10]), (58, [3, 7, 8, 9]), (59, [0, 5, 6, 7]), (63, [0, 3, 4]), (65, [0, 5, 6]), (66, [1, 2, 3, 8, 9, 10]), (68, [0, 5, 6, 7]), (69, [0, 5, 6, 7]), (70, [0, 5, 6, 7]), (71, [0, 2, 4, 22, 23, 24]), (76, [0, 1, 12, 13]), (93, [0, 2, 3, 4]), (104, [0, 1, 7, 8]), (110, [0, 1, 7, 8]), (112, [0, 1, 7, 8]), (113, [1, 2, 3, 24, 25, 26]), (116, [0, 1, 4, 10, 11, 12]), (121, [0, 1, 12, 13]), (123, [0, 1, 12, 13]), (124, [1, 2, 15, 16, 17]), (126, [0, 1, 12, 13]), (127, [0, 1, 12, 13]), (135, [0, 3, 4]), (168, [0, 3, 4]), (169, [0, 3, 4]), (170, [0, 3, 4, 5]), (177, [0, 3, 7, 8, 9]), (185, [0, 1, 5, 6]), (194, [0, 1, 7, 8]), (203, [0, 3, 7, 8]), (222, [3, 6, 7, 8]), (225, [0, 1, 7, 8, 9]), (227, [0, 1, 2, 9, 10, 11]), (228, [0, 1, 2, 9, 10, 11]), (232, [0, 3, 4, 5]), (233, [0, 3, 4]), (234, [0, 3, 4, 5]), (238, [0, 1, 5]), (244, [0, 2, 4, 8, 9, 10]), (247, [0, 3]), (249, [0, 3]), (250, [0, 3]), (251, [0, 3]), (252, [0, 1, 2, 7, 8, 9]), (253, [0, 3, 4]), (255, [0, 3, 5]), (267, [0, 3, 4, 5]), (268, [0, 1, 2, 3, 10]), (269, [0, 3, 5]), (279, [0, 1, 5]), (291, [0, 1, 2, 7]), (292, [0, 1, 5, 6])],
  sigs := [(63, { lend := some 1000, made := gq }), (64, { lend := some 0 }), (65, { lend := some 0 }), (93, { lend := some 0 }), (94, { lend := some 0 }), (95, { lend := some 0 }), (96, { lend := some 0 }), (98, { lend := some 0 }), (100, { lend := some 0 }), (101, { lend := some 0 }), (103, { lend := some 0 }), (106, { io := [0] }), (107, { lend := some 0 }), (109, { lend := some 0 }), (114, { io := [0] }), (116, { lend := some 0 }), (117, { io := [0] }), (118, { own := false }), (119, { lend := some 0 }), (122, { lend := some 0 }), (136, { io := [1] }), (165, { lend := some 0 }), (167, { lend := some 0 }), (168, { lend := some 0 }), (170, { lend := some 0 }), (185, { io := [0] }), (195, { lend := some 0 }), (201, { io := [0] }), (202, { lend := some 0 }), (204, { io := [0] }), (211, { io := [0] }), (221, { lend := some 0 }), (224, { lend := some 0 }), (225, { lend := some 0 }), (232, { lend := some 0 }), (233, { lend := some 0 }), (234, { lend := some 0 }), (245, { io := [0] }), (253, { lend := some 0 })],
  Lj := fun f => bif Nat.beq f 106 then some (gL dV 16) else bif Nat.beq f 108 then some (tJ Go.fZ.Pf Go.fZ.Pg Go.fZ.AP) else bif Nat.beq f 114 then some (kD dx) else bif Nat.beq f 117 then some (gL dx 48) else bif Nat.beq f 201 then some (gL bL 32) else bif Nat.beq f 204 then some (kD bL) else bif Nat.beq f 245 then some (gL eP 40) else none,
  ptrs := [15, 16, 17, 114, 149, 277, 280, 293],
  WT := [(37, 28)] }
noncomputable def um (k : Nat) (dz : (List Int)) : Option Bool := run C k 7 .bool [.val (.list (.int .u8)) dz]
noncomputable def Ov (k : Nat) (dz : (List Int)) : Option Bool := run C k 8 .bool [.val (.list (.int .u8)) dz]
noncomputable def uo (k : Nat) (dz : (List Int)) : Option (bg × ((List kX) × Unit)) := run C k 9 (.pair jC (.pair (.list Dc) .unit)) [.val (.list (.int .u8)) dz]
noncomputable def gM (k : Nat) (bq : bg) (uq : (List kX)) : Option bg := run C k 54 jC [.val jC bq, .val (.list Dc) uq]
noncomputable def gM.l0 (k m : Nat) (jH : (List kX)) (iR : Int) (jU : Int) (bQ : Int) (bU : Int) (zi : Int) (zk : Int) (zl : Int) (zm : Int) (zn : Int) (zo : Int) (s2 : (List aF)) (s3 : (List cu)) (s4 : (List bF)) (s5 : (List Int)) (s6 : (List bf)) (s7 : (List cu)) : Option bg := bR C k 54 jC [0, 0] [.r, .r, .l, .r, .b] [] [4, 5, 10, 11, 12] m ⟨[.one (.cell (.ptr 1 0)), .one (.cell (.ptr 5 0)), .one (.cell (.list false Dc jH)), .one (.cell (.int .i64 iR)), .one (.cell (.int .i64 jU))], [.box (some jC) [.nil, .int .i64 bQ, .int .i64 bU, .nil, .nil, .nil, .nil, .nil, .int .i64 zi, .int .i64 zk], .box (some jC) [.ref 9, .int .i64 zl, .int .i64 zm, .ref 13, .ref 17, .ref 21, .ref 25, .ref 29, .int .i64 zn, .int .i64 zo], .arr bL s2 .open, .arr dV s3 .open, .arr dx s4 .open, .arr (.int .i64) s5 .open, .arr eP s6 .open, .arr dV s7 .open]⟩
noncomputable def Mq (k : Nat) (dz : (List Int)) (yZ : Int) : Option Int := run C k 55 (.int .i64) [.val (.list (.int .u8)) dz, .val (.int .i64) yZ]
noncomputable def dL (k : Nat) (bq : bg) : Option Bool := run C k 11 .bool [.val jC bq]
noncomputable def iO (k : Nat) (a_0 : bg) (b_1 : bg) : Option Bool := run C k 43 .bool [.val jC a_0, .val jC b_1]
noncomputable def bV (k : Nat) (IK : (List kX)) (vO : Int) : Option Int := run C k 56 (.int .i64) [.val (.list Dc) IK, .val (.int .i64) vO]
noncomputable def bV.l0 (k m : Nat) (vO : Int) (AA : Int) (gH : (List kX)) (mh : Int) (jH : Int) : Option Int := bR C k 56 (.int .i64) [0, 0] [.r, .r, .l, .r, .b] [] [1, 5, 8, 9, 10] m ⟨[.one (.cell (.int .i64 vO)), .one (.cell (.int .i64 AA)), .one (.cell (.list false Dc gH)), .one (.cell (.int .i64 mh)), .one (.cell (.int .i64 jH))], []⟩
noncomputable def qL (k : Nat) (dz : (List Int)) : Option (List aF) := run C k 57 (.list bL) [.val (.list (.int .u8)) dz]
noncomputable def gT (k : Nat) (aB : (List aF)) : Option (List kX) := run C k 58 (.list Dc) [.val (.list bL) aB]
noncomputable def gT.l0 (k m : Nat) (dS : (List aF)) (gH : Int) (mh : Int) (s0 : (List kX)) : Option (List kX) := bR C k 58 (.list Dc) [0] [.r, .r, .l, .r, .b] [] [3, 7, 8, 9] m ⟨[.one (.cell (.ref 1)), .one (.cell (.list false bL dS)), .one (.cell (.int .i64 gH)), .one (.cell (.int .i64 mh))], [.arr Dc s0 .open]⟩
noncomputable def aO (k : Nat) (aB : (List aF)) : Option Bool := run C k 59 .bool [.val (.list bL) aB]
noncomputable def aO.l0 (k m : Nat) (aB : (List aF)) (oN : (List aF)) (tV : Int) (dS : Int) : Option Bool := bR C k 59 .bool [0] [.r, .l, .r, .b] [] [0, 5, 6, 7] m ⟨[.one (.cell (.list false bL aB)), .one (.cell (.list false bL oN)), .one (.cell (.int .i64 tV)), .one (.cell (.int .i64 dS))], []⟩
noncomputable def xU (k : Nat) (a_0 : (List aF)) (b_1 : (List aF)) : Option Bool := run C k 60 .bool [.val (.list bL) a_0, .val (.list bL) b_1]
noncomputable def nQ (k : Nat) (dz : (List Int)) : Option (bg × (kX × Unit)) := run C k 61 (.pair jC (.pair Dc .unit)) [.val (.list (.int .u8)) dz]
noncomputable def qh (k : Nat) (bq : bg) (x_1 : kX) : Option (bg × (Bool × Unit)) := run C k 10 (.pair jC (.pair .bool .unit)) [.val jC bq, .val Dc x_1]
noncomputable def gN (k : Nat) (Ch : Int) : Option ByteArray := run C k 62 .str [.val (.int .i64) Ch]
noncomputable def iM (k : Nat) (dz : (List Int)) : Option dQ := run C k 63 gq [.val (.list (.int .u8)) dz]
noncomputable def iM.l0 (k m : Nat) (dz : (List Int)) (h_3 : Int) (oW : Int) : Option dQ := TI C k 63 gq 1 [.r, .r, .l, .r, .b] [] [0, 3, 4] m ⟨[.one (.cell (.list true (.int .u8) dz)), .one (.cell (.int .i64 h_3)), .one (.cell (.int .i64 oW))], []⟩
noncomputable def wY (k : Nat) (iY : dQ) : Option (bg × dQ) := run C k 64 (.pair jC gq) [.fV gq iY]
noncomputable def iG (k : Nat) (iY : dQ) (Mr : Int) : Option ((List kX) × dQ) := run C k 65 (.pair (.list Dc) gq) [.fV gq iY, .val (.int .i64) Mr]
noncomputable def iG.l0 (k m : Nat) (Ms : Int) (bZ : (List Int)) (bQ : Int) (bU : Int) (s1 : (List kX)) : Option ((List kX) × dQ) := oO C k 65 (.pair (.list Dc) gq) 0 gq 2 [.r, .r, .l, .r, .b] [] [0, 5, 6] m ⟨[.one (.cell (.ptr 1 0)), .one (.cell (.ref 5)), .one (.cell (.int .i64 Ms))], [.box (some gq) [.list true (.int .u8) bZ, .int .i64 bQ, .int .i64 bU], .arr Dc s1 .open]⟩
noncomputable def au (k : Nat) (bq : bg) : Option bg := run C k 66 jC [.val jC bq]
noncomputable def au.l0 (k m : Nat) (gH : (List bF)) (mh : Int) (jH : Int) (bZ : (List aF)) (bQ : Int) (bU : Int) (fQ : (List cu)) (kS : (List bF)) (UH : (List Int)) (UJ : (List bf)) (UK : (List cu)) (zi : Int) (zk : Int) (zl : Int) (zm : Int) (zn : Int) (zo : Int) (s2 : (List bF)) : Option bg := bR C k 66 jC [0] [.r, .r, .l, .r, .b] [] [1, 2, 3, 8, 9, 10] m ⟨[.one (.cell (.ptr 1 0)), .one (.cell (.ptr 5 0)), .one (.cell (.ref 9)), .one (.cell (.list false dx gH)), .one (.cell (.int .i64 mh)), .one (.cell (.int .i64 jH))], [.box (some jC) [.list false bL bZ, .int .i64 bQ, .int .i64 bU, .list false dV fQ, .list false dx kS, .list false (.int .i64) UH, .list false eP UJ, .list false dV UK, .int .i64 zi, .int .i64 zk], .box (some jC) [.nil, .int .i64 zl, .int .i64 zm, .nil, .nil, .nil, .nil, .nil, .int .i64 zn, .int .i64 zo], .arr dx s2 .open]⟩
noncomputable def uS (k : Nat) (JF : cu) : Option Bool := run C k 67 .bool [.val dV JF]
noncomputable def fD (k : Nat) (aB : (List cu)) : Option Bool := run C k 68 .bool [.val (.list dV) aB]
noncomputable def fD.l0 (k m : Nat) (aB : (List cu)) (oN : (List cu)) (tV : Int) (dS : Int) : Option Bool := bR C k 68 .bool [0] [.r, .l, .r, .b] [] [0, 5, 6, 7] m ⟨[.one (.cell (.list false dV aB)), .one (.cell (.list false dV oN)), .one (.cell (.int .i64 tV)), .one (.cell (.int .i64 dS))], []⟩
noncomputable def dX (k : Nat) (aB : (List bf)) : Option Bool := run C k 69 .bool [.val (.list eP) aB]
noncomputable def dX.l0 (k m : Nat) (aB : (List bf)) (oN : (List bf)) (tV : Int) (dS : Int) : Option Bool := bR C k 69 .bool [0] [.r, .l, .r, .b] [] [0, 5, 6, 7] m ⟨[.one (.cell (.list false eP aB)), .one (.cell (.list false eP oN)), .one (.cell (.int .i64 tV)), .one (.cell (.int .i64 dS))], []⟩
noncomputable def dZ (k : Nat) (aB : (List cu)) : Option Bool := run C k 70 .bool [.val (.list dV) aB]
noncomputable def dZ.l0 (k m : Nat) (aB : (List cu)) (oN : (List cu)) (tV : Int) (dS : Int) : Option Bool := bR C k 70 .bool [0] [.r, .l, .r, .b] [] [0, 5, 6, 7] m ⟨[.one (.cell (.list false dV aB)), .one (.cell (.list false dV oN)), .one (.cell (.int .i64 tV)), .one (.cell (.int .i64 dS))], []⟩
noncomputable def eT (k : Nat) (aB : (List bF)) (bB : (List aF)) (bS : (List Int)) : Option Bool := run C k 71 .bool [.val (.list dx) aB, .val (.list bL) bB, .val (.list (.int .i64)) bS]
noncomputable def eT.l0 (k m : Nat) (aB : (List bF)) (bS : (List Int)) (Qq : (List Int)) (UL : Int) (vP : Int) (bZ : (List aF)) : Option Bool := bR C k 71 .bool [0, 0, 0] [.r, .r, .l, .r, .b] [] [0, 2, 4, 22, 23, 24] m ⟨[.one (.cell (.list false dx aB)), .one (.cell (.list false (.int .i64) bS)), .one (.cell (.ptr 1 0)), .one (.cell (.list false (.int .i64) Qq)), .one (.cell (.int .i64 UL)), .one (.cell (.int .i64 vP))], [.box (some (.list bL)) [.list false bL bZ]]⟩
noncomputable def aT (k : Nat) (UF : Int) (dU : Int) (bX : Int) : Option Bool := run C k 72 .bool [.val (.int .i64) UF, .val (.int .i64) dU, .val (.int .i64) bX]
noncomputable def bD (k : Nat) (fu : (List aF)) (fq : (List aF)) : Option Bool := run C k 76 .bool [.val (.list bL) fu, .val (.list bL) fq]
noncomputable def bD.l0 (k m : Nat) (fu : (List aF)) (fq : (List aF)) (jU : Int) (fO : Int) : Option Bool := bR C k 76 .bool [0, 0] [.r, .r, .l, .r, .b] [] [0, 1, 12, 13] m ⟨[.one (.cell (.list false bL fu)), .one (.cell (.list false bL fq)), .one (.cell (.int .i64 jU)), .one (.cell (.int .i64 fO))], []⟩
noncomputable def bK (k : Nat) (fu : (List cu)) (fq : (List cu)) : Option Bool := run C k 123 .bool [.val (.list dV) fu, .val (.list dV) fq]
noncomputable def bK.l0 (k m : Nat) (fu : (List cu)) (fq : (List cu)) (jU : Int) (fO : Int) : Option Bool := bR C k 123 .bool [0, 0] [.r, .r, .l, .r, .b] [] [0, 1, 12, 13] m ⟨[.one (.cell (.list false dV fu)), .one (.cell (.list false dV fq)), .one (.cell (.int .i64 jU)), .one (.cell (.int .i64 fO))], []⟩
noncomputable def aP (k : Nat) (fu : (List bF)) (fq : (List bF)) : Option Bool := run C k 124 .bool [.val (.list dx) fu, .val (.list dx) fq, .oF 125 []]
noncomputable def aP.l0 (k m : Nat) (fq : (List bF)) (Sl : (List bF)) (UM : Int) (IL : Int) : Option Bool := bR C k 124 .bool [0, 0, 0] [.r, .r, .l, .r, .b] [] [1, 2, 15, 16, 17] m ⟨[.one (.cell (.list false dx fq)), .one (.cell (.oF 125 [])), .one (.cell (.list false dx Sl)), .one (.cell (.int .i64 UM)), .one (.cell (.int .i64 IL))], []⟩
noncomputable def bI (k : Nat) (fu : (List Int)) (fq : (List Int)) : Option Bool := run C k 126 .bool [.val (.list (.int .i64)) fu, .val (.list (.int .i64)) fq]
noncomputable def bI.l0 (k m : Nat) (fu : (List Int)) (fq : (List Int)) (jU : Int) (fO : Int) : Option Bool := bR C k 126 .bool [0, 0] [.r, .r, .l, .r, .b] [] [0, 1, 12, 13] m ⟨[.one (.cell (.list false (.int .i64) fu)), .one (.cell (.list false (.int .i64) fq)), .one (.cell (.int .i64 jU)), .one (.cell (.int .i64 fO))], []⟩
noncomputable def bJ (k : Nat) (fu : (List bf)) (fq : (List bf)) : Option Bool := run C k 121 .bool [.val (.list eP) fu, .val (.list eP) fq]
noncomputable def bJ.l0 (k m : Nat) (fu : (List bf)) (fq : (List bf)) (jU : Int) (fO : Int) : Option Bool := bR C k 121 .bool [0, 0] [.r, .r, .l, .r, .b] [] [0, 1, 12, 13] m ⟨[.one (.cell (.list false eP fu)), .one (.cell (.list false eP fq)), .one (.cell (.int .i64 jU)), .one (.cell (.int .i64 fO))], []⟩
noncomputable def bG (k : Nat) (fu : (List cu)) (fq : (List cu)) : Option Bool := run C k 127 .bool [.val (.list dV) fu, .val (.list dV) fq]
noncomputable def bG.l0 (k m : Nat) (fu : (List cu)) (fq : (List cu)) (jU : Int) (fO : Int) : Option Bool := bR C k 127 .bool [0, 0] [.r, .r, .l, .r, .b] [] [0, 1, 12, 13] m ⟨[.one (.cell (.list false dV fu)), .one (.cell (.list false dV fq)), .one (.cell (.int .i64 jU)), .one (.cell (.int .i64 fO))], []⟩
noncomputable def xV (k : Nat) (dz : (List Int)) : Option (List aF) := run C k 163 (.list bL) [.val (.list (.int .u8)) dz]
noncomputable def iZ (k : Nat) (a_0 : aF) (b_1 : aF) : Option Int := run C k 164 (.int .i64) [.val bL a_0, .val bL b_1]
noncomputable def eD (k : Nat) (iY : dQ) : Option (bg × dQ) := run C k 93 (.pair jC gq) [.fV gq iY]
noncomputable def eD.l0 (k m : Nat) (oW : Int) (bZ : (List Int)) (bQ : Int) (bU : Int) (zl : Int) (zm : Int) (zn : Int) (zo : Int) (Ow : Int) (Ox : Int) (Oy : Int) (Oz : Int) (s3 : (List aF)) (s4 : (List cu)) (s5 : (List bF)) (s6 : (List Int)) (s7 : (List bf)) (s8 : (List cu)) : Option (bg × dQ) := oO C k 93 (.pair jC gq) 0 gq 1 [.r, .r, .l, .r, .b] [] [0, 2, 3, 4] m ⟨[.one (.cell (.ptr 1 0)), .one (.cell (.ptr 5 0)), .one (.cell (.ptr 9 0)), .one (.cell (.int .i64 oW))], [.box (some gq) [.list true (.int .u8) bZ, .int .i64 bQ, .int .i64 bU], .box (some jC) [.nil, .int .i64 zl, .int .i64 zm, .nil, .nil, .nil, .nil, .nil, .int .i64 zn, .int .i64 zo], .box (some jC) [.ref 13, .int .i64 Ow, .int .i64 Ox, .ref 17, .ref 21, .ref 25, .ref 29, .ref 33, .int .i64 Oy, .int .i64 Oz], .arr bL s3 .open, .arr dV s4 .open, .arr dx s5 .open, .arr (.int .i64) s6 .open, .arr eP s7 .open, .arr dV s8 .open]⟩
noncomputable def wK (k : Nat) (iY : dQ) : Option (kX × dQ) := run C k 165 (.pair Dc gq) [.fV gq iY]
noncomputable def tN (k : Nat) (iY : dQ) (zx : Int) : Option (Bool × dQ) := run C k 95 (.pair .bool gq) [.fV gq iY, .val (.int .i64) zx]
noncomputable def aM (k : Nat) (iY : dQ) (zx : Int) : Option (Int × dQ) := run C k 100 (.pair (.int .i64) gq) [.fV gq iY, .val (.int .i64) zx]
noncomputable def nR (k : Nat) (bq : bg) (e_1 : aF) : Option (bg × (Bool × Unit)) := run C k 25 (.pair jC (.pair .bool .unit)) [.val jC bq, .val bL e_1]
noncomputable def qM (k : Nat) (bq : bg) (e_1 : aF) : Option (bg × (Bool × Unit)) := run C k 27 (.pair jC (.pair .bool .unit)) [.val jC bq, .val bL e_1]
noncomputable def qN (k : Nat) (bq : bg) (x_1 : cu) : Option (bg × (Bool × Unit)) := run C k 29 (.pair jC (.pair .bool .unit)) [.val jC bq, .val dV x_1]
noncomputable def sP (k : Nat) (bq : bg) (qO : Int) : Option (bg × (Bool × Unit)) := run C k 31 (.pair jC (.pair .bool .unit)) [.val jC bq, .val (.int .i64) qO]
noncomputable def qP (k : Nat) (bq : bg) (id_1 : Int) : Option (bg × (Bool × Unit)) := run C k 33 (.pair jC (.pair .bool .unit)) [.val jC bq, .val (.int .i64) id_1]
noncomputable def sQ (k : Nat) (bq : bg) (p_1 : bF) : Option (bg × (Bool × Unit)) := run C k 35 (.pair jC (.pair .bool .unit)) [.val jC bq, .val dx p_1]
noncomputable def sS (k : Nat) (bq : bg) (Dg : Int) (yI : Int) (uT : Int) (Dh : Int) : Option (bg × (Bool × Unit)) := run C k 37 (.pair jC (.pair .bool .unit)) [.val jC bq, .val (.int .i64) Dg, .val (.int .i64) yI, .val (.int .i64) uT, .val (.int .i64) Dh]
noncomputable def sU (k : Nat) (bq : bg) (zx : Int) : Option (bg × (Bool × Unit)) := run C k 39 (.pair jC (.pair .bool .unit)) [.val jC bq, .val (.int .i64) zx]
noncomputable def qQ (k : Nat) (iY : dQ) : Option (cu × dQ) := run C k 167 (.pair dV gq) [.fV gq iY]
noncomputable def cZ (k : Nat) (iY : dQ) : Option ((List bF) × dQ) := run C k 168 (.pair (.list dx) gq) [.fV gq iY]
noncomputable def cZ.l0 (k m : Nat) (oW : Int) (bZ : (List Int)) (bQ : Int) (bU : Int) (s1 : (List bF)) : Option ((List bF) × dQ) := oO C k 168 (.pair (.list dx) gq) 0 gq 1 [.r, .r, .l, .r, .b] [] [0, 3, 4] m ⟨[.one (.cell (.ptr 1 0)), .one (.cell (.ref 5)), .one (.cell (.int .i64 oW))], [.box (some gq) [.list true (.int .u8) bZ, .int .i64 bQ, .int .i64 bU], .arr dx s1 .open]⟩
noncomputable def kT (k : Nat) (JF : cu) (AB : (List bF)) : Option (bg × (Bool × Unit)) := run C k 166 (.pair jC (.pair .bool .unit)) [.val dV JF, .val (.list dx) AB]
noncomputable def fT (k : Nat) (iY : dQ) : Option ((List aF) × dQ) := run C k 170 (.pair (.list bL) gq) [.fV gq iY]
noncomputable def fT.l0 (k m : Nat) (kF : Int) (bZ : (List Int)) (bQ : Int) (bU : Int) (s1 : (List aF)) (s2 : (List aF)) : Option ((List aF) × dQ) := oO C k 170 (.pair (.list bL) gq) 0 gq 1 [.r, .r, .r, .l, .r, .b] [] [0, 3, 4, 5] m ⟨[.one (.cell (.ptr 1 0)), .one (.cell (.ref 5)), .one (.cell (.ref 9)), .one (.cell (.int .i64 kF))], [.box (some gq) [.list true (.int .u8) bZ, .int .i64 bQ, .int .i64 bU], .arr bL s1 .open, .arr bL s2 .open]⟩
noncomputable def gU (k : Nat) (aB : (List aF)) : Option (List kX) := run C k 169 (.list Dc) [.val (.list bL) aB]
noncomputable def gU.l0 (k m : Nat) (aB : (List aF)) (oW : Int) (s0 : (List kX)) : Option (List kX) := bR C k 169 (.list Dc) [0] [.r, .r, .l, .r, .b] [] [0, 3, 4] m ⟨[.one (.cell (.list false bL aB)), .one (.cell (.ref 1)), .one (.cell (.int .i64 oW))], [.arr Dc s0 .open]⟩
noncomputable def oq (k : Nat) (p_0 : bF) : Option bF := run C k 118 dx [.val dx p_0]
noncomputable def bH (k : Nat) (aB : (List aF)) : Option (List aF) := run C k 171 (.list bL) [.val (.list bL) aB]
noncomputable def mZ (k : Nat) (aB : (List cu)) : Option (List cu) := run C k 172 (.list dV) [.val (.list dV) aB]
noncomputable def qR (k : Nat) (aB : (List Int)) : Option (List Int) := run C k 173 (.list (.int .i64)) [.val (.list (.int .i64)) aB]
noncomputable def iP (k : Nat) (aB : (List bf)) : Option (List bf) := run C k 174 (.list eP) [.val (.list eP) aB]
noncomputable def mH (k : Nat) (aB : (List cu)) : Option (List cu) := run C k 175 (.list dV) [.val (.list dV) aB]
noncomputable def nS (k : Nat) (a_0 : bf) (b_1 : bf) : Option Int := run C k 176 (.int .i64) [.val eP a_0, .val eP b_1]
noncomputable def aQ (k : Nat) (aB : (List bF)) : Option Bool := run C k 177 .bool [.val (.list dx) aB]
noncomputable def aQ.l0 (k m : Nat) (aB : (List bF)) (dS : (List bF)) (gH : Int) (mh : Int) (s0 : (List Int)) : Option Bool := bR C k 177 .bool [0] [.r, .r, .l, .r, .b] [] [0, 3, 7, 8, 9] m ⟨[.one (.cell (.list false dx aB)), .one (.cell (.ref 1)), .one (.cell (.list false dx dS)), .one (.cell (.int .i64 gH)), .one (.cell (.int .i64 mh))], [.arr (.int .i64) s0 .open]⟩
noncomputable def cK (k : Nat) (s_0 : (List Int)) (v_1 : Int) : Option Bool := run C k 178 .bool [.val (.list (.int .i64)) s_0, .val (.int .i64) v_1]
noncomputable def iD (k : Nat) (s_0 : (List bF)) (eZ : Int) (Di : (List aF)) (Dj : Int) : Option Bool := run C k 179 .bool [.val (.list dx) s_0, .oF 180 [.ro (.int .i64) eZ, .ro (.list bL) Di, .ro (.int .i64) Dj]]
noncomputable def nA (k : Nat) (a_0 : bF) (b_1 : bF) : Option Bool := run C k 125 .bool [.val dx a_0, .val dx b_1]
noncomputable def Ci (k : Nat) (iY : dQ) : Option ((List aF) × dQ) := run C k 221 (.pair (.list bL) gq) [.fV gq iY]
noncomputable def cmp_Compare_int (k : Nat) (x_0 : Int) (y_1 : Int) : Option Int := run C k 223 (.int .i64) [.val (.int .i64) x_0, .val (.int .i64) y_1]
noncomputable def bP (k : Nat) (vM : (List Int)) : Option Int := run C k 222 (.int .i64) [.val (.list (.int .i64)) vM]
noncomputable def bP.l0 (k m : Nat) (rQ : Int) (tV : (List Int)) (dS : Int) (gH : Int) : Option Int := bR C k 222 (.int .i64) [0] [.r, .r, .l, .r, .b] [] [3, 6, 7, 8] m ⟨[.one (.cell (.int .i64 rQ)), .one (.cell (.list false (.int .i64) tV)), .one (.cell (.int .i64 dS)), .one (.cell (.int .i64 gH))], []⟩
noncomputable def yJ (k : Nat) (iY : dQ) : Option (bg × dQ) := run C k 195 (.pair jC gq) [.fV gq iY]
noncomputable def wZ (k : Nat) (bq : bg) (zx : Int) : Option (bg × (Bool × Unit)) := run C k 196 (.pair jC (.pair .bool .unit)) [.val jC bq, .val (.int .i64) zx]
noncomputable def xg (k : Nat) (bq : bg) (Dg : Int) (yI : Int) (uT : Int) (Dh : Int) : Option (bg × (Bool × Unit)) := run C k 197 (.pair jC (.pair .bool .unit)) [.val jC bq, .val (.int .i64) Dg, .val (.int .i64) yI, .val (.int .i64) uT, .val (.int .i64) Dh]
noncomputable def xk (k : Nat) (bq : bg) (qO : Int) : Option (bg × (Bool × Unit)) := run C k 198 (.pair jC (.pair .bool .unit)) [.val jC bq, .val (.int .i64) qO]
noncomputable def ou (k : Nat) (iY : dQ) : Option (aF × dQ) := run C k 94 (.pair bL gq) [.fV gq iY]
noncomputable def vQ (k : Nat) (bq : bg) (e_1 : aF) : Option (bg × (Bool × Unit)) := run C k 199 (.pair jC (.pair .bool .unit)) [.val jC bq, .val bL e_1]
noncomputable def qU (k : Nat) (iY : dQ) : Option (bf × dQ) := run C k 224 (.pair eP gq) [.fV gq iY]
noncomputable def qx (k : Nat) (iY : dQ) : Option (Int × dQ) := run C k 202 (.pair (.int .i64) gq) [.fV gq iY]
noncomputable def uw (k : Nat) (bq : bg) (eZ : aF) : Option (bg × (Bool × Unit)) := run C k 97 (.pair jC (.pair .bool .unit)) [.val jC bq, .oF 98 [.ro bL eZ]]
noncomputable def rU (k : Nat) (bq : bg) (eZ : aF) : Option (bg × (Bool × Unit)) := run C k 97 (.pair jC (.pair .bool .unit)) [.val jC bq, .oF 101 [.ro bL eZ]]
noncomputable def rV (k : Nat) (bq : bg) (eZ : cu) : Option (bg × (Bool × Unit)) := run C k 97 (.pair jC (.pair .bool .unit)) [.val jC bq, .oF 103 [.ro dV eZ]]
noncomputable def rW (k : Nat) (bq : bg) (eZ : Int) : Option (bg × (Bool × Unit)) := run C k 97 (.pair jC (.pair .bool .unit)) [.val jC bq, .oF 107 [.ro (.int .i64) eZ]]
noncomputable def rX (k : Nat) (bq : bg) (eZ : Int) : Option (bg × (Bool × Unit)) := run C k 97 (.pair jC (.pair .bool .unit)) [.val jC bq, .oF 109 [.ro (.int .i64) eZ]]
noncomputable def rY (k : Nat) (bq : bg) (eZ : bF) : Option (bg × (Bool × Unit)) := run C k 97 (.pair jC (.pair .bool .unit)) [.val jC bq, .oF 116 [.ro dx eZ]]
noncomputable def rZ (k : Nat) (bq : bg) (eZ : Int) (Di : Int) (Dj : Int) (Wv : Int) : Option (bg × (Bool × Unit)) := run C k 97 (.pair jC (.pair .bool .unit)) [.val jC bq, .oF 119 [.ro (.int .i64) eZ, .ro (.int .i64) Di, .ro (.int .i64) Dj, .ro (.int .i64) Wv]]
noncomputable def sj (k : Nat) (bq : bg) (eZ : Int) : Option (bg × (Bool × Unit)) := run C k 97 (.pair jC (.pair .bool .unit)) [.val jC bq, .oF 122 [.ro (.int .i64) eZ]]
noncomputable def lg (k : Nat) (iY : dQ) (uq : (List Int)) : Option (Int × dQ) := run C k 96 (.pair (.int .i64) gq) [.fV gq iY, .val (.list (.int .i64)) uq]
noncomputable def jV (k : Nat) (bq : bg) : Option bg := run C k 134 jC [.val jC bq]
noncomputable def fU (k : Nat) (bq : bg) : Option Bool := run C k 212 .bool [.val jC bq]
noncomputable def gP (k : Nat) (iY : dQ) (eX : Int) (yK : Int) : Option ((List aF) × dQ) := run C k 225 (.pair (.list bL) gq) [.fV gq iY, .val (.int .i64) eX, .val (.int .i64) yK]
noncomputable def gP.l0 (k m : Nat) (eX : Int) (Qr : Int) (IQ : Int) (bZ : (List Int)) (bQ : Int) (bU : Int) (s1 : (List aF)) : Option ((List aF) × dQ) := oO C k 225 (.pair (.list bL) gq) 0 gq 3 [.r, .r, .r, .l, .r, .b] [] [0, 1, 7, 8, 9] m ⟨[.one (.cell (.ptr 1 0)), .one (.cell (.int .i64 eX)), .one (.cell (.ref 5)), .one (.cell (.int .i64 Qr)), .one (.cell (.int .i64 IQ))], [.box (some gq) [.list true (.int .u8) bZ, .int .i64 bQ, .int .i64 bU], .arr bL s1 .open]⟩
noncomputable def lq (k : Nat) (aB : (List aF)) (e_1 : aF) : Option ((List aF) × (Bool × Unit)) := run C k 226 (.pair (.list bL) (.pair .bool .unit)) [.val (.list bL) aB, .val bL e_1]
noncomputable def aW (k : Nat) (aB : (List Int)) (dU : Int) (bX : Int) : Option Bool := run C k 227 .bool [.val (.list (.int .i64)) aB, .val (.int .i64) dU, .val (.int .i64) bX]
noncomputable def aW.l0 (k m : Nat) (aB : (List Int)) (dU : Int) (bX : Int) (mh : (List Int)) (jH : Int) (iR : Int) : Option Bool := bR C k 227 .bool [0, 0, 0] [.r, .l, .r, .b] [] [0, 1, 2, 9, 10, 11] m ⟨[.one (.cell (.list false (.int .i64) aB)), .one (.cell (.int .i64 dU)), .one (.cell (.int .i64 bX)), .one (.cell (.list false (.int .i64) mh)), .one (.cell (.int .i64 jH)), .one (.cell (.int .i64 iR))], []⟩
noncomputable def aC (k : Nat) (s_0 : (List Int)) (v_1 : Int) : Option Int := run C k 112 (.int .i64) [.val (.list (.int .i64)) s_0, .val (.int .i64) v_1]
noncomputable def aC.l0 (k m : Nat) (s_0 : (List Int)) (v_1 : Int) (dS : Int) (gH : Int) : Option Int := bR C k 112 (.int .i64) [0, 0] [.r, .l, .r, .b] [] [0, 1, 7, 8] m ⟨[.one (.cell (.list false (.int .i64) s_0)), .one (.cell (.int .i64 v_1)), .one (.cell (.int .i64 dS)), .one (.cell (.int .i64 gH))], []⟩
noncomputable def aU (k : Nat) (s_0 : (List bF)) (eZ : Int) (Di : (List aF)) (Dj : Int) : Option Int := run C k 110 (.int .i64) [.val (.list dx) s_0, .oF 180 [.ro (.int .i64) eZ, .ro (.list bL) Di, .ro (.int .i64) Dj]]
noncomputable def aU.l0 (k m : Nat) (s_0 : (List bF)) (jA : Int) (Dk : (List aF)) (Dl : Int) (dS : Int) (gH : Int) : Option Int := bR C k 110 (.int .i64) [0, 0] [.r, .l, .r, .b] [] [0, 1, 7, 8] m ⟨[.one (.cell (.list false dx s_0)), .one (.cell (.oF 180 [.ro (.int .i64) jA, .ro (.list bL) Dk, .ro (.int .i64) Dl])), .one (.cell (.int .i64 dS)), .one (.cell (.int .i64 gH))], []⟩
noncomputable def jd (k : Nat) (iY : dQ) : Option ((List aF) × dQ) := run C k 253 (.pair (.list bL) gq) [.fV gq iY]
noncomputable def jd.l0 (k m : Nat) (oW : Int) (bZ : (List Int)) (bQ : Int) (bU : Int) (s1 : (List aF)) : Option ((List aF) × dQ) := oO C k 253 (.pair (.list bL) gq) 0 gq 1 [.r, .r, .l, .r, .b] [] [0, 3, 4] m ⟨[.one (.cell (.ptr 1 0)), .one (.cell (.ref 5)), .one (.cell (.int .i64 oW))], [.box (some gq) [.list true (.int .u8) bZ, .int .i64 bQ, .int .i64 bU], .arr bL s1 .open]⟩
noncomputable def cmp_isNaN_int (k : Nat) (x_0 : Int) : Option Bool := run C k 254 .bool [.val (.int .i64) x_0]
noncomputable def iH (k : Nat) (iY : dQ) : Option ((List cu) × dQ) := run C k 232 (.pair (.list dV) gq) [.fV gq iY]
noncomputable def iH.l0 (k m : Nat) (El : Int) (kF : Int) (bZ : (List Int)) (bQ : Int) (bU : Int) (s1 : (List cu)) : Option ((List cu) × dQ) := oO C k 232 (.pair (.list dV) gq) 0 gq 1 [.r, .r, .r, .l, .r, .b] [] [0, 3, 4, 5] m ⟨[.one (.cell (.ptr 1 0)), .one (.cell (.ref 5)), .one (.cell (.int .i64 El)), .one (.cell (.int .i64 kF))], [.box (some gq) [.list true (.int .u8) bZ, .int .i64 bQ, .int .i64 bU], .arr dV s1 .open]⟩
noncomputable def iI (k : Nat) (iY : dQ) : Option ((List bf) × dQ) := run C k 233 (.pair (.list eP) gq) [.fV gq iY]
noncomputable def iI.l0 (k m : Nat) (oW : Int) (bZ : (List Int)) (bQ : Int) (bU : Int) (s1 : (List bf)) : Option ((List bf) × dQ) := oO C k 233 (.pair (.list eP) gq) 0 gq 1 [.r, .r, .l, .r, .b] [] [0, 3, 4] m ⟨[.one (.cell (.ptr 1 0)), .one (.cell (.ref 5)), .one (.cell (.int .i64 oW))], [.box (some gq) [.list true (.int .u8) bZ, .int .i64 bQ, .int .i64 bU], .arr eP s1 .open]⟩
noncomputable def iJ (k : Nat) (iY : dQ) : Option ((List cu) × dQ) := run C k 234 (.pair (.list dV) gq) [.fV gq iY]
noncomputable def iJ.l0 (k m : Nat) (Yq : Int) (kF : Int) (bZ : (List Int)) (bQ : Int) (bU : Int) (s1 : (List cu)) : Option ((List cu) × dQ) := oO C k 234 (.pair (.list dV) gq) 0 gq 1 [.r, .r, .r, .l, .r, .b] [] [0, 3, 4, 5] m ⟨[.one (.cell (.ptr 1 0)), .one (.cell (.ref 5)), .one (.cell (.int .i64 Yq)), .one (.cell (.int .i64 kF))], [.box (some gq) [.list true (.int .u8) bZ, .int .i64 bQ, .int .i64 bU], .arr dV s1 .open]⟩
noncomputable def lV (k : Nat) (aB : (List bF)) (bB : (List aF)) (gD : Int) : Option ((List Int) × (Bool × Unit)) := run C k 235 (.pair (.list (.int .i64)) (.pair .bool .unit)) [.val (.list dx) aB, .val (.list bL) bB, .val (.int .i64) gD]
noncomputable def eY (k : Nat) (x_0 : Int) (Gs : Int) (yK : Int) : Option Bool := run C k 236 .bool [.val (.int .i64) x_0, .val (.int .i64) Gs, .val (.int .i64) yK]
noncomputable def mI (k : Nat) (bq : bg) (OA : bg) (Ww : Bool) : Option (bg × (Bool × Unit)) := run C k 136 (.pair jC (.pair .bool .unit)) [.val jC bq, .give jC OA, .val .bool Ww]
noncomputable def qV (k : Nat) (aB : (List bf)) (x_1 : bf) : Option (List bf) := run C k 237 (.list eP) [.val (.list eP) aB, .val eP x_1]
noncomputable def eH (k : Nat) (a_0 : (List bf)) (b_1 : (List bf)) : Option Bool := run C k 238 .bool [.val (.list eP) a_0, .val (.list eP) b_1]
noncomputable def eH.l0 (k m : Nat) (a_0 : (List bf)) (b_1 : (List bf)) (kF : Int) : Option Bool := bR C k 238 .bool [0, 0] [.r, .r, .l, .r, .b] [] [0, 1, 5] m ⟨[.one (.cell (.list false eP a_0)), .one (.cell (.list false eP b_1)), .one (.cell (.int .i64 kF))], []⟩
noncomputable def IU (k : Nat) (a_0 : Int) (b_1 : Int) : Option Int := run C k 239 (.int .i64) [.val (.int .i64) a_0, .val (.int .i64) b_1]
noncomputable def jm (k : Nat) (bq : bg) (a_1 : aF) : Option (Bool × bg) := run C k 98 (.pair .bool jC) [.fV jC bq, .rp bL a_1]
noncomputable def lW (k : Nat) (bq : bg) (a_1 : aF) : Option (Bool × bg) := run C k 101 (.pair .bool jC) [.fV jC bq, .rp bL a_1]
noncomputable def lX (k : Nat) (bq : bg) (a_1 : cu) : Option (Bool × bg) := run C k 103 (.pair .bool jC) [.fV jC bq, .rp dV a_1]
noncomputable def mR (k : Nat) (bq : bg) (a_1 : Int) : Option (Bool × bg) := run C k 107 (.pair .bool jC) [.fV jC bq, .rp (.int .i64) a_1]
noncomputable def ku (k : Nat) (bq : bg) (a_1 : Int) : Option (Bool × bg) := run C k 109 (.pair .bool jC) [.fV jC bq, .rp (.int .i64) a_1]
noncomputable def dA (k : Nat) (bq : bg) (a_1 : bF) : Option (Bool × bg) := run C k 116 (.pair .bool jC) [.fV jC bq, .rp dx a_1]
noncomputable def dA.l0 (k m : Nat) (t_1 : bF) (El : Int) (iR : Int) (jU : Int) (bQ : Int) (bU : Int) (zi : Int) (zk : Int) (s1 : (List bF)) (s2 : (List aF)) (s3 : (List cu)) (s4 : (List Int)) (s5 : (List bf)) (s6 : (List cu)) : Option (Bool × bg) := oO C k 116 (.pair .bool jC) 0 jC 2 [.r, .r, .l, .r, .b] [] [0, 1, 4, 10, 11, 12] m ⟨[.one (.cell (.ptr 1 0)), .one (.cell (.pR false dx t_1 0)), .one (.cell (.int .i64 El)), .one (.cell (.ref 5)), .one (.cell (.int .i64 iR)), .one (.cell (.int .i64 jU))], [.box (some jC) [.ref 9, .int .i64 bQ, .int .i64 bU, .ref 13, .ref 5, .ref 17, .ref 21, .ref 25, .int .i64 zi, .int .i64 zk], .arr dx s1 .open, .arr bL s2 .open, .arr dV s3 .open, .arr (.int .i64) s4 .open, .arr eP s5 .open, .arr dV s6 .open]⟩
noncomputable def mU (k : Nat) (bq : bg) (a_1 : Int) (a_2 : Int) (Wx : Int) (a_4 : Int) : Option (Bool × bg) := run C k 119 (.pair .bool jC) [.fV jC bq, .rp (.int .i64) a_1, .rp (.int .i64) a_2, .rp (.int .i64) Wx, .rp (.int .i64) a_4]
noncomputable def mV (k : Nat) (bq : bg) (a_1 : Int) : Option (Bool × bg) := run C k 122 (.pair .bool jC) [.fV jC bq, .rp (.int .i64) a_1]
noncomputable def gY (k : Nat) (aB : (List bF)) : Option (List bF) := run C k 135 (.list dx) [.val (.list dx) aB]
noncomputable def gY.l0 (k m : Nat) (aB : (List bF)) (oW : Int) (s0 : (List bF)) : Option (List bF) := bR C k 135 (.list dx) [0] [.r, .r, .l, .r, .b] [] [0, 3, 4] m ⟨[.one (.cell (.list false dx aB)), .one (.cell (.ref 1)), .one (.cell (.int .i64 oW))], [.arr dx s0 .open]⟩
noncomputable def dM (k : Nat) (aB : (List aF)) : Option Bool := run C k 247 .bool [.val (.list bL) aB]
noncomputable def dM.l0 (k m : Nat) (aB : (List aF)) (iQ : Int) : Option Bool := bR C k 247 .bool [0] [.r, .l, .r, .b] [] [0, 3] m ⟨[.one (.cell (.list false bL aB)), .one (.cell (.int .i64 iQ))], []⟩
noncomputable def uU (k : Nat) (JF : cu) : Option Bool := run C k 248 .bool [.val dV JF]
noncomputable def fE (k : Nat) (aB : (List cu)) : Option Bool := run C k 249 .bool [.val (.list dV) aB]
noncomputable def fE.l0 (k m : Nat) (aB : (List cu)) (iQ : Int) : Option Bool := bR C k 249 .bool [0] [.r, .l, .r, .b] [] [0, 3] m ⟨[.one (.cell (.list false dV aB)), .one (.cell (.int .i64 iQ))], []⟩
noncomputable def dY (k : Nat) (aB : (List bf)) : Option Bool := run C k 250 .bool [.val (.list eP) aB]
noncomputable def dY.l0 (k m : Nat) (aB : (List bf)) (iQ : Int) : Option Bool := bR C k 250 .bool [0] [.r, .l, .r, .b] [] [0, 3] m ⟨[.one (.cell (.list false eP aB)), .one (.cell (.int .i64 iQ))], []⟩
noncomputable def eB (k : Nat) (aB : (List cu)) : Option Bool := run C k 251 .bool [.val (.list dV) aB]
noncomputable def eB.l0 (k m : Nat) (aB : (List cu)) (iQ : Int) : Option Bool := bR C k 251 .bool [0] [.r, .l, .r, .b] [] [0, 3] m ⟨[.one (.cell (.list false dV aB)), .one (.cell (.int .i64 iQ))], []⟩
noncomputable def aX (k : Nat) (aB : (List bF)) (bB : (List aF)) (bS : (List Int)) : Option Bool := run C k 252 .bool [.val (.list dx) aB, .val (.list bL) bB, .val (.list (.int .i64)) bS]
noncomputable def aX.l0 (k m : Nat) (aB : (List bF)) (bB : (List aF)) (bS : (List Int)) (Bu : Int) : Option Bool := bR C k 252 .bool [0, 0, 0] [.r, .l, .r, .b] [] [0, 1, 2, 7] m ⟨[.one (.cell (.list false dx aB)), .one (.cell (.list false bL bB)), .one (.cell (.list false (.int .i64) bS)), .one (.cell (.int .i64 Bu))], []⟩
noncomputable def aX.l1 (k m m1 : Nat) (aB : (List bF)) (bB : (List aF)) (bS : (List Int)) (Bu : Int) (Em : Bool) (Sn : Int) : Option Bool := bR C k 252 .bool [0, 0, 0] [.r, .l, .r, .b, .p, .r, .l, .b, .r, .l, .r, .b] [⟨[0, 1, 2, 7], m1⟩] [0, 1, 2, 7, 8, 9] m ⟨[.one (.cell (.list false dx aB)), .one (.cell (.list false bL bB)), .one (.cell (.list false (.int .i64) bS)), .one (.cell (.int .i64 Bu)), .one (.cell (.prop (Em = true) (instDecidableEqBool Em true))), .one (.cell (.int .i64 Sn))], []⟩
noncomputable def jL (k : Nat) (aB : (List aF)) (e_1 : aF) : Option (List aF) := run C k 255 (.list bL) [.val (.list bL) aB, .val bL e_1]
noncomputable def jL.l0 (k m : Nat) (aB : (List aF)) (eG : Int) (bZ : Int) (bQ : Int) (bU : Int) (fQ : Int) : Option (List aF) := bR C k 255 (.list bL) [0, 0] [.r, .r, .l, .b] [] [0, 3, 5] m ⟨[.one (.cell (.list false bL aB)), .one (.cell (.ptr 1 0)), .one (.cell (.int .i64 eG))], [.box (some bL) [.int .i64 bZ, .int .i64 bQ, .int .i64 bU, .int .i64 fQ]]⟩
noncomputable def su (k : Nat) (p_0 : bF) (a_1 : Int) (a_2 : (List aF)) (Wx : Int) : Option Bool := run C k 180 .bool [.val dx p_0, .rp (.int .i64) a_1, .rp (.list bL) a_2, .rp (.int .i64) Wx]
noncomputable def aK (k : Nat) (aB : (List bF)) : Option Bool := run C k 267 .bool [.val (.list dx) aB]
noncomputable def aK.l0 (k m : Nat) (aB : (List bF)) (iQ : Int) : Option Bool := bR C k 267 .bool [0] [.r, .l, .r, .b] [] [0, 3] m ⟨[.one (.cell (.list false dx aB)), .one (.cell (.int .i64 iQ))], []⟩
noncomputable def aK.l1 (k m m1 : Nat) (aB : (List bF)) (iQ : Int) (eG : Int) (bZ : Int) (bQ : Int) (bU : Int) (fQ : (List Int)) : Option Bool := bR C k 267 .bool [0] [.r, .l, .r, .b, .p, .r, .l, .b, .r, .r, .r, .b] [⟨[0, 3], m1⟩] [0, 3, 4, 5] m ⟨[.one (.cell (.list false dx aB)), .one (.cell (.int .i64 iQ)), .one (.cell (.ptr 1 0)), .one (.cell (.int .i64 eG))], [.box (some dx) [.int .i64 bZ, .int .i64 bQ, .int .i64 bU, .list true (.int .i64) fQ]]⟩
noncomputable def bW (k : Nat) (aB : (List bF)) (bB : (List aF)) (gD : Int) (jW : (List Int)) : Option ((List Int) × (Bool × Unit)) := run C k 268 (.pair (.list (.int .i64)) (.pair .bool .unit)) [.val (.list dx) aB, .val (.list bL) bB, .val (.int .i64) gD, .val (.list (.int .i64)) jW]
noncomputable def bW.l0 (k m : Nat) (aB : (List bF)) (bB : (List aF)) (gD : Int) (jW : (List Int)) (Ae : Int) : Option ((List Int) × (Bool × Unit)) := bR C k 268 (.pair (.list (.int .i64)) (.pair .bool .unit)) [0, 0, 0, 0] [.r, .r, .l, .r, .b] [] [0, 1, 2, 3, 10] m ⟨[.one (.cell (.list false dx aB)), .one (.cell (.list false bL bB)), .one (.cell (.int .i64 gD)), .one (.cell (.list false (.int .i64) jW)), .one (.cell (.int .i64 Ae))], []⟩
noncomputable def je (k : Nat) (aB : (List bf)) (x_1 : bf) : Option (List bf) := run C k 269 (.list eP) [.val (.list eP) aB, .val eP x_1]
noncomputable def je.l0 (k m : Nat) (aB : (List bf)) (eG : Int) (bZ : Int) (bQ : Int) (bU : Int) (fQ : Int) (kS : Int) : Option (List bf) := bR C k 269 (.list eP) [0, 0] [.r, .r, .l, .b] [] [0, 3, 5] m ⟨[.one (.cell (.list false eP aB)), .one (.cell (.ptr 1 0)), .one (.cell (.int .i64 eG))], [.box (some eP) [.int .i64 bZ, .int .i64 bQ, .int .i64 bU, .int .i64 fQ, .int .i64 kS]]⟩
noncomputable def xq (k : Nat) (aB : (List aF)) (e_1 : aF) : Option ((List aF) × (Bool × Unit)) := run C k 99 (.pair (.list bL) (.pair .bool .unit)) [.val (.list bL) aB, .val bL e_1]
noncomputable def vR (k : Nat) (aB : (List aF)) (e_1 : aF) : Option ((List aF) × (Bool × Unit)) := run C k 102 (.pair (.list bL) (.pair .bool .unit)) [.val (.list bL) aB, .val bL e_1]
noncomputable def aY (k : Nat) (s_0 : (List cu)) (eZ : cu) : Option Int := run C k 104 (.int .i64) [.val (.list dV) s_0, .oF 105 [.ro dV eZ]]
noncomputable def aY.l0 (k m : Nat) (s_0 : (List cu)) (jA : cu) (dS : Int) (gH : Int) : Option Int := bR C k 104 (.int .i64) [0, 0] [.r, .l, .r, .b] [] [0, 1, 7, 8] m ⟨[.one (.cell (.list false dV s_0)), .one (.cell (.oF 105 [.ro dV jA])), .one (.cell (.int .i64 dS)), .one (.cell (.int .i64 gH))], []⟩
noncomputable def lu (k : Nat) (s_0 : (List cu)) (yZ : Int) (Mt : (List cu)) : Option (List cu) := run C k 106 (.list dV) [.give (.list dV) s_0, .val (.int .i64) yZ, .val (.list dV) Mt]
noncomputable def sw (k : Nat) (aB : (List bF)) (bB : (List aF)) (gD : Int) : Option ((List Int) × (Bool × Unit)) := run C k 108 (.pair (.list (.int .i64)) (.pair .bool .unit)) [.val (.list dx) aB, .val (.list bL) bB, .val (.int .i64) gD]
noncomputable def aV (k : Nat) (s_0 : (List bF)) (eZ : Int) : Option Int := run C k 110 (.int .i64) [.val (.list dx) s_0, .oF 111 [.ro (.int .i64) eZ]]
noncomputable def aV.l0 (k m : Nat) (s_0 : (List bF)) (jA : Int) (dS : Int) (gH : Int) : Option Int := bR C k 110 (.int .i64) [0, 0] [.r, .l, .r, .b] [] [0, 1, 7, 8] m ⟨[.one (.cell (.list false dx s_0)), .one (.cell (.oF 111 [.ro (.int .i64) jA])), .one (.cell (.int .i64 dS)), .one (.cell (.int .i64 gH))], []⟩
noncomputable def dP (k : Nat) (aB : (List bF)) (bB : (List aF)) (bS : (List Int)) (pK : Int) : Option (Int × (Bool × Unit)) := run C k 113 (.pair (.int .i64) (.pair .bool .unit)) [.val (.list dx) aB, .val (.list bL) bB, .val (.list (.int .i64)) bS, .val (.int .i64) pK]
noncomputable def dP.l0 (k m : Nat) (bB : (List aF)) (bS : (List Int)) (pK : Int) (vP : (List bF)) (Sq : Int) (IV : Int) : Option (Int × (Bool × Unit)) := bR C k 113 (.pair (.int .i64) (.pair .bool .unit)) [0, 0, 0, 0] [.r, .r, .l, .r, .b] [] [1, 2, 3, 24, 25, 26] m ⟨[.one (.cell (.list false bL bB)), .one (.cell (.list false (.int .i64) bS)), .one (.cell (.int .i64 pK)), .one (.cell (.list false dx vP)), .one (.cell (.int .i64 Sq)), .one (.cell (.int .i64 IV))], []⟩
noncomputable def jk (k : Nat) (s_0 : (List bF)) (yZ : Int) (Wy : Int) : Option (List bF) := run C k 114 (.list dx) [.give (.list dx) s_0, .val (.int .i64) yZ, .val (.int .i64) Wy]
noncomputable def kH (k : Nat) (s_0 : (List bF)) (yZ : Int) (Mt : (List bF)) : Option (List bF) := run C k 117 (.list dx) [.give (.list dx) s_0, .val (.int .i64) yZ, .val (.list dx) Mt]
noncomputable def yL (k : Nat) (aB : (List bf)) (x_1 : bf) : Option (List bf) := run C k 120 (.list eP) [.val (.list eP) aB, .val eP x_1]
noncomputable def En (k : Nat) (Om : aF) : Option Bool := run C k 275 .bool [.val bL Om]
noncomputable def sV (k : Nat) (a_0 : aF) (b_1 : aF) : Option Bool := run C k 276 .bool [.val bL a_0, .val bL b_1]
noncomputable def qW (k : Nat) (a_0 : bf) (b_1 : bf) : Option Bool := run C k 277 .bool [.val eP a_0, .val eP b_1]
noncomputable def uV (k : Nat) (p_0 : bF) (l_1 : (List aF)) (kR : Int) : Option Bool := run C k 278 .bool [.val dx p_0, .val (.list bL) l_1, .val (.int .i64) kR]
noncomputable def gQ (k : Nat) (aB : (List Int)) (zx : Int) : Option Bool := run C k 279 .bool [.val (.list (.int .i64)) aB, .val (.int .i64) zx]
noncomputable def gQ.l0 (k m : Nat) (aB : (List Int)) (zx : Int) (kF : Int) : Option Bool := bR C k 279 .bool [0, 0] [.r, .l, .r, .b] [] [0, 1, 5] m ⟨[.one (.cell (.list false (.int .i64) aB)), .one (.cell (.int .i64 zx)), .one (.cell (.int .i64 kF))], []⟩
noncomputable def jT (k : Nat) (p_0 : bF) (l_1 : (List aF)) (kR : Int) : Option Bool := run C k 181 .bool [.val dx p_0, .val (.list bL) l_1, .val (.int .i64) kR]
noncomputable def uW (k : Nat) (a_0 : bf) (b_1 : bf) : Option Bool := run C k 288 .bool [.val eP a_0, .val eP b_1]
noncomputable def aZ (k : Nat) (s_0 : (List aF)) (eZ : aF) : Option Int := run C k 194 (.int .i64) [.val (.list bL) s_0, .oF 200 [.ro bL eZ]]
noncomputable def aZ.l0 (k m : Nat) (s_0 : (List aF)) (jA : aF) (dS : Int) (gH : Int) : Option Int := bR C k 194 (.int .i64) [0, 0] [.r, .l, .r, .b] [] [0, 1, 7, 8] m ⟨[.one (.cell (.list false bL s_0)), .one (.cell (.oF 200 [.ro bL jA])), .one (.cell (.int .i64 dS)), .one (.cell (.int .i64 gH))], []⟩
noncomputable def jw (k : Nat) (s_0 : (List aF)) (yZ : Int) (Mt : (List aF)) : Option (List aF) := run C k 201 (.list bL) [.give (.list bL) s_0, .val (.int .i64) yZ, .val (.list bL) Mt]
noncomputable def bT (k : Nat) (s_0 : (List aF)) (v_1 : aF) : Option Int := run C k 203 (.int .i64) [.val (.list bL) s_0, .val bL v_1]
noncomputable def bT.l0 (k m : Nat) (s_0 : (List aF)) (dS : Int) (gH : Int) (bZ : Int) (bQ : Int) (bU : Int) (fQ : Int) : Option Int := bR C k 203 (.int .i64) [0, 0] [.r, .l, .r, .b] [] [0, 3, 7, 8] m ⟨[.one (.cell (.list false bL s_0)), .one (.cell (.ptr 1 0)), .one (.cell (.int .i64 dS)), .one (.cell (.int .i64 gH))], [.box (some bL) [.int .i64 bZ, .int .i64 bQ, .int .i64 bU, .int .i64 fQ]]⟩
noncomputable def lC (k : Nat) (s_0 : (List aF)) (yZ : Int) (Wy : Int) : Option (List aF) := run C k 204 (.list bL) [.give (.list bL) s_0, .val (.int .i64) yZ, .val (.int .i64) Wy]
noncomputable def vS (k : Nat) (t_0 : cu) (a_1 : cu) : Option Bool := run C k 105 .bool [.val dV t_0, .rp dV a_1]
noncomputable def vT (k : Nat) (p_0 : bF) (a_1 : Int) : Option Bool := run C k 111 .bool [.val dx p_0, .rp (.int .i64) a_1]
noncomputable def IW (k : Nat) (aB : (List bf)) (x_1 : bf) : Option (List bf) := run C k 211 (.list eP) [.give (.list eP) aB, .val eP x_1]
noncomputable def gF (k : Nat) (aB : (List aF)) (eX : Int) : Option (List aF) := run C k 292 (.list bL) [.val (.list bL) aB, .val (.int .i64) eX]
noncomputable def gF.l0 (k m : Nat) (aB : (List aF)) (eX : Int) (Ms : Int) (s0 : (List aF)) : Option (List aF) := bR C k 292 (.list bL) [0, 0] [.r, .r, .l, .r, .b] [] [0, 1, 5, 6] m ⟨[.one (.cell (.list false bL aB)), .one (.cell (.int .i64 eX)), .one (.cell (.ref 1)), .one (.cell (.int .i64 Ms))], [.arr bL s0 .open]⟩
noncomputable def fJ (k : Nat) (aB : (List aF)) (dU : Int) (bX : Int) : Option Bool := run C k 291 .bool [.val (.list bL) aB, .val (.int .i64) dU, .val (.int .i64) bX]
noncomputable def fJ.l0 (k m : Nat) (aB : (List aF)) (dU : Int) (bX : Int) (Bu : Int) : Option Bool := bR C k 291 .bool [0, 0, 0] [.r, .l, .r, .b] [] [0, 1, 2, 7] m ⟨[.one (.cell (.list false bL aB)), .one (.cell (.int .i64 dU)), .one (.cell (.int .i64 bX)), .one (.cell (.int .i64 Bu))], []⟩
noncomputable def mG (k : Nat) (aB : (List aF)) (eX : Int) : Option (List aF) := run C k 83 (.list bL) [.val (.list bL) aB, .val (.int .i64) eX]
noncomputable def bA (k : Nat) (aB : (List aF)) (dU : Int) (bX : Int) : Option Bool := run C k 228 .bool [.val (.list bL) aB, .val (.int .i64) dU, .val (.int .i64) bX]
noncomputable def bA.l0 (k m : Nat) (aB : (List aF)) (dU : Int) (bX : Int) (mh : (List aF)) (jH : Int) (iR : Int) : Option Bool := bR C k 228 .bool [0, 0, 0] [.r, .l, .r, .b] [] [0, 1, 2, 9, 10, 11] m ⟨[.one (.cell (.list false bL aB)), .one (.cell (.int .i64 dU)), .one (.cell (.int .i64 bX)), .one (.cell (.list false bL mh)), .one (.cell (.int .i64 jH)), .one (.cell (.int .i64 iR))], []⟩
noncomputable def uy (k : Nat) (Rk : aF) (a_1 : aF) : Option Bool := run C k 200 .bool [.val bL Rk, .rp bL a_1]
noncomputable def aL (k : Nat) (x_0 : (List bf)) (tO : bf) : Option (Int × (Bool × Unit)) := run C k 244 (.pair (.int .i64) (.pair .bool .unit)) [.val (.list eP) x_0, .val eP tO, .oF 176 []]
noncomputable def aL.l0 (k m : Nat) (x_0 : (List bf)) (Yr : Int) (IQ : Int) (JV : Int) (bZ : Int) (bQ : Int) (bU : Int) (fQ : Int) (kS : Int) : Option (Int × (Bool × Unit)) := bR C k 244 (.pair (.int .i64) (.pair .bool .unit)) [0, 0, 0] [.r, .r, .r, .l, .b] [] [0, 2, 4, 8, 9, 10] m ⟨[.one (.cell (.list false eP x_0)), .one (.cell (.oF 176 [])), .one (.cell (.ptr 1 0)), .one (.cell (.int .i64 Yr)), .one (.cell (.int .i64 IQ)), .one (.cell (.int .i64 JV))], [.box (some eP) [.int .i64 bZ, .int .i64 bQ, .int .i64 bU, .int .i64 fQ, .int .i64 kS]]⟩
noncomputable def qy (k : Nat) (s_0 : (List bf)) (yZ : Int) (Mt : (List bf)) : Option (List bf) := run C k 245 (.list eP) [.give (.list eP) s_0, .val (.int .i64) yZ, .val (.list eP) Mt]
noncomputable def yM (k : Nat) (a_0 : bf) (b_1 : bf) : Option Bool := run C k 246 .bool [.val eP a_0, .val eP b_1]
noncomputable def aj (k : Nat) (s_0 : (List aF)) (eZ : Int) : Option (List aF) := run C k 185 (.list bL) [.give (.list bL) s_0, .oF 189 [.ro (.int .i64) eZ]]
noncomputable def aj.l0 (k m : Nat) (om : Int) (kF : Int) (JU : Int) (s0 : (List aF)) : Option (List aF) := bR C k 185 (.list bL) [0, 0] [.r, .r, .r, .l, .r, .b] [] [0, 1, 5, 6] m ⟨[.one (.cell (.ref 1)), .one (.cell (.oF 189 [.ro (.int .i64) om])), .one (.cell (.int .i64 kF)), .one (.cell (.int .i64 JU))], [.arr bL s0 .open]⟩
noncomputable def ay (k : Nat) (s_0 : (List aF)) (eZ : Int) : Option Int := run C k 194 (.int .i64) [.val (.list bL) s_0, .oF 189 [.ro (.int .i64) eZ]]
noncomputable def ay.l0 (k m : Nat) (s_0 : (List aF)) (jA : Int) (dS : Int) (gH : Int) : Option Int := bR C k 194 (.int .i64) [0, 0] [.r, .l, .r, .b] [] [0, 1, 7, 8] m ⟨[.one (.cell (.list false bL s_0)), .one (.cell (.oF 189 [.ro (.int .i64) jA])), .one (.cell (.int .i64 dS)), .one (.cell (.int .i64 gH))], []⟩
noncomputable def iX (k : Nat) (Om : aF) (a_1 : Int) : Option Bool := run C k 189 .bool [.val bL Om, .rp (.int .i64) a_1]
theorem vU (k : Nat) (dz) : um (k + 1) dz =
 (Ov k dz).bind fun r1 =>
 if r1 = true then
 some true
 else (uo k dz).bind fun r2 =>
 (gM k r2.1 r2.2.1).bind fun r3 =>
 (Mq k dz 3).bind fun r4 =>
 if ((List.length r2.2.1 : Nat) : Int) = (0 : Int) then
 none
 else (dL k r3).bind fun r5 =>
 if ¬ (r5 = true) then
 some false
 else if 0 <= (Int.tmod r4 ((List.length r2.2.1 : Nat) : Int)) then
 if (Int.tmod r4 ((List.length r2.2.1 : Nat) : Int)) <= ((List.length r2.2.1 : Nat) : Int) then
 (gM k r2.1 (List.take ((Int.toNat (Int.tmod r4 ((List.length r2.2.1 : Nat) : Int))) - (Int.toNat 0)) (List.drop (Int.toNat 0) r2.2.1))).bind fun r6 =>
 if 0 <= (Int.tmod r4 ((List.length r2.2.1 : Nat) : Int)) then
 if (Int.tmod r4 ((List.length r2.2.1 : Nat) : Int)) <= ((List.length r2.2.1 : Nat) : Int) then
 (gM k r6 (List.take ((Int.toNat ((List.length r2.2.1 : Nat) : Int)) - (Int.toNat (Int.tmod r4 ((List.length r2.2.1 : Nat) : Int)))) (List.drop (Int.toNat (Int.tmod r4 ((List.length r2.2.1 : Nat) : Int))) r2.2.1))).bind fun r7 =>
 (iO k r3 r7).bind fun r8 =>
 if ¬ (r8 = true) then
 some false
 else (bV k r2.2.1 4).bind fun r9 =>
 if (r9 : Int) < 1 then
 some false
 else (qL k dz).bind fun Mv =>
 (gT k Mv).bind fun UN =>
 (gM k r2.1 UN).bind fun Qs =>
 (aO k Mv).bind fun Yt =>
 if Yt = true then
 (xU k Qs.1 Mv).bind fun Tt =>
 if ¬ (Tt = true) then
 some false
 else if (((List.length UN : Nat) : Int) : Int) ≠ ((List.length Mv : Nat) : Int) then
 some false
 else (nQ k dz).bind fun UO =>
 (qh k UO.1 UO.2.1).bind fun r16 =>
 if r16.2.1 = true then
 if ¬ (r16.2.1 = true) then
 some true
 else (gN k UO.2.1.1).bind fun r17 =>
 some (decide (¬ (r17 = (ByteArray.mk #[]))))
 else (iO k UO.1 r16.1).bind fun r18 =>
 if r18 = true then
 if ¬ (r16.2.1 = true) then
 some true
 else (gN k UO.2.1.1).bind fun r19 =>
 some (decide (¬ (r19 = (ByteArray.mk #[]))))
 else some false
 else if (((List.length UN : Nat) : Int) : Int) ≠ ((List.length Mv : Nat) : Int) then
 some false
 else (nQ k dz).bind fun ZE =>
 (qh k ZE.1 ZE.2.1).bind fun r21 =>
 if r21.2.1 = true then
 if ¬ (r21.2.1 = true) then
 some true
 else (gN k ZE.2.1.1).bind fun r22 =>
 some (decide (¬ (r22 = (ByteArray.mk #[]))))
 else (iO k ZE.1 r21.1).bind fun r23 =>
 if r23 = true then
 if ¬ (r21.2.1 = true) then
 some true
 else (gN k ZE.2.1.1).bind fun r24 =>
 some (decide (¬ (r24 = (ByteArray.mk #[]))))
 else some false else none else none else none else none := by kernel_rfl
theorem Fe (k : Nat) (dz) : Ov (k + 1) dz =
 some (decide ((1048576 : Int) < ((List.length dz : Nat) : Int))) := by kernel_rfl
theorem Cj (k : Nat) (dz) : uo (k + 1) dz =
 (iM k dz).bind fun r1 =>
 (wY k r1).bind fun r2 =>
 (iG k r2.2 9).bind fun r3 =>
 some (r2.1, (r3.1, ())) := by kernel_rfl
theorem IX (k : Nat) (bq uq) : gM (k + 1) bq uq =
 (au k bq).bind fun r1 =>
 gM.l0 k k uq ((List.length uq : Nat) : Int) 0 0 0 0 0 r1.2.1.1 r1.2.1.2.1 r1.2.2.2.2.2.2.2.1 r1.2.2.2.2.2.2.2.2.1 r1.1 r1.2.2.1 r1.2.2.2.1 r1.2.2.2.2.1 r1.2.2.2.2.2.1 r1.2.2.2.2.2.2.1 := by kernel_rfl
theorem gM.aA (k m : Nat) (jH iR jU bQ bU zi zk zl zm zn zo s2 s3 s4 s5 s6 s7) : gM.l0 k (m + 1) jH iR jU bQ bU zi zk zl zm zn zo s2 s3 s4 s5 s6 s7 =
 if (jU : Int) < iR then
 if 0 <= jU then
 if jU < ((List.length jH : Nat) : Int) then
 (qh k (s2, ((zl, (zm, ())), (s3, (s4, (s5, (s6, (s7, (zn, (zo, ()))))))))) (rd Dc jH jU)).bind fun r2 =>
 gM.l0 k m jH iR (IntKind.wrap .i64 (jU + 1)) bQ bU zi zk r2.1.2.1.1 r2.1.2.1.2.1 r2.1.2.2.2.2.2.2.2.1 r2.1.2.2.2.2.2.2.2.2.1 r2.1.1 r2.1.2.2.1 r2.1.2.2.2.1 r2.1.2.2.2.2.1 r2.1.2.2.2.2.2.1 r2.1.2.2.2.2.2.2.1 else none else none
 else some (s2, ((zl, (zm, ())), (s3, (s4, (s5, (s6, (s7, (zn, (zo, ()))))))))) := by kernel_rfl
theorem IY (k : Nat) (dz yZ) : Mq (k + 1) dz yZ =
 if (yZ : Int) < ((List.length dz : Nat) : Int) then
 if 0 <= yZ then
 if yZ < ((List.length dz : Nat) : Int) then
 some (IntKind.wrap .i64 ((rd (.int .u8) dz yZ))) else none else none
 else if 256 = (0 : Int) then
 none
 else some (Int.tmod (IntKind.wrap .i64 ((IntKind.wrap .i64 (yZ * 31)) + (IntKind.wrap .i64 (((List.length dz : Nat) : Int) * 7)))) 256) := by kernel_rfl
theorem fF (k : Nat) (bq) : dL (k + 1) bq =
 (aO k bq.1).bind fun r1 =>
 if r1 = true then
 (uS k bq.2.1).bind fun r2 =>
 if r2 = true then
 (fD k bq.2.2.1).bind fun r3 =>
 if r3 = true then
 (dX k bq.2.2.2.2.2.1).bind fun r4 =>
 if r4 = true then
 (dZ k bq.2.2.2.2.2.2.1).bind fun r5 =>
 if r5 = true then
 (eT k bq.2.2.2.1 bq.1 bq.2.2.2.2.1).bind fun r6 =>
 if r6 = true then
 (aT k bq.2.2.2.2.2.2.2.1 1 9999).bind fun r7 =>
 if r7 = true then
 (aT k bq.2.2.2.2.2.2.2.2.1 0 100000).bind fun r8 =>
 some (decide (r8 = true))
 else some false
 else some false
 else some false
 else some false
 else some false
 else some false
 else some false := by kernel_rfl
theorem dN (k : Nat) (a_0 b_1) : iO (k + 1) a_0 b_1 =
 (bD k a_0.1 b_1.1).bind fun r1 =>
 if r1 = true then
 if ((a_0.2.1.1 : Int) = b_1.2.1.1) /\ ((a_0.2.1.2.1 : Int) = b_1.2.1.2.1) then
 (bK k a_0.2.2.1 b_1.2.2.1).bind fun r2 =>
 if r2 = true then
 (aP k a_0.2.2.2.1 b_1.2.2.2.1).bind fun r3 =>
 if r3 = true then
 (bI k a_0.2.2.2.2.1 b_1.2.2.2.2.1).bind fun r4 =>
 if r4 = true then
 (bJ k a_0.2.2.2.2.2.1 b_1.2.2.2.2.2.1).bind fun r5 =>
 if r5 = true then
 (bG k a_0.2.2.2.2.2.2.1 b_1.2.2.2.2.2.2.1).bind fun r6 =>
 if r6 = true then
 if (a_0.2.2.2.2.2.2.2.1 : Int) = b_1.2.2.2.2.2.2.2.1 then
 some (decide ((a_0.2.2.2.2.2.2.2.2.1 : Int) = b_1.2.2.2.2.2.2.2.2.1))
 else some false
 else some false
 else some false
 else some false
 else some false
 else some false
 else some false
 else some false := by kernel_rfl
theorem xW (k : Nat) (IK vO) : bV (k + 1) IK vO =
 bV.l0 k k vO 0 IK ((List.length IK : Nat) : Int) 0 := by kernel_rfl
theorem bV.aA (k m : Nat) (vO AA gH mh jH) : bV.l0 k (m + 1) vO AA gH mh jH =
 if (jH : Int) < mh then
 if 0 <= jH then
 if jH < ((List.length gH : Nat) : Int) then
 if Eq (α := Int) (rd Dc gH jH).1 vO then
 bV.l0 k m vO (IntKind.wrap .i64 (AA + 1)) gH mh (IntKind.wrap .i64 (jH + 1))
 else bV.l0 k m vO AA gH mh (IntKind.wrap .i64 (jH + 1)) else none else none
 else some AA := by kernel_rfl
theorem Af (k : Nat) (dz) : qL (k + 1) dz =
 (xV k dz).bind fun r1 =>
 some r1 := by kernel_rfl
theorem Eo (k : Nat) (aB) : gT (k + 1) aB =
 gT.l0 k k aB ((List.length aB : Nat) : Int) 0 [] := by kernel_rfl
theorem gT.aA (k m : Nat) (dS gH mh s0) : gT.l0 k (m + 1) dS gH mh s0 =
 if (mh : Int) < gH then
 if 0 <= mh then
 if mh < ((List.length dS : Nat) : Int) then
 if (List.length s0 + List.length ([(1, (0, ((rd bL dS mh), ((0, (0, ())), ((0, (0, (0, ([], ())))), ((0, (0, (0, (0, (0, ()))))), ()))))))] : (List kX))) * 152 <= 211106232532992 then
 gT.l0 k m dS gH (IntKind.wrap .i64 (mh + 1)) (s0 ++ ([(1, (0, ((rd bL dS mh), ((0, (0, ())), ((0, (0, (0, ([], ())))), ((0, (0, (0, (0, (0, ()))))), ()))))))] : (List kX))) else none else none else none
 else some s0 := by kernel_rfl
theorem ug (k : Nat) (aB) : aO (k + 1) aB =
 aO.l0 k k aB aB ((List.length aB : Nat) : Int) 0 := by kernel_rfl
theorem aO.aA (k m : Nat) (aB oN tV dS) : aO.l0 k (m + 1) aB oN tV dS =
 if (dS : Int) < tV then
 if 0 <= dS then
 if dS < ((List.length oN : Nat) : Int) then
 (aT k (rd bL oN dS).1 0 2000).bind fun r1 =>
 if ¬ (r1 = true) then
 some false
 else (aT k (rd bL oN dS).2.1 1 96).bind fun r2 =>
 if ¬ (r2 = true) then
 some false
 else (aT k (rd bL oN dS).2.2.1 21 108).bind fun r3 =>
 if ¬ (r3 = true) then
 some false
 else (aT k (rd bL oN dS).2.2.2.1 1 4).bind fun r4 =>
 if ¬ (r4 = true) then
 some false
 else if (0 : Int) < dS then
 if 0 <= (IntKind.wrap .i64 (dS - 1)) then
 if (IntKind.wrap .i64 (dS - 1)) < ((List.length aB : Nat) : Int) then
 (iZ k (rd bL aB (IntKind.wrap .i64 (dS - 1))) (rd bL oN dS)).bind fun r5 =>
 if (0 : Int) <= r5 then
 some false
 else aO.l0 k m aB oN tV (IntKind.wrap .i64 (dS + 1)) else none else none
 else aO.l0 k m aB oN tV (IntKind.wrap .i64 (dS + 1)) else none else none
 else some (decide ((((List.length aB : Nat) : Int) : Int) <= 40)) := by kernel_rfl
theorem AQ (k : Nat) (a_0 b_1) : xU (k + 1) a_0 b_1 =
 (bD k a_0 b_1).bind fun r1 =>
 some (decide (r1 = true)) := by kernel_rfl
theorem wL (k : Nat) (dz) : nQ (k + 1) dz =
 (iM k dz).bind fun r1 =>
 (eD k r1).bind fun r2 =>
 (wK k r2.2).bind fun r3 =>
 (tN k r3.2 9).bind fun r4 =>
 if r4.1 = true then
 (aM k r4.2 11).bind fun r5 =>
 some (r2.1, ((IntKind.wrap .i64 (r5.1 - 1), r3.1.2), ()))
 else some (r2.1, (r3.1, ())) := by kernel_rfl
theorem iV (k : Nat) (bq x_1) : qh (k + 1) bq x_1 =
 if (x_1.1 : Int) = 1 then
 (nR k bq x_1.2.2.1).bind fun r1 =>
 some (r1.1, (decide (r1.2.1 = true), ()))
 else if (x_1.1 : Int) = 2 then
 (qM k bq x_1.2.2.1).bind fun r2 =>
 some (r2.1, (decide (r2.2.1 = true), ()))
 else if (x_1.1 : Int) = 3 then
 (qN k bq x_1.2.2.2.1).bind fun r3 =>
 some (r3.1, (decide (r3.2.1 = true), ()))
 else if (x_1.1 : Int) = 4 then
 (sP k bq x_1.2.1).bind fun r4 =>
 some (r4.1, (decide (r4.2.1 = true), ()))
 else if (x_1.1 : Int) = 5 then
 (qP k bq x_1.2.1).bind fun r5 =>
 some (r5.1, (decide (r5.2.1 = true), ()))
 else if (x_1.1 : Int) = 6 then
 (sQ k bq x_1.2.2.2.2.1).bind fun r6 =>
 some (r6.1, (decide (r6.2.1 = true), ()))
 else if (x_1.1 : Int) = 7 then
 (sS k bq x_1.2.2.2.2.2.1.1 x_1.2.2.2.2.2.1.2.1 x_1.2.2.2.2.2.1.2.2.1 x_1.2.2.2.2.2.1.2.2.2.2.1).bind fun r7 =>
 some (r7.1, (decide (r7.2.1 = true), ()))
 else if (x_1.1 : Int) = 8 then
 (sU k bq x_1.2.1).bind fun r8 =>
 some (r8.1, (decide (r8.2.1 = true), ()))
 else (au k bq).bind fun r9 =>
 some (r9, (false, ())) := by kernel_rfl
theorem zq (k : Nat) (Ch) : gN (k + 1) Ch =
 (aT k Ch 1 8).bind fun r1 =>
 if ¬ (r1 = true) then
 some (ByteArray.mk #[])
 else if 0 <= (IntKind.wrap .i64 (Ch - 1)) then
 if (IntKind.wrap .i64 (Ch - 1)) < ((List.length ([(ByteArray.mk #[119, 114, 105, 116, 101]), (ByteArray.mk #[101, 114, 97, 115, 101]), (ByteArray.mk #[116, 101, 109, 112, 111]), (ByteArray.mk #[115, 101, 97, 116]), (ByteArray.mk #[108, 101, 97, 118, 101]), (ByteArray.mk #[106, 111, 105, 110]), (ByteArray.mk #[109, 97, 114, 107]), (ByteArray.mk #[116, 105, 99, 107])]) : Nat) : Int) then
 some (rd .str ([(ByteArray.mk #[119, 114, 105, 116, 101]), (ByteArray.mk #[101, 114, 97, 115, 101]), (ByteArray.mk #[116, 101, 109, 112, 111]), (ByteArray.mk #[115, 101, 97, 116]), (ByteArray.mk #[108, 101, 97, 118, 101]), (ByteArray.mk #[106, 111, 105, 110]), (ByteArray.mk #[109, 97, 114, 107]), (ByteArray.mk #[116, 105, 99, 107])]) (IntKind.wrap .i64 (Ch - 1))) else none else none := by kernel_rfl
theorem JW (k : Nat) (dz) : iM (k + 1) dz =
 iM.l0 k k dz (IntKind.wrap .i64 (193017 + ((List.length dz : Nat) : Int))) 0 := by kernel_rfl
theorem iM.aA (k m : Nat) (dz h_3 oW) : iM.l0 k (m + 1) dz h_3 oW =
 if (oW : Int) < ((List.length dz : Nat) : Int) then
 if (oW : Int) < 4000 then
 if 0 <= oW then
 if oW < ((List.length dz : Nat) : Int) then
 iM.l0 k m dz (IntKind.wrap .i64 (((BitVec.ofInt (IntKind.bits .i64) (IntKind.wrap .i64 ((IntKind.wrap .i64 ((IntKind.wrap .i64 (h_3 * 137)) + (IntKind.wrap .i64 ((rd (.int .u8) dz oW))))) + 11)) &&& BitVec.ofInt (IntKind.bits .i64) 1073741823).toNat : Nat))) (IntKind.wrap .i64 (oW + 1)) else none else none
 else some (dz, (0, (h_3, ())))
 else some (dz, (0, (h_3, ()))) := by kernel_rfl
theorem Ep (k : Nat) (iY) : wY (k + 1) iY =
 (qQ k iY).bind fun r1 =>
 (cZ k r1.2).bind fun r2 =>
 (kT k r1.1 r2.1).bind fun r3 =>
 some (r3.1, r2.2) := by kernel_rfl
theorem Fy (k : Nat) (iY Mr) : iG (k + 1) iY Mr =
 (fT k iY).bind fun r1 =>
 (gU k r1.1).bind fun r2 =>
 if (List.length r2 + List.length ([(4, (2, ((0, (0, (0, (0, ())))), ((0, (0, ())), ((0, (0, (0, ([], ())))), ((0, (0, (0, (0, (0, ()))))), ()))))))] : (List kX))) * 152 <= 211106232532992 then
 (aM k r1.2 Mr).bind fun r3 =>
 iG.l0 k k r3.1 r3.2.1 r3.2.2.1 r3.2.2.2.1 (r2 ++ ([(4, (2, ((0, (0, (0, (0, ())))), ((0, (0, ())), ((0, (0, (0, ([], ())))), ((0, (0, (0, (0, (0, ()))))), ()))))))] : (List kX))) else none := by kernel_rfl
theorem iG.aA (k m : Nat) (Ms bZ bQ bU s1) : iG.l0 k (m + 1) Ms bZ bQ bU s1 =
 if (0 : Int) < Ms then
 (wK k (bZ, (bQ, (bU, ())))).bind fun r4 =>
 if (List.length s1 + List.length ([r4.1] : (List kX))) * 152 <= 211106232532992 then
 iG.l0 k m (IntKind.wrap .i64 (Ms - 1)) r4.2.1 r4.2.2.1 r4.2.2.2.1 (s1 ++ ([r4.1] : (List kX))) else none
 else some (s1, (bZ, (bQ, (bU, ())))) := by kernel_rfl
theorem wu (k : Nat) (bq) : au (k + 1) bq =
 au.l0 k k bq.2.2.2.1 ((List.length bq.2.2.2.1 : Nat) : Int) 0 bq.1 bq.2.1.1 bq.2.1.2.1 bq.2.2.1 bq.2.2.2.1 bq.2.2.2.2.1 bq.2.2.2.2.2.1 bq.2.2.2.2.2.2.1 bq.2.2.2.2.2.2.2.1 bq.2.2.2.2.2.2.2.2.1 0 0 0 0 [] := by kernel_rfl
theorem au.aA (k m : Nat) (gH mh jH bZ bQ bU fQ kS UH UJ UK zi zk zl zm zn zo s2) : au.l0 k (m + 1) gH mh jH bZ bQ bU fQ kS UH UJ UK zi zk zl zm zn zo s2 =
 if (jH : Int) < mh then
 if 0 <= jH then
 if jH < ((List.length gH : Nat) : Int) then
 (oq k (rd dx gH jH)).bind fun r1 =>
 if (List.length s2 + List.length ([r1] : (List bF))) * 48 <= 211106232532992 then
 au.l0 k m gH mh (IntKind.wrap .i64 (jH + 1)) bZ bQ bU fQ kS UH UJ UK zi zk zl zm zn zo (s2 ++ ([r1] : (List bF))) else none else none else none
 else (bH k bZ).bind fun r2 =>
 (mZ k fQ).bind fun r3 =>
 (qR k UH).bind fun r4 =>
 (iP k UJ).bind fun r5 =>
 (mH k UK).bind fun r6 =>
 some (r2, ((bQ, (bU, ())), (r3, (s2, (r4, (r5, (r6, (zi, (zk, ()))))))))) := by kernel_rfl
theorem kI (k : Nat) (JF) : uS (k + 1) JF =
 (aT k JF.1 1 12).bind fun r1 =>
 if r1 = true then
 if (JF.2.1 : Int) = 1 then
 some true
 else if (JF.2.1 : Int) = 2 then
 some true
 else if (JF.2.1 : Int) = 4 then
 some true
 else some (decide ((JF.2.1 : Int) = 8))
 else some false := by kernel_rfl
theorem Fz (k : Nat) (aB) : fD (k + 1) aB =
 fD.l0 k k aB aB ((List.length aB : Nat) : Int) 0 := by kernel_rfl
theorem fD.aA (k m : Nat) (aB oN tV dS) : fD.l0 k (m + 1) aB oN tV dS =
 if (dS : Int) < tV then
 if 0 <= dS then
 if dS < ((List.length oN : Nat) : Int) then
 if (dS : Int) = 0 then
 if Ne (α := Int) (rd dV oN dS).1 0 then
 some false
 else if (0 : Int) < dS then
 if 0 <= (IntKind.wrap .i64 (dS - 1)) then
 if (IntKind.wrap .i64 (dS - 1)) < ((List.length aB : Nat) : Int) then
 if LE.le (α := Int) (rd dV oN dS).1 (rd dV aB (IntKind.wrap .i64 (dS - 1))).1 then
 some false
 else if LT.lt (α := Int) 2000 (rd dV oN dS).1 then
 some false
 else (aT k (rd dV oN dS).2.1 20 300).bind fun r1 =>
 if ¬ (r1 = true) then
 some false
 else fD.l0 k m aB oN tV (IntKind.wrap .i64 (dS + 1)) else none else none
 else if LT.lt (α := Int) 2000 (rd dV oN dS).1 then
 some false
 else (aT k (rd dV oN dS).2.1 20 300).bind fun r2 =>
 if ¬ (r2 = true) then
 some false
 else fD.l0 k m aB oN tV (IntKind.wrap .i64 (dS + 1))
 else if (0 : Int) < dS then
 if 0 <= (IntKind.wrap .i64 (dS - 1)) then
 if (IntKind.wrap .i64 (dS - 1)) < ((List.length aB : Nat) : Int) then
 if LE.le (α := Int) (rd dV oN dS).1 (rd dV aB (IntKind.wrap .i64 (dS - 1))).1 then
 some false
 else if LT.lt (α := Int) 2000 (rd dV oN dS).1 then
 some false
 else (aT k (rd dV oN dS).2.1 20 300).bind fun r3 =>
 if ¬ (r3 = true) then
 some false
 else fD.l0 k m aB oN tV (IntKind.wrap .i64 (dS + 1)) else none else none
 else if LT.lt (α := Int) 2000 (rd dV oN dS).1 then
 some false
 else (aT k (rd dV oN dS).2.1 20 300).bind fun r4 =>
 if ¬ (r4 = true) then
 some false
 else fD.l0 k m aB oN tV (IntKind.wrap .i64 (dS + 1)) else none else none
 else (aT k ((List.length aB : Nat) : Int) 1 8).bind fun r5 =>
 some (decide (r5 = true)) := by kernel_rfl
theorem Er (k : Nat) (aB) : dX (k + 1) aB =
 dX.l0 k k aB aB ((List.length aB : Nat) : Int) 0 := by kernel_rfl
theorem dX.aA (k m : Nat) (aB oN tV dS) : dX.l0 k (m + 1) aB oN tV dS =
 if (dS : Int) < tV then
 if 0 <= dS then
 if dS < ((List.length oN : Nat) : Int) then
 (aT k (rd eP oN dS).1 1 100).bind fun r1 =>
 if ¬ (r1 = true) then
 some false
 else (aT k (rd eP oN dS).2.1 1 4).bind fun r2 =>
 if ¬ (r2 = true) then
 some false
 else (aT k (rd eP oN dS).2.2.1 0 9).bind fun r3 =>
 if ¬ (r3 = true) then
 some false
 else (aT k (rd eP oN dS).2.2.2.1 0 100000).bind fun r4 =>
 if ¬ (r4 = true) then
 some false
 else (aT k (rd eP oN dS).2.2.2.2.1 1 99).bind fun r5 =>
 if ¬ (r5 = true) then
 some false
 else if (0 : Int) < dS then
 if 0 <= (IntKind.wrap .i64 (dS - 1)) then
 if (IntKind.wrap .i64 (dS - 1)) < ((List.length aB : Nat) : Int) then
 (nS k (rd eP aB (IntKind.wrap .i64 (dS - 1))) (rd eP oN dS)).bind fun r6 =>
 if (0 : Int) <= r6 then
 some false
 else dX.l0 k m aB oN tV (IntKind.wrap .i64 (dS + 1)) else none else none
 else dX.l0 k m aB oN tV (IntKind.wrap .i64 (dS + 1)) else none else none
 else some (decide ((((List.length aB : Nat) : Int) : Int) <= 30)) := by kernel_rfl
theorem Ck (k : Nat) (aB) : dZ (k + 1) aB =
 dZ.l0 k k aB aB ((List.length aB : Nat) : Int) 0 := by kernel_rfl
theorem dZ.aA (k m : Nat) (aB oN tV dS) : dZ.l0 k (m + 1) aB oN tV dS =
 if (dS : Int) < tV then
 if 0 <= dS then
 if dS < ((List.length oN : Nat) : Int) then
 if Ne (α := Int) (rd dV oN dS).1 dS then
 some false
 else (aT k (rd dV oN dS).2.1 1 500).bind fun r1 =>
 if ¬ (r1 = true) then
 some false
 else if (0 : Int) < dS then
 if 0 <= (IntKind.wrap .i64 (dS - 1)) then
 if (IntKind.wrap .i64 (dS - 1)) < ((List.length aB : Nat) : Int) then
 if LE.le (α := Int) (rd dV oN dS).2.1 (rd dV aB (IntKind.wrap .i64 (dS - 1))).2.1 then
 some false
 else dZ.l0 k m aB oN tV (IntKind.wrap .i64 (dS + 1)) else none else none
 else dZ.l0 k m aB oN tV (IntKind.wrap .i64 (dS + 1)) else none else none
 else some (decide ((((List.length aB : Nat) : Int) : Int) <= 26)) := by kernel_rfl
theorem nC (k : Nat) (aB bB bS) : eT (k + 1) aB bB bS =
 (aQ k aB).bind fun r1 =>
 if ¬ (r1 = true) then
 some false
 else (aO k bB).bind fun r2 =>
 if ¬ (r2 = true) then
 some false
 else if (4 : Int) < ((List.length bS : Nat) : Int) then
 some false
 else eT.l0 k k aB bS bS ((List.length bS : Nat) : Int) 0 bB := by kernel_rfl
theorem eT.aA (k m : Nat) (aB bS Qq UL vP bZ) : eT.l0 k (m + 1) aB bS Qq UL vP bZ =
 if (vP : Int) < UL then
 if 0 <= vP then
 if vP < ((List.length Qq : Nat) : Int) then
 if 0 <= vP then
 if vP <= ((List.length bS : Nat) : Int) then
 (cK k (List.take ((Int.toNat vP) - (Int.toNat 0)) (List.drop (Int.toNat 0) bS)) (rd (.int .i64) Qq vP)).bind fun r3 =>
 if r3 = true then
 some false
 else (iD k aB (rd (.int .i64) Qq vP) bZ vP).bind fun r4 =>
 if ¬ (r4 = true) then
 some false
 else eT.l0 k m aB bS Qq UL (IntKind.wrap .i64 (vP + 1)) bZ else none else none else none else none
 else some true := by kernel_rfl
theorem mQ (k : Nat) (UF dU bX) : aT (k + 1) UF dU bX =
 if (dU : Int) <= UF then
 some (decide ((UF : Int) <= bX))
 else some false := by kernel_rfl
theorem nT (k : Nat) (fu fq) : bD (k + 1) fu fq =
 if (((List.length fu : Nat) : Int) : Int) ≠ ((List.length fq : Nat) : Int) then
 some false
 else bD.l0 k k fu fq ((List.length fu : Nat) : Int) 0 := by kernel_rfl
theorem bD.aA (k m : Nat) (fu fq jU fO) : bD.l0 k (m + 1) fu fq jU fO =
 if (fO : Int) < jU then
 if 0 <= fO then
 if fO < ((List.length fu : Nat) : Int) then
 if 0 <= fO then
 if fO < ((List.length fq : Nat) : Int) then
 if ¬ ((((rd bL fu fO).1 : Int) = (rd bL fq fO).1) /\ ((((rd bL fu fO).2.1 : Int) = (rd bL fq fO).2.1) /\ ((((rd bL fu fO).2.2.1 : Int) = (rd bL fq fO).2.2.1) /\ (((rd bL fu fO).2.2.2.1 : Int) = (rd bL fq fO).2.2.2.1)))) then
 some false
 else bD.l0 k m fu fq jU (IntKind.wrap .i64 (fO + 1)) else none else none else none else none
 else some true := by kernel_rfl
theorem nU (k : Nat) (fu fq) : bK (k + 1) fu fq =
 if (((List.length fu : Nat) : Int) : Int) ≠ ((List.length fq : Nat) : Int) then
 some false
 else bK.l0 k k fu fq ((List.length fu : Nat) : Int) 0 := by kernel_rfl
theorem bK.aA (k m : Nat) (fu fq jU fO) : bK.l0 k (m + 1) fu fq jU fO =
 if (fO : Int) < jU then
 if 0 <= fO then
 if fO < ((List.length fu : Nat) : Int) then
 if 0 <= fO then
 if fO < ((List.length fq : Nat) : Int) then
 if ¬ ((((rd dV fu fO).1 : Int) = (rd dV fq fO).1) /\ (((rd dV fu fO).2.1 : Int) = (rd dV fq fO).2.1)) then
 some false
 else bK.l0 k m fu fq jU (IntKind.wrap .i64 (fO + 1)) else none else none else none else none
 else some true := by kernel_rfl
theorem jY (k : Nat) (fu fq) : aP (k + 1) fu fq =
 if (((List.length fu : Nat) : Int) : Int) ≠ ((List.length fq : Nat) : Int) then
 some false
 else aP.l0 k k fq fu ((List.length fu : Nat) : Int) 0 := by kernel_rfl
theorem aP.aA (k m : Nat) (fq Sl UM IL) : aP.l0 k (m + 1) fq Sl UM IL =
 if (IL : Int) < UM then
 if 0 <= IL then
 if IL < ((List.length Sl : Nat) : Int) then
 if 0 <= IL then
 if IL < ((List.length fq : Nat) : Int) then
 (nA k (rd dx Sl IL) (rd dx fq IL)).bind fun r1 =>
 if ¬ (r1 = true) then
 some false
 else aP.l0 k m fq Sl UM (IntKind.wrap .i64 (IL + 1)) else none else none else none else none
 else some true := by kernel_rfl
theorem oG (k : Nat) (fu fq) : bI (k + 1) fu fq =
 if (((List.length fu : Nat) : Int) : Int) ≠ ((List.length fq : Nat) : Int) then
 some false
 else bI.l0 k k fu fq ((List.length fu : Nat) : Int) 0 := by kernel_rfl
theorem bI.aA (k m : Nat) (fu fq jU fO) : bI.l0 k (m + 1) fu fq jU fO =
 if (fO : Int) < jU then
 if 0 <= fO then
 if fO < ((List.length fu : Nat) : Int) then
 if 0 <= fO then
 if fO < ((List.length fq : Nat) : Int) then
 if Ne (α := Int) (rd (.int .i64) fu fO) (rd (.int .i64) fq fO) then
 some false
 else bI.l0 k m fu fq jU (IntKind.wrap .i64 (fO + 1)) else none else none else none else none
 else some true := by kernel_rfl
theorem oH (k : Nat) (fu fq) : bJ (k + 1) fu fq =
 if (((List.length fu : Nat) : Int) : Int) ≠ ((List.length fq : Nat) : Int) then
 some false
 else bJ.l0 k k fu fq ((List.length fu : Nat) : Int) 0 := by kernel_rfl
theorem bJ.aA (k m : Nat) (fu fq jU fO) : bJ.l0 k (m + 1) fu fq jU fO =
 if (fO : Int) < jU then
 if 0 <= fO then
 if fO < ((List.length fu : Nat) : Int) then
 if 0 <= fO then
 if fO < ((List.length fq : Nat) : Int) then
 if ¬ ((((rd eP fu fO).1 : Int) = (rd eP fq fO).1) /\ ((((rd eP fu fO).2.1 : Int) = (rd eP fq fO).2.1) /\ ((((rd eP fu fO).2.2.1 : Int) = (rd eP fq fO).2.2.1) /\ ((((rd eP fu fO).2.2.2.1 : Int) = (rd eP fq fO).2.2.2.1) /\ (((rd eP fu fO).2.2.2.2.1 : Int) = (rd eP fq fO).2.2.2.2.1))))) then
 some false
 else bJ.l0 k m fu fq jU (IntKind.wrap .i64 (fO + 1)) else none else none else none else none
 else some true := by kernel_rfl
theorem nD (k : Nat) (fu fq) : bG (k + 1) fu fq =
 if (((List.length fu : Nat) : Int) : Int) ≠ ((List.length fq : Nat) : Int) then
 some false
 else bG.l0 k k fu fq ((List.length fu : Nat) : Int) 0 := by kernel_rfl
theorem bG.aA (k m : Nat) (fu fq jU fO) : bG.l0 k (m + 1) fu fq jU fO =
 if (fO : Int) < jU then
 if 0 <= fO then
 if fO < ((List.length fu : Nat) : Int) then
 if 0 <= fO then
 if fO < ((List.length fq : Nat) : Int) then
 if ¬ ((((rd dV fu fO).1 : Int) = (rd dV fq fO).1) /\ (((rd dV fu fO).2.1 : Int) = (rd dV fq fO).2.1)) then
 some false
 else bG.l0 k m fu fq jU (IntKind.wrap .i64 (fO + 1)) else none else none else none else none
 else some true := by kernel_rfl
theorem AR (k : Nat) (dz) : xV (k + 1) dz =
 (iM k dz).bind fun r1 =>
 (Ci k r1).bind fun r2 =>
 some r2.1 := by kernel_rfl
theorem qg (k : Nat) (a_0 b_1) : iZ (k + 1) a_0 b_1 =
 (cmp_Compare_int k a_0.1 b_1.1).bind fun r1 =>
 (cmp_Compare_int k a_0.2.2.2.1 b_1.2.2.2.1).bind fun r2 =>
 (cmp_Compare_int k a_0.2.2.1 b_1.2.2.1).bind fun r3 =>
 (bP k ([r1, r2, r3])).bind fun r4 =>
 some r4 := by kernel_rfl
theorem FC (k : Nat) (iY) : eD (k + 1) iY =
 (yJ k iY).bind fun r1 =>
 (aM k r1.2 6).bind fun r2 =>
 eD.l0 k k r2.1 r2.2.1 r2.2.2.1 r2.2.2.2.1 0 0 0 0 r1.1.2.1.1 r1.1.2.1.2.1 r1.1.2.2.2.2.2.2.2.1 r1.1.2.2.2.2.2.2.2.2.1 r1.1.1 r1.1.2.2.1 r1.1.2.2.2.1 r1.1.2.2.2.2.1 r1.1.2.2.2.2.2.1 r1.1.2.2.2.2.2.2.1 := by kernel_rfl
theorem eD.aA (k m : Nat) (oW bZ bQ bU zl zm zn zo Ow Ox Oy Oz s3 s4 s5 s6 s7 s8) : eD.l0 k (m + 1) oW bZ bQ bU zl zm zn zo Ow Ox Oy Oz s3 s4 s5 s6 s7 s8 =
 if (0 : Int) < oW then
 (aM k (bZ, (bQ, (bU, ()))) 5).bind fun r3 =>
 if (r3.1 : Int) = 0 then
 (aM k r3.2 5).bind fun r4 =>
 (wZ k (s3, ((Ow, (Ox, ())), (s4, (s5, (s6, (s7, (s8, (Oy, (Oz, ()))))))))) (IntKind.wrap .i64 (1 + r4.1))).bind fun r5 =>
 eD.l0 k m (IntKind.wrap .i64 (oW - 1)) r4.2.1 r4.2.2.1 r4.2.2.2.1 zl zm zn zo r5.1.2.1.1 r5.1.2.1.2.1 r5.1.2.2.2.2.2.2.2.1 r5.1.2.2.2.2.2.2.2.2.1 r5.1.1 r5.1.2.2.1 r5.1.2.2.2.1 r5.1.2.2.2.2.1 r5.1.2.2.2.2.2.1 r5.1.2.2.2.2.2.2.1
 else if (r3.1 : Int) = 1 then
 (aM k r3.2 5).bind fun r6 =>
 (aM k r6.2 4).bind fun r7 =>
 (aM k r7.2 4).bind fun r8 =>
 (aM k r8.2 3).bind fun r9 =>
 (xg k (s3, ((Ow, (Ox, ())), (s4, (s5, (s6, (s7, (s8, (Oy, (Oz, ()))))))))) (IntKind.wrap .i64 (1 + r6.1)) (IntKind.wrap .i64 (1 + r7.1)) r8.1 (IntKind.wrap .i64 (1 + r9.1))).bind fun Mv =>
 eD.l0 k m (IntKind.wrap .i64 (oW - 1)) r9.2.1 r9.2.2.1 r9.2.2.2.1 zl zm zn zo Mv.1.2.1.1 Mv.1.2.1.2.1 Mv.1.2.2.2.2.2.2.2.1 Mv.1.2.2.2.2.2.2.2.2.1 Mv.1.1 Mv.1.2.2.1 Mv.1.2.2.2.1 Mv.1.2.2.2.2.1 Mv.1.2.2.2.2.2.1 Mv.1.2.2.2.2.2.2.1
 else if (r3.1 : Int) = 2 then
 (aM k r3.2 3).bind fun UN =>
 (xk k (s3, ((Ow, (Ox, ())), (s4, (s5, (s6, (s7, (s8, (Oy, (Oz, ()))))))))) (IntKind.wrap .i64 (1 + UN.1))).bind fun Qs =>
 eD.l0 k m (IntKind.wrap .i64 (oW - 1)) UN.2.1 UN.2.2.1 UN.2.2.2.1 zl zm zn zo Qs.1.2.1.1 Qs.1.2.1.2.1 Qs.1.2.2.2.2.2.2.2.1 Qs.1.2.2.2.2.2.2.2.2.1 Qs.1.1 Qs.1.2.2.1 Qs.1.2.2.2.1 Qs.1.2.2.2.2.1 Qs.1.2.2.2.2.2.1 Qs.1.2.2.2.2.2.2.1
 else (ou k r3.2).bind fun Yt =>
 (vQ k (s3, ((Ow, (Ox, ())), (s4, (s5, (s6, (s7, (s8, (Oy, (Oz, ()))))))))) Yt.1).bind fun Tt =>
 eD.l0 k m (IntKind.wrap .i64 (oW - 1)) Yt.2.1 Yt.2.2.1 Yt.2.2.2.1 zl zm zn zo Tt.1.2.1.1 Tt.1.2.1.2.1 Tt.1.2.2.2.2.2.2.2.1 Tt.1.2.2.2.2.2.2.2.2.1 Tt.1.1 Tt.1.2.2.1 Tt.1.2.2.2.1 Tt.1.2.2.2.2.1 Tt.1.2.2.2.2.2.1 Tt.1.2.2.2.2.2.2.1
 else some ((s3, ((Ow, (Ox, ())), (s4, (s5, (s6, (s7, (s8, (Oy, (Oz, ()))))))))), (bZ, (bQ, (bU, ())))) := by kernel_rfl
theorem lY (k : Nat) (iY) : wK (k + 1) iY =
 (aM k iY 8).bind fun r1 =>
 (aM k r1.2 4).bind fun r2 =>
 if ((IntKind.wrap .i64 (1 + r1.1)) : Int) = 1 then
 if ((IntKind.wrap .i64 (1 + r1.1)) : Int) = 1 then
 (ou k r2.2).bind fun r3 =>
 some ((IntKind.wrap .i64 (1 + r1.1), (IntKind.wrap .i64 (1 + r2.1), (r3.1, ((0, (0, ())), ((0, (0, (0, ([], ())))), ((0, (0, (0, (0, (0, ()))))), ())))))), r3.2)
 else if ((IntKind.wrap .i64 (1 + r1.1)) : Int) = 3 then
 (aM k r2.2 9).bind fun r4 =>
 (aM k r4.2 90).bind fun r5 =>
 some ((IntKind.wrap .i64 (1 + r1.1), (IntKind.wrap .i64 (1 + r2.1), ((0, (0, (0, (0, ())))), ((IntKind.wrap .i64 (6 * r4.1), (IntKind.wrap .i64 (60 + r5.1), ())), ((0, (0, (0, ([], ())))), ((0, (0, (0, (0, (0, ()))))), ())))))), r5.2)
 else if ((IntKind.wrap .i64 (1 + r1.1)) : Int) = 6 then
 (aM k r2.2 9).bind fun r6 =>
 some ((IntKind.wrap .i64 (1 + r1.1), (IntKind.wrap .i64 (1 + r2.1), ((0, (0, (0, (0, ())))), ((0, (0, ())), ((IntKind.wrap .i64 (1 + r6.1), (40, (90, ([1, 2], ())))), ((0, (0, (0, (0, (0, ()))))), ())))))), r6.2)
 else if ((IntKind.wrap .i64 (1 + r1.1)) : Int) = 7 then
 (qU k r2.2).bind fun r7 =>
 some ((IntKind.wrap .i64 (1 + r1.1), (IntKind.wrap .i64 (1 + r2.1), ((0, (0, (0, (0, ())))), ((0, (0, ())), ((0, (0, (0, ([], ())))), (r7.1, ())))))), r7.2)
 else some ((IntKind.wrap .i64 (1 + r1.1), (IntKind.wrap .i64 (1 + r2.1), ((0, (0, (0, (0, ())))), ((0, (0, ())), ((0, (0, (0, ([], ())))), ((0, (0, (0, (0, (0, ()))))), ())))))), r2.2)
 else if ((IntKind.wrap .i64 (1 + r1.1)) : Int) = 2 then
 (ou k r2.2).bind fun r8 =>
 some ((IntKind.wrap .i64 (1 + r1.1), (IntKind.wrap .i64 (1 + r2.1), (r8.1, ((0, (0, ())), ((0, (0, (0, ([], ())))), ((0, (0, (0, (0, (0, ()))))), ())))))), r8.2)
 else if ((IntKind.wrap .i64 (1 + r1.1)) : Int) = 3 then
 (aM k r2.2 9).bind fun r9 =>
 (aM k r9.2 90).bind fun Mv =>
 some ((IntKind.wrap .i64 (1 + r1.1), (IntKind.wrap .i64 (1 + r2.1), ((0, (0, (0, (0, ())))), ((IntKind.wrap .i64 (6 * r9.1), (IntKind.wrap .i64 (60 + Mv.1), ())), ((0, (0, (0, ([], ())))), ((0, (0, (0, (0, (0, ()))))), ())))))), Mv.2)
 else if ((IntKind.wrap .i64 (1 + r1.1)) : Int) = 6 then
 (aM k r2.2 9).bind fun UN =>
 some ((IntKind.wrap .i64 (1 + r1.1), (IntKind.wrap .i64 (1 + r2.1), ((0, (0, (0, (0, ())))), ((0, (0, ())), ((IntKind.wrap .i64 (1 + UN.1), (40, (90, ([1, 2], ())))), ((0, (0, (0, (0, (0, ()))))), ())))))), UN.2)
 else if ((IntKind.wrap .i64 (1 + r1.1)) : Int) = 7 then
 (qU k r2.2).bind fun Qs =>
 some ((IntKind.wrap .i64 (1 + r1.1), (IntKind.wrap .i64 (1 + r2.1), ((0, (0, (0, (0, ())))), ((0, (0, ())), ((0, (0, (0, ([], ())))), (Qs.1, ())))))), Qs.2)
 else some ((IntKind.wrap .i64 (1 + r1.1), (IntKind.wrap .i64 (1 + r2.1), ((0, (0, (0, (0, ())))), ((0, (0, ())), ((0, (0, (0, ([], ())))), ((0, (0, (0, (0, (0, ()))))), ())))))), r2.2) := by kernel_rfl
theorem IZ (k : Nat) (iY zx) : tN (k + 1) iY zx =
 (aM k iY zx).bind fun r1 =>
 some (decide ((r1.1 : Int) = 0), r1.2) := by kernel_rfl
theorem uz (k : Nat) (iY zx) : aM (k + 1) iY zx =
 if (zx : Int) <= 0 then
 some (0, iY)
 else if (zx : Int) <= 256 then
 (qx k iY).bind fun r1 =>
 if zx = (0 : Int) then
 none
 else some ((Int.tmod r1.1 zx), r1.2)
 else (qx k iY).bind fun r2 =>
 (qx k r2.2).bind fun r3 =>
 (qx k r3.2).bind fun r4 =>
 if zx = (0 : Int) then
 none
 else some ((Int.tmod (IntKind.wrap .i64 ((IntKind.wrap .i64 ((IntKind.wrap .i64 (r2.1 * 65536)) + (IntKind.wrap .i64 (r3.1 * 256)))) + r4.1)) zx), r4.2) := by kernel_rfl
theorem wM (k : Nat) (bq e_1) : nR (k + 1) bq e_1 =
 (uw k bq e_1).bind fun r1 =>
 some (r1.1, (decide (r1.2.1 = true), ())) := by kernel_rfl
theorem Dm (k : Nat) (bq e_1) : qM (k + 1) bq e_1 =
 (rU k bq e_1).bind fun r1 =>
 some (r1.1, (decide (r1.2.1 = true), ())) := by kernel_rfl
theorem Dn (k : Nat) (bq x_1) : qN (k + 1) bq x_1 =
 (rV k bq x_1).bind fun r1 =>
 some (r1.1, (decide (r1.2.1 = true), ())) := by kernel_rfl
theorem Es (k : Nat) (bq qO) : sP (k + 1) bq qO =
 (rW k bq qO).bind fun r1 =>
 some (r1.1, (decide (r1.2.1 = true), ())) := by kernel_rfl
theorem Dp (k : Nat) (bq id_1) : qP (k + 1) bq id_1 =
 (rX k bq id_1).bind fun r1 =>
 some (r1.1, (decide (r1.2.1 = true), ())) := by kernel_rfl
theorem Et (k : Nat) (bq p_1) : sQ (k + 1) bq p_1 =
 (rY k bq p_1).bind fun r1 =>
 some (r1.1, (decide (r1.2.1 = true), ())) := by kernel_rfl
theorem Eu (k : Nat) (bq Dg yI uT Dh) : sS (k + 1) bq Dg yI uT Dh =
 (rZ k bq Dg yI uT Dh).bind fun r1 =>
 some (r1.1, (decide (r1.2.1 = true), ())) := by kernel_rfl
theorem Ew (k : Nat) (bq zx) : sU (k + 1) bq zx =
 (sj k bq zx).bind fun r1 =>
 some (r1.1, (decide (r1.2.1 = true), ())) := by kernel_rfl
theorem za (k : Nat) (iY) : qQ (k + 1) iY =
 (aM k iY 4).bind fun r1 =>
 (lg k r1.2 ([4, 4, 4, 8, 2])).bind fun r2 =>
 some ((IntKind.wrap .i64 (2 + r1.1), (r2.1, ())), r2.2) := by kernel_rfl
theorem wN (k : Nat) (iY) : cZ (k + 1) iY =
 cZ.l0 k k 1 iY.1 iY.2.1 iY.2.2.1 [] := by kernel_rfl
theorem cZ.aA (k m : Nat) (oW bZ bQ bU s1) : cZ.l0 k (m + 1) oW bZ bQ bU s1 =
 (aM k (bZ, (bQ, (bU, ()))) 4).bind fun r1 =>
 if (oW : Int) <= (IntKind.wrap .i64 (2 + r1.1)) then
 (aM k r1.2 18).bind fun r2 =>
 (aM k r2.2 12).bind fun r3 =>
 if (List.length s1 + List.length ([(oW, (IntKind.wrap .i64 (40 + r2.1), (IntKind.wrap .i64 (76 + r3.1), ([1, 2, 3], ()))))] : (List bF))) * 48 <= 211106232532992 then
 cZ.l0 k m (IntKind.wrap .i64 (oW + 1)) r3.2.1 r3.2.2.1 r3.2.2.2.1 (s1 ++ ([(oW, (IntKind.wrap .i64 (40 + r2.1), (IntKind.wrap .i64 (76 + r3.1), ([1, 2, 3], ()))))] : (List bF))) else none
 else some (s1, r1.2) := by kernel_rfl
theorem nV (k : Nat) (JF AB) : kT (k + 1) JF AB =
 (jV k ([], (JF, ([(0, (100, ()))], (AB, ([], ([], ([], (1, (0, ())))))))))).bind fun r1 =>
 (fU k r1).bind fun r2 =>
 if ¬ (r2 = true) then
 some (([], ((0, (0, ())), ([], ([], ([], ([], ([], (0, (0, ()))))))))), (false, ()))
 else some (r1, (true, ())) := by kernel_rfl
theorem Ey (k : Nat) (iY) : fT (k + 1) iY =
 (gP k iY 1 9).bind fun r1 =>
 (gP k r1.2 2 9).bind fun r2 =>
 fT.l0 k k 0 r2.2.1 r2.2.2.1 r2.2.2.2.1 r1.1 r2.1 := by kernel_rfl
theorem fT.aA (k m : Nat) (kF bZ bQ bU s1 s2) : fT.l0 k (m + 1) kF bZ bQ bU s1 s2 =
 if (kF : Int) < ((List.length s2 : Nat) : Int) then
 if 0 <= kF then
 if kF < ((List.length s2 : Nat) : Int) then
 (lq k s1 (rd bL s2 kF)).bind fun r3 =>
 fT.l0 k m (IntKind.wrap .i64 (kF + 1)) bZ bQ bU r3.1 s2 else none else none
 else some (s1, (bZ, (bQ, (bU, ())))) := by kernel_rfl
theorem Ez (k : Nat) (aB) : gU (k + 1) aB =
 gU.l0 k k aB 0 [] := by kernel_rfl
theorem gU.aA (k m : Nat) (aB oW s0) : gU.l0 k (m + 1) aB oW s0 =
 if (oW : Int) < ((List.length aB : Nat) : Int) then
 if 0 <= oW then
 if oW < ((List.length aB : Nat) : Int) then
 if (List.length s0 + List.length ([(1, (0, ((rd bL aB oW), ((0, (0, ())), ((0, (0, (0, ([], ())))), ((0, (0, (0, (0, (0, ()))))), ()))))))] : (List kX))) * 152 <= 211106232532992 then
 gU.l0 k m aB (IntKind.wrap .i64 (oW + 1)) (s0 ++ ([(1, (0, ((rd bL aB oW), ((0, (0, ())), ((0, (0, (0, ([], ())))), ((0, (0, (0, (0, (0, ()))))), ()))))))] : (List kX))) else none else none else none
 else some s0 := by kernel_rfl
theorem AU (k : Nat) (p_0) : oq (k + 1) p_0 =
 (qR k p_0.2.2.2.1).bind fun r1 =>
 some (p_0.1, (p_0.2.1, (p_0.2.2.1, (r1, ())))) := by kernel_rfl
theorem kY (k : Nat) (aB) : bH (k + 1) aB =
 if (List.length ([] : (List aF)) + List.length aB) * 32 <= 211106232532992 then
 some (([] : (List aF)) ++ aB) else none := by kernel_rfl
theorem xu (k : Nat) (aB) : mZ (k + 1) aB =
 if (List.length ([] : (List cu)) + List.length aB) * 16 <= 211106232532992 then
 some (([] : (List cu)) ++ aB) else none := by kernel_rfl
theorem Dq (k : Nat) (aB) : qR (k + 1) aB =
 if (List.length ([] : (List Int)) + List.length aB) * 8 <= 211106232532992 then
 some (([] : (List Int)) ++ aB) else none := by kernel_rfl
theorem xX (k : Nat) (aB) : iP (k + 1) aB =
 if (List.length ([] : (List bf)) + List.length aB) * 40 <= 211106232532992 then
 some (([] : (List bf)) ++ aB) else none := by kernel_rfl
theorem wz (k : Nat) (aB) : mH (k + 1) aB =
 if (List.length ([] : (List cu)) + List.length aB) * 16 <= 211106232532992 then
 some (([] : (List cu)) ++ aB) else none := by kernel_rfl
theorem Dt (k : Nat) (a_0 b_1) : nS (k + 1) a_0 b_1 =
 (cmp_Compare_int k a_0.1 b_1.1).bind fun r1 =>
 (cmp_Compare_int k a_0.2.1 b_1.2.1).bind fun r2 =>
 (bP k ([r1, r2])).bind fun r3 =>
 some r3 := by kernel_rfl
theorem qd (k : Nat) (aB) : aQ (k + 1) aB =
 aQ.l0 k k aB aB ((List.length aB : Nat) : Int) 0 [] := by kernel_rfl
theorem aQ.aA (k m : Nat) (aB dS gH mh s0) : aQ.l0 k (m + 1) aB dS gH mh s0 =
 if (mh : Int) < gH then
 if 0 <= mh then
 if mh < ((List.length dS : Nat) : Int) then
 (aT k (rd dx dS mh).2.1 21 (rd dx dS mh).2.2.1).bind fun r1 =>
 if ¬ (r1 = true) then
 some false
 else if LT.lt (α := Int) 108 (rd dx dS mh).2.2.1 then
 some false
 else (aW k (rd dx dS mh).2.2.2.1 1 4).bind fun r2 =>
 if ¬ (r2 = true) then
 some false
 else if (List.length s0 + List.length ([(rd dx dS mh).1] : (List Int))) * 8 <= 211106232532992 then
 aQ.l0 k m aB dS gH (IntKind.wrap .i64 (mh + 1)) (s0 ++ ([(rd dx dS mh).1] : (List Int))) else none else none else none
 else if (((List.length aB : Nat) : Int) : Int) <= 8 then
 (aW k s0 1 99).bind fun r3 =>
 some (decide (r3 = true))
 else some false := by kernel_rfl
theorem jI (k : Nat) (s_0 v_1) : cK (k + 1) s_0 v_1 =
 (aC k s_0 v_1).bind fun r1 =>
 some (decide ((0 : Int) <= r1)) := by kernel_rfl
theorem nW (k : Nat) (s_0 eZ Di Dj) : iD (k + 1) s_0 eZ Di Dj =
 (aU k s_0 eZ Di Dj).bind fun r1 =>
 some (decide ((0 : Int) <= r1)) := by kernel_rfl
theorem kU (k : Nat) (a_0 b_1) : nA (k + 1) a_0 b_1 =
 if (a_0.1 : Int) = b_1.1 then
 if (a_0.2.1 : Int) = b_1.2.1 then
 if (a_0.2.2.1 : Int) = b_1.2.2.1 then
 (bI k a_0.2.2.2.1 b_1.2.2.2.1).bind fun r1 =>
 some (decide (r1 = true))
 else some false
 else some false
 else some false := by kernel_rfl
theorem lD (k : Nat) (iY) : Ci (k + 1) iY =
 (jd k iY).bind fun r1 =>
 if (((List.length r1.1 : Nat) : Int) : Int) = 0 then
 some (r1.1, r1.2)
 else (aM k r1.2 ((List.length r1.1 : Nat) : Int)).bind fun r2 =>
 (aM k r2.2 9).bind fun r3 =>
 if (r3.1 : Int) = 0 then
 (lg k r3.2 ([(-1), 2000, 2001])).bind fun r4 =>
 if 0 <= r2.1 then
 if r2.1 < ((List.length r1.1 : Nat) : Int) then
 some ((setAt bL r1.1 r2.1 (fun yy => (r4.1, yy.2))), r4.2) else none else none
 else if (r3.1 : Int) = 1 then
 (lg k r3.2 ([0, 96, 97])).bind fun r5 =>
 if 0 <= r2.1 then
 if r2.1 < ((List.length r1.1 : Nat) : Int) then
 some ((setAt bL r1.1 r2.1 (fun yy => (yy.1, (r5.1, yy.2.2)))), r5.2) else none else none
 else if (r3.1 : Int) = 2 then
 (lg k r3.2 ([20, 108, 109])).bind fun r6 =>
 if 0 <= r2.1 then
 if r2.1 < ((List.length r1.1 : Nat) : Int) then
 some ((setAt bL r1.1 r2.1 (fun yy => (yy.1, (yy.2.1, (r6.1, yy.2.2.2))))), r6.2) else none else none
 else if (r3.1 : Int) = 3 then
 (lg k r3.2 ([0, 4, 5])).bind fun r7 =>
 if 0 <= r2.1 then
 if r2.1 < ((List.length r1.1 : Nat) : Int) then
 some ((setAt bL r1.1 r2.1 (fun yy => (yy.1, (yy.2.1, (yy.2.2.1, (r7.1, ())))))), r7.2) else none else none
 else if (r3.1 : Int) = 4 then
 if 0 <= 0 then
 if 0 < ((List.length r1.1 : Nat) : Int) then
 if (List.length r1.1 + List.length ([(rd bL r1.1 0)] : (List aF))) * 32 <= 211106232532992 then
 some ((r1.1 ++ ([(rd bL r1.1 0)] : (List aF))), r3.2) else none else none else none
 else some (r1.1, r3.2) := by kernel_rfl
theorem iK (k : Nat) (x_0 y_1) : cmp_Compare_int (k + 1) x_0 y_1 =
 (cmp_isNaN_int k x_0).bind fun r1 =>
 (cmp_isNaN_int k y_1).bind fun r2 =>
 if r1 = true then
 if r2 = true then
 some 0
 else some (-1)
 else if r2 = true then
 some 1
 else if (x_0 : Int) < y_1 then
 some (-1)
 else if (y_1 : Int) < x_0 then
 some 1
 else some 0 := by kernel_rfl
theorem sN (k : Nat) (vM) : bP (k + 1) vM =
 bP.l0 k k 0 vM ((List.length vM : Nat) : Int) 0 := by kernel_rfl
theorem bP.aA (k m : Nat) (rQ tV dS gH) : bP.l0 k (m + 1) rQ tV dS gH =
 if (gH : Int) < dS then
 if 0 <= gH then
 if gH < ((List.length tV : Nat) : Int) then
 if Ne (α := Int) (rd (.int .i64) tV gH) rQ then
 some (rd (.int .i64) tV gH)
 else bP.l0 k m rQ tV dS (IntKind.wrap .i64 (gH + 1)) else none else none
 else some rQ := by kernel_rfl
theorem uD (k : Nat) (iY) : yJ (k + 1) iY =
 (qQ k iY).bind fun r1 =>
 (cZ k r1.2).bind fun r2 =>
 (kT k r1.1 r2.1).bind fun r3 =>
 (fT k r2.2).bind fun r4 =>
 (iH k r4.2).bind fun r5 =>
 (iI k r5.2).bind fun r6 =>
 (iJ k r6.2).bind fun r7 =>
 (lV k r3.1.2.2.2.1 r4.1 2).bind fun r8 =>
 if r8.2.1 = true then
 (tN k r7.2 5).bind fun r9 =>
 if ¬ (r9.1 = true) then
 some ((r4.1, (r3.1.2.1, (r5.1, (r3.1.2.2.2.1, (r8.1, (r6.1, (r7.1, r3.1.2.2.2.2.2.2.2))))))), r9.2)
 else some ((r4.1, (r3.1.2.1, (r5.1, (r3.1.2.2.2.1, (r3.1.2.2.2.2.1, (r6.1, (r7.1, r3.1.2.2.2.2.2.2.2))))))), r9.2)
 else some ((r4.1, (r3.1.2.1, (r5.1, (r3.1.2.2.2.1, (r3.1.2.2.2.2.1, (r6.1, (r7.1, r3.1.2.2.2.2.2.2.2))))))), r7.2) := by kernel_rfl
theorem sD (k : Nat) (bq zx) : wZ (k + 1) bq zx =
 (jV k bq).bind fun r1 =>
 (eY k zx 1 1000).bind fun r2 =>
 if ¬ (r2 = true) then
 some (r1, (false, ()))
 else (eY k bq.2.2.2.2.2.2.2.2.1 0 100000).bind fun r3 =>
 if ¬ (r3 = true) then
 some (r1, (false, ()))
 else (mI k bq (r1.1, (r1.2.1, (r1.2.2.1, (r1.2.2.2.1, (r1.2.2.2.2.1, (r1.2.2.2.2.2.1, (r1.2.2.2.2.2.2.1, (r1.2.2.2.2.2.2.2.1, (IntKind.wrap .i64 (bq.2.2.2.2.2.2.2.2.1 + zx), ()))))))))) true).bind fun r4 =>
 some (r4.1, (decide (r4.2.1 = true), ())) := by kernel_rfl
theorem EA (k : Nat) (bq Dg yI uT Dh) : xg (k + 1) bq Dg yI uT Dh =
 (jV k bq).bind fun r1 =>
 (qV k bq.2.2.2.2.2.1 (Dg, (yI, (uT, (bq.2.2.2.2.2.2.2.2.1, (Dh, ())))))).bind fun r2 =>
 (eH k r2 bq.2.2.2.2.2.1).bind fun r3 =>
 (mI k bq (r1.1, (r1.2.1, (r1.2.2.1, (r1.2.2.2.1, (r1.2.2.2.2.1, (r2, r1.2.2.2.2.2.2)))))) (decide (¬ (r3 = true)))).bind fun r4 =>
 some (r4.1, (decide (r4.2.1 = true), ())) := by kernel_rfl
theorem EB (k : Nat) (bq qO) : xk (k + 1) bq qO =
 (jV k bq).bind fun r1 =>
 (lV k bq.2.2.2.1 bq.1 qO).bind fun r2 =>
 (mI k bq (r1.1, (r1.2.1, (r1.2.2.1, (r1.2.2.2.1, (r2.1, r1.2.2.2.2.2))))) (decide (r2.2.1 = true))).bind fun r3 =>
 some (r3.1, (decide (r3.2.1 = true), ())) := by kernel_rfl
theorem FD (k : Nat) (iY) : ou (k + 1) iY =
 (aM k iY 20).bind fun r1 =>
 (aM k r1.2 10).bind fun r2 =>
 (aM k r2.2 18).bind fun r3 =>
 (aM k r3.2 3).bind fun r4 =>
 some ((IntKind.wrap .i64 (6 * r1.1), (IntKind.wrap .i64 (3 * (IntKind.wrap .i64 (1 + r2.1))), (IntKind.wrap .i64 (55 + r3.1), (IntKind.wrap .i64 (1 + r4.1), ())))), r4.2) := by kernel_rfl
theorem Du (k : Nat) (bq e_1) : vQ (k + 1) bq e_1 =
 (jV k bq).bind fun r1 =>
 (lq k bq.1 e_1).bind fun r2 =>
 (IU k 10000 bq.2.2.2.2.2.2.2.1).bind fun r3 =>
 (mI k bq (r2.1, (r1.2.1, (r1.2.2.1, (r1.2.2.2.1, (r1.2.2.2.2.1, (r1.2.2.2.2.2.1, (r1.2.2.2.2.2.2.1, (IntKind.wrap .i64 (r3 + 1), r1.2.2.2.2.2.2.2.2)))))))) (decide (r2.2.1 = true))).bind fun r4 =>
 some (r4.1, (decide (r4.2.1 = true), ())) := by kernel_rfl
theorem FE (k : Nat) (iY) : qU (k + 1) iY =
 (aM k iY 5).bind fun r1 =>
 (aM k r1.2 4).bind fun r2 =>
 (aM k r2.2 4).bind fun r3 =>
 (aM k r3.2 5).bind fun r4 =>
 (aM k r4.2 3).bind fun r5 =>
 some ((IntKind.wrap .i64 (1 + r1.1), (IntKind.wrap .i64 (1 + r2.1), (r3.1, (r4.1, (IntKind.wrap .i64 (1 + r5.1), ()))))), r5.2) := by kernel_rfl
theorem Ag (k : Nat) (iY) : qx (k + 1) iY =
 if (33 : Int) < 0 then
 none
 else if (47 : Int) < 0 then
 none
 else if (iY.2.1 : Int) < ((List.length iY.1 : Nat) : Int) then
 if 0 <= iY.2.1 then
 if iY.2.1 < ((List.length iY.1 : Nat) : Int) then
 some (IntKind.wrap .i64 (((BitVec.ofInt (IntKind.bits .i64) (IntKind.wrap .i64 ((IntKind.wrap .i64 (((BitVec.ofInt (IntKind.bits .i64) (IntKind.wrap .i64 (((BitVec.ofInt (IntKind.bits .i64) (Int.fdiv (IntKind.wrap .i64 ((IntKind.wrap .i64 (iY.2.2.1 * 6364136223846793005)) + 1442695040888963407)) (2 ^ (min (Int.toNat 33) (IntKind.bits .i64)))) ^^^ BitVec.ofInt (IntKind.bits .i64) (Int.fdiv (IntKind.wrap .i64 ((IntKind.wrap .i64 (iY.2.2.1 * 6364136223846793005)) + 1442695040888963407)) (2 ^ (min (Int.toNat 47) (IntKind.bits .i64))))).toNat : Nat))) &&& BitVec.ofInt (IntKind.bits .i64) 255).toNat : Nat))) + (IntKind.wrap .i64 ((rd (.int .u8) iY.1 iY.2.1))))) &&& BitVec.ofInt (IntKind.bits .i64) 255).toNat : Nat)), (iY.1, (IntKind.wrap .i64 (iY.2.1 + 1), (IntKind.wrap .i64 ((IntKind.wrap .i64 (iY.2.2.1 * 6364136223846793005)) + 1442695040888963407), ())))) else none else none
 else some (IntKind.wrap .i64 (((BitVec.ofInt (IntKind.bits .i64) (IntKind.wrap .i64 (((BitVec.ofInt (IntKind.bits .i64) (Int.fdiv (IntKind.wrap .i64 ((IntKind.wrap .i64 (iY.2.2.1 * 6364136223846793005)) + 1442695040888963407)) (2 ^ (min (Int.toNat 33) (IntKind.bits .i64)))) ^^^ BitVec.ofInt (IntKind.bits .i64) (Int.fdiv (IntKind.wrap .i64 ((IntKind.wrap .i64 (iY.2.2.1 * 6364136223846793005)) + 1442695040888963407)) (2 ^ (min (Int.toNat 47) (IntKind.bits .i64))))).toNat : Nat))) &&& BitVec.ofInt (IntKind.bits .i64) 255).toNat : Nat)), (iY.1, (iY.2.1, (IntKind.wrap .i64 ((IntKind.wrap .i64 (iY.2.2.1 * 6364136223846793005)) + 1442695040888963407), ())))) := by kernel_rfl
theorem vV (k : Nat) (bq eZ) : uw (k + 1) bq eZ =
 (au k bq).bind fun r1 =>
 (jm k r1 eZ).bind fun r2 =>
 if ¬ (r2.1 = true) then
 (au k bq).bind fun r3 =>
 some (r3, (false, ()))
 else (dL k r2.2).bind fun r4 =>
 if ¬ (r4 = true) then
 (au k bq).bind fun r5 =>
 some (r5, (false, ()))
 else some (r2.2, (true, ())) := by kernel_rfl
theorem AV (k : Nat) (bq eZ) : rU (k + 1) bq eZ =
 (au k bq).bind fun r1 =>
 (lW k r1 eZ).bind fun r2 =>
 if ¬ (r2.1 = true) then
 (au k bq).bind fun r3 =>
 some (r3, (false, ()))
 else (dL k r2.2).bind fun r4 =>
 if ¬ (r4 = true) then
 (au k bq).bind fun r5 =>
 some (r5, (false, ()))
 else some (r2.2, (true, ())) := by kernel_rfl
theorem AX (k : Nat) (bq eZ) : rV (k + 1) bq eZ =
 (au k bq).bind fun r1 =>
 (lX k r1 eZ).bind fun r2 =>
 if ¬ (r2.1 = true) then
 (au k bq).bind fun r3 =>
 some (r3, (false, ()))
 else (dL k r2.2).bind fun r4 =>
 if ¬ (r4 = true) then
 (au k bq).bind fun r5 =>
 some (r5, (false, ()))
 else some (r2.2, (true, ())) := by kernel_rfl
theorem AY (k : Nat) (bq eZ) : rW (k + 1) bq eZ =
 (au k bq).bind fun r1 =>
 (mR k r1 eZ).bind fun r2 =>
 if ¬ (r2.1 = true) then
 (au k bq).bind fun r3 =>
 some (r3, (false, ()))
 else (dL k r2.2).bind fun r4 =>
 if ¬ (r4 = true) then
 (au k bq).bind fun r5 =>
 some (r5, (false, ()))
 else some (r2.2, (true, ())) := by kernel_rfl
theorem AZ (k : Nat) (bq eZ) : rX (k + 1) bq eZ =
 (au k bq).bind fun r1 =>
 (ku k r1 eZ).bind fun r2 =>
 if ¬ (r2.1 = true) then
 (au k bq).bind fun r3 =>
 some (r3, (false, ()))
 else (dL k r2.2).bind fun r4 =>
 if ¬ (r4 = true) then
 (au k bq).bind fun r5 =>
 some (r5, (false, ()))
 else some (r2.2, (true, ())) := by kernel_rfl
theorem Ba (k : Nat) (bq eZ) : rY (k + 1) bq eZ =
 (au k bq).bind fun r1 =>
 (dA k r1 eZ).bind fun r2 =>
 if ¬ (r2.1 = true) then
 (au k bq).bind fun r3 =>
 some (r3, (false, ()))
 else (dL k r2.2).bind fun r4 =>
 if ¬ (r4 = true) then
 (au k bq).bind fun r5 =>
 some (r5, (false, ()))
 else some (r2.2, (true, ())) := by kernel_rfl
theorem Bb (k : Nat) (bq eZ Di Dj Wv) : rZ (k + 1) bq eZ Di Dj Wv =
 (au k bq).bind fun r1 =>
 (mU k r1 eZ Di Dj Wv).bind fun r2 =>
 if ¬ (r2.1 = true) then
 (au k bq).bind fun r3 =>
 some (r3, (false, ()))
 else (dL k r2.2).bind fun r4 =>
 if ¬ (r4 = true) then
 (au k bq).bind fun r5 =>
 some (r5, (false, ()))
 else some (r2.2, (true, ())) := by kernel_rfl
theorem Bc (k : Nat) (bq eZ) : sj (k + 1) bq eZ =
 (au k bq).bind fun r1 =>
 (mV k r1 eZ).bind fun r2 =>
 if ¬ (r2.1 = true) then
 (au k bq).bind fun r3 =>
 some (r3, (false, ()))
 else (dL k r2.2).bind fun r4 =>
 if ¬ (r4 = true) then
 (au k bq).bind fun r5 =>
 some (r5, (false, ()))
 else some (r2.2, (true, ())) := by kernel_rfl
theorem Bv (k : Nat) (iY uq) : lg (k + 1) iY uq =
 (aM k iY ((List.length uq : Nat) : Int)).bind fun r1 =>
 if 0 <= r1.1 then
 if r1.1 < ((List.length uq : Nat) : Int) then
 some ((rd (.int .i64) uq r1.1), r1.2) else none else none := by kernel_rfl
theorem FH (k : Nat) (bq) : jV (k + 1) bq =
 if (List.length ([] : (List aF)) + List.length bq.1) * 32 <= 211106232532992 then
 if (List.length ([] : (List cu)) + List.length bq.2.2.1) * 16 <= 211106232532992 then
 (gY k bq.2.2.2.1).bind fun r1 =>
 if (List.length ([] : (List Int)) + List.length bq.2.2.2.2.1) * 8 <= 211106232532992 then
 if (List.length ([] : (List bf)) + List.length bq.2.2.2.2.2.1) * 40 <= 211106232532992 then
 if (List.length ([] : (List cu)) + List.length bq.2.2.2.2.2.2.1) * 16 <= 211106232532992 then
 some ((([] : (List aF)) ++ bq.1), (bq.2.1, ((([] : (List cu)) ++ bq.2.2.1), (r1, ((([] : (List Int)) ++ bq.2.2.2.2.1), ((([] : (List bf)) ++ bq.2.2.2.2.2.1), ((([] : (List cu)) ++ bq.2.2.2.2.2.2.1), bq.2.2.2.2.2.2.2))))))) else none else none else none else none else none := by kernel_rfl
theorem bM (k : Nat) (bq) : fU (k + 1) bq =
 (dM k bq.1).bind fun r1 =>
 if r1 = true then
 (uU k bq.2.1).bind fun r2 =>
 if r2 = true then
 (fE k bq.2.2.1).bind fun r3 =>
 if r3 = true then
 (dY k bq.2.2.2.2.2.1).bind fun r4 =>
 if r4 = true then
 (eB k bq.2.2.2.2.2.2.1).bind fun r5 =>
 if r5 = true then
 (aX k bq.2.2.2.1 bq.1 bq.2.2.2.2.1).bind fun r6 =>
 if r6 = true then
 (eY k bq.2.2.2.2.2.2.2.1 1 9999).bind fun r7 =>
 if r7 = true then
 (eY k bq.2.2.2.2.2.2.2.2.1 0 100000).bind fun r8 =>
 some (decide (r8 = true))
 else some false
 else some false
 else some false
 else some false
 else some false
 else some false
 else some false := by kernel_rfl
theorem Ja (k : Nat) (iY eX yK) : gP (k + 1) iY eX yK =
 (aM k iY yK).bind fun r1 =>
 gP.l0 k k eX 0 r1.1 r1.2.1 r1.2.2.1 r1.2.2.2.1 [] := by kernel_rfl
theorem gP.aA (k m : Nat) (eX Qr IQ bZ bQ bU s1) : gP.l0 k (m + 1) eX Qr IQ bZ bQ bU s1 =
 if (0 : Int) < IQ then
 (aM k (bZ, (bQ, (bU, ()))) 3).bind fun r2 =>
 (aM k r2.2 8).bind fun r3 =>
 (tN k r3.2 5).bind fun r4 =>
 if r4.1 = true then
 (lq k s1 (Qr, (IntKind.wrap .i64 (6 * (IntKind.wrap .i64 (1 + r2.1))), (IntKind.wrap .i64 (60 + r3.1), (eX, ()))))).bind fun r5 =>
 gP.l0 k m eX (IntKind.wrap .i64 ((IntKind.wrap .i64 (Qr + (IntKind.wrap .i64 (6 * (IntKind.wrap .i64 (1 + r2.1)))))) + 12)) (IntKind.wrap .i64 (IQ - 1)) r4.2.1 r4.2.2.1 r4.2.2.2.1 r5.1
 else (lq k s1 (Qr, (IntKind.wrap .i64 (6 * (IntKind.wrap .i64 (1 + r2.1))), (IntKind.wrap .i64 (60 + r3.1), (eX, ()))))).bind fun r6 =>
 gP.l0 k m eX (IntKind.wrap .i64 (Qr + (IntKind.wrap .i64 (6 * (IntKind.wrap .i64 (1 + r2.1)))))) (IntKind.wrap .i64 (IQ - 1)) r4.2.1 r4.2.2.1 r4.2.2.2.1 r6.1
 else some (s1, (bZ, (bQ, (bU, ())))) := by kernel_rfl
theorem xY (k : Nat) (aB e_1) : lq (k + 1) aB e_1 =
 (jL k aB e_1).bind fun r1 =>
 (dM k r1).bind fun r2 =>
 if ¬ (r2 = true) then
 if (List.length ([] : (List aF)) + List.length aB) * 32 <= 211106232532992 then
 some ((([] : (List aF)) ++ aB), (false, ())) else none
 else some (r1, (true, ())) := by kernel_rfl
theorem qI (k : Nat) (aB dU bX) : aW (k + 1) aB dU bX =
 aW.l0 k k aB dU bX aB ((List.length aB : Nat) : Int) 0 := by kernel_rfl
theorem aW.aA (k m : Nat) (aB dU bX mh jH iR) : aW.l0 k (m + 1) aB dU bX mh jH iR =
 if (iR : Int) < jH then
 if 0 <= iR then
 if iR < ((List.length mh : Nat) : Int) then
 (aT k (rd (.int .i64) mh iR) dU bX).bind fun r1 =>
 if ¬ (r1 = true) then
 some false
 else if (0 : Int) < iR then
 if 0 <= (IntKind.wrap .i64 (iR - 1)) then
 if (IntKind.wrap .i64 (iR - 1)) < ((List.length aB : Nat) : Int) then
 if LE.le (α := Int) (rd (.int .i64) mh iR) (rd (.int .i64) aB (IntKind.wrap .i64 (iR - 1))) then
 some false
 else aW.l0 k m aB dU bX mh jH (IntKind.wrap .i64 (iR + 1)) else none else none
 else aW.l0 k m aB dU bX mh jH (IntKind.wrap .i64 (iR + 1)) else none else none
 else some true := by kernel_rfl
theorem ji (k : Nat) (s_0 v_1) : aC (k + 1) s_0 v_1 =
 aC.l0 k k s_0 v_1 ((List.length s_0 : Nat) : Int) 0 := by kernel_rfl
theorem aC.aA (k m : Nat) (s_0 v_1 dS gH) : aC.l0 k (m + 1) s_0 v_1 dS gH =
 if (gH : Int) < dS then
 if 0 <= gH then
 if gH < ((List.length s_0 : Nat) : Int) then
 if Eq (α := Int) v_1 (rd (.int .i64) s_0 gH) then
 some gH
 else aC.l0 k m s_0 v_1 dS (IntKind.wrap .i64 (gH + 1)) else none else none
 else some (-1) := by kernel_rfl
theorem oZ (k : Nat) (s_0 eZ Di Dj) : aU (k + 1) s_0 eZ Di Dj =
 aU.l0 k k s_0 eZ Di Dj ((List.length s_0 : Nat) : Int) 0 := by kernel_rfl
theorem aU.aA (k m : Nat) (s_0 jA Dk Dl dS gH) : aU.l0 k (m + 1) s_0 jA Dk Dl dS gH =
 if (gH : Int) < dS then
 if 0 <= gH then
 if gH < ((List.length s_0 : Nat) : Int) then
 (su k (rd dx s_0 gH) jA Dk Dl).bind fun r1 =>
 if r1 = true then
 some gH
 else aU.l0 k m s_0 jA Dk Dl dS (IntKind.wrap .i64 (gH + 1)) else none else none
 else some (-1) := by kernel_rfl
theorem Jb (k : Nat) (iY) : jd (k + 1) iY =
 (aM k iY 13).bind fun r1 =>
 jd.l0 k k r1.1 r1.2.1 r1.2.2.1 r1.2.2.2.1 [] := by kernel_rfl
theorem jd.aA (k m : Nat) (oW bZ bQ bU s1) : jd.l0 k (m + 1) oW bZ bQ bU s1 =
 if (0 : Int) < oW then
 (ou k (bZ, (bQ, (bU, ())))).bind fun r2 =>
 (lq k s1 r2.1).bind fun r3 =>
 jd.l0 k m (IntKind.wrap .i64 (oW - 1)) r2.2.1 r2.2.2.1 r2.2.2.2.1 r3.1
 else some (s1, (bZ, (bQ, (bU, ())))) := by kernel_rfl
theorem rR (k : Nat) (x_0) : cmp_isNaN_int (k + 1) x_0 =
 some (decide ((x_0 : Int) ≠ x_0)) := by kernel_rfl
theorem FI (k : Nat) (iY) : iH (k + 1) iY =
 (lg k iY ([60, 90, 120, 50, 144])).bind fun r1 =>
 (aM k r1.2 4).bind fun r2 =>
 iH.l0 k k 0 r2.1 r2.2.1 r2.2.2.1 r2.2.2.2.1 ([(0, (r1.1, ()))]) := by kernel_rfl
theorem iH.aA (k m : Nat) (El kF bZ bQ bU s1) : iH.l0 k (m + 1) El kF bZ bQ bU s1 =
 if (0 : Int) < kF then
 (aM k (bZ, (bQ, (bU, ()))) 50).bind fun r3 =>
 (lg k r3.2 ([40, 60, 72, 100, 120, 200, 77])).bind fun r4 =>
 if (List.length s1 + List.length ([(IntKind.wrap .i64 ((IntKind.wrap .i64 (El + 1)) + r3.1), (r4.1, ()))] : (List cu))) * 16 <= 211106232532992 then
 iH.l0 k m (IntKind.wrap .i64 ((IntKind.wrap .i64 (El + 1)) + r3.1)) (IntKind.wrap .i64 (kF - 1)) r4.2.1 r4.2.2.1 r4.2.2.2.1 (s1 ++ ([(IntKind.wrap .i64 ((IntKind.wrap .i64 (El + 1)) + r3.1), (r4.1, ()))] : (List cu))) else none
 else some (s1, (bZ, (bQ, (bU, ())))) := by kernel_rfl
theorem FJ (k : Nat) (iY) : iI (k + 1) iY =
 (aM k iY 9).bind fun r1 =>
 iI.l0 k k r1.1 r1.2.1 r1.2.2.1 r1.2.2.2.1 [] := by kernel_rfl
theorem iI.aA (k m : Nat) (oW bZ bQ bU s1) : iI.l0 k (m + 1) oW bZ bQ bU s1 =
 if (0 : Int) < oW then
 (qU k (bZ, (bQ, (bU, ())))).bind fun r2 =>
 (qV k s1 r2.1).bind fun r3 =>
 iI.l0 k m (IntKind.wrap .i64 (oW - 1)) r2.2.1 r2.2.2.1 r2.2.2.2.1 r3
 else some (s1, (bZ, (bQ, (bU, ())))) := by kernel_rfl
theorem FK (k : Nat) (iY) : iJ (k + 1) iY =
 (aM k iY 6).bind fun r1 =>
 iJ.l0 k k 0 r1.1 r1.2.1 r1.2.2.1 r1.2.2.2.1 [] := by kernel_rfl
theorem iJ.aA (k m : Nat) (Yq kF bZ bQ bU s1) : iJ.l0 k (m + 1) Yq kF bZ bQ bU s1 =
 if (0 : Int) < kF then
 (aM k (bZ, (bQ, (bU, ()))) 9).bind fun r2 =>
 if (List.length s1 + List.length ([(((List.length s1 : Nat) : Int), (IntKind.wrap .i64 ((IntKind.wrap .i64 (Yq + 1)) + r2.1), ()))] : (List cu))) * 16 <= 211106232532992 then
 iJ.l0 k m (IntKind.wrap .i64 ((IntKind.wrap .i64 (Yq + 1)) + r2.1)) (IntKind.wrap .i64 (kF - 1)) r2.2.1 r2.2.2.1 r2.2.2.2.1 (s1 ++ ([(((List.length s1 : Nat) : Int), (IntKind.wrap .i64 ((IntKind.wrap .i64 (Yq + 1)) + r2.1), ()))] : (List cu))) else none
 else some (s1, (bZ, (bQ, (bU, ())))) := by kernel_rfl
theorem ig (k : Nat) (aB bB gD) : lV (k + 1) aB bB gD =
 (aK k aB).bind fun r1 =>
 if ¬ (r1 = true) then
 some ([], (false, ()))
 else (dM k bB).bind fun r2 =>
 if ¬ (r2 = true) then
 some ([], (false, ()))
 else (eY k gD 1 4).bind fun r3 =>
 if ¬ (r3 = true) then
 some ([], (false, ()))
 else (bW k aB bB gD []).bind fun r4 =>
 some (r4.1, (decide (r4.2.1 = true), ())) := by kernel_rfl
theorem Dv (k : Nat) (x_0 Gs yK) : eY (k + 1) x_0 Gs yK =
 if (Gs : Int) <= x_0 then
 some (decide ((x_0 : Int) <= yK))
 else some false := by kernel_rfl
theorem uE (k : Nat) (bq OA Ww) : mI (k + 1) bq OA Ww =
 if ¬ (Ww = true) then
 (jV k bq).bind fun r1 =>
 some (r1, (false, ()))
 else (fU k OA).bind fun r2 =>
 if ¬ (r2 = true) then
 (jV k bq).bind fun r3 =>
 some (r3, (false, ()))
 else some (OA, (true, ())) := by kernel_rfl
theorem kJ (k : Nat) (aB x_1) : qV (k + 1) aB x_1 =
 (je k aB x_1).bind fun r1 =>
 (dY k aB).bind fun r2 =>
 if ¬ (r2 = true) then
 if (List.length ([] : (List bf)) + List.length aB) * 40 <= 211106232532992 then
 some (([] : (List bf)) ++ aB) else none
 else (dY k r1).bind fun r3 =>
 if ¬ (r3 = true) then
 if (List.length ([] : (List bf)) + List.length aB) * 40 <= 211106232532992 then
 some (([] : (List bf)) ++ aB) else none
 else some r1 := by kernel_rfl
theorem vW (k : Nat) (a_0 b_1) : eH (k + 1) a_0 b_1 =
 if (((List.length a_0 : Nat) : Int) : Int) ≠ ((List.length b_1 : Nat) : Int) then
 some false
 else eH.l0 k k a_0 b_1 0 := by kernel_rfl
theorem eH.aA (k m : Nat) (a_0 b_1 kF) : eH.l0 k (m + 1) a_0 b_1 kF =
 if (kF : Int) < ((List.length a_0 : Nat) : Int) then
 if 0 <= kF then
 if kF < ((List.length a_0 : Nat) : Int) then
 if 0 <= kF then
 if kF < ((List.length b_1 : Nat) : Int) then
 if ¬ ((((rd eP a_0 kF).1 : Int) = (rd eP b_1 kF).1) /\ ((((rd eP a_0 kF).2.1 : Int) = (rd eP b_1 kF).2.1) /\ ((((rd eP a_0 kF).2.2.1 : Int) = (rd eP b_1 kF).2.2.1) /\ ((((rd eP a_0 kF).2.2.2.1 : Int) = (rd eP b_1 kF).2.2.2.1) /\ (((rd eP a_0 kF).2.2.2.2.1 : Int) = (rd eP b_1 kF).2.2.2.2.1))))) then
 some false
 else eH.l0 k m a_0 b_1 (IntKind.wrap .i64 (kF + 1)) else none else none else none else none
 else some true := by kernel_rfl
theorem OB (k : Nat) (a_0 b_1) : IU (k + 1) a_0 b_1 =
 if (b_1 : Int) < a_0 then
 some b_1
 else some a_0 := by kernel_rfl
theorem oM (k : Nat) (bq a_1) : jm (k + 1) bq a_1 =
 (xq k bq.1 a_1).bind fun r1 =>
 some (decide (r1.2.1 = true), (r1.1, (bq.2.1, (bq.2.2.1, (bq.2.2.2.1, (bq.2.2.2.2.1, (bq.2.2.2.2.2.1, (bq.2.2.2.2.2.2.1, (IntKind.wrap .i64 (bq.2.2.2.2.2.2.2.1 + 1), bq.2.2.2.2.2.2.2.2))))))))) := by kernel_rfl
theorem Bd (k : Nat) (bq a_1) : lW (k + 1) bq a_1 =
 (vR k bq.1 a_1).bind fun r1 =>
 some (decide (r1.2.1 = true), (r1.1, (bq.2.1, (bq.2.2.1, (bq.2.2.2.1, (bq.2.2.2.2.1, (bq.2.2.2.2.2.1, (bq.2.2.2.2.2.2.1, (IntKind.wrap .i64 (bq.2.2.2.2.2.2.2.1 + 1), bq.2.2.2.2.2.2.2.2))))))))) := by kernel_rfl
theorem Bf (k : Nat) (bq a_1) : lX (k + 1) bq a_1 =
 (aY k bq.2.2.1 a_1).bind fun r1 =>
 if (r1 : Int) < 0 then
 if (List.length bq.2.2.1 + List.length ([a_1] : (List cu))) * 16 <= 211106232532992 then
 some (true, (bq.1, (bq.2.1, ((bq.2.2.1 ++ ([a_1] : (List cu))), bq.2.2.2)))) else none
 else if 0 <= r1 then
 if r1 < ((List.length bq.2.2.1 : Nat) : Int) then
 if Eq (α := Int) (rd dV bq.2.2.1 r1).1 a_1.1 then
 if 0 <= r1 then
 if r1 < ((List.length bq.2.2.1 : Nat) : Int) then
 some (true, (bq.1, (bq.2.1, ((List.set bq.2.2.1 (Int.toNat r1) a_1), bq.2.2.2)))) else none else none
 else (lu k bq.2.2.1 r1 [a_1]).bind fun r2 =>
 some (true, (bq.1, (bq.2.1, (r2, bq.2.2.2)))) else none else none := by kernel_rfl
theorem Cm (k : Nat) (bq a_1) : mR (k + 1) bq a_1 =
 (sw k bq.2.2.2.1 bq.1 a_1).bind fun r1 =>
 some (decide (r1.2.1 = true), (bq.1, (bq.2.1, (bq.2.2.1, (bq.2.2.2.1, (r1.1, bq.2.2.2.2.2)))))) := by kernel_rfl
theorem lK (k : Nat) (bq a_1) : ku (k + 1) bq a_1 =
 (aV k bq.2.2.2.1 a_1).bind fun r1 =>
 if (r1 : Int) < 0 then
 some (false, bq)
 else (aC k bq.2.2.2.2.1 a_1).bind fun r2 =>
 if (0 : Int) <= r2 then
 (dP k bq.2.2.2.1 bq.1 bq.2.2.2.2.1 (IntKind.wrap .i64 (r2 + 1))).bind fun r3 =>
 if ¬ (r3.2.1 = true) then
 some (false, bq)
 else if 0 <= r2 then
 if r2 < ((List.length bq.2.2.2.2.1 : Nat) : Int) then
 (jk k bq.2.2.2.1 r1 (IntKind.wrap .i64 (r1 + 1))).bind fun r4 =>
 some (true, (bq.1, (bq.2.1, (bq.2.2.1, (r4, ((List.set bq.2.2.2.2.1 (Int.toNat r2) r3.1), bq.2.2.2.2.2)))))) else none else none
 else (jk k bq.2.2.2.1 r1 (IntKind.wrap .i64 (r1 + 1))).bind fun r5 =>
 some (true, (bq.1, (bq.2.1, (bq.2.2.1, (r5, bq.2.2.2.2))))) := by kernel_rfl
theorem Cn (k : Nat) (bq a_1) : dA (k + 1) bq a_1 =
 dA.l0 k k a_1 0 ((List.length bq.2.2.2.1 : Nat) : Int) 0 bq.2.1.1 bq.2.1.2.1 bq.2.2.2.2.2.2.2.1 bq.2.2.2.2.2.2.2.2.1 bq.2.2.2.1 bq.1 bq.2.2.1 bq.2.2.2.2.1 bq.2.2.2.2.2.1 bq.2.2.2.2.2.2.1 := by kernel_rfl
theorem dA.aA (k m : Nat) (t_1 El iR jU bQ bU zi zk s1 s2 s3 s4 s5 s6) : dA.l0 k (m + 1) t_1 El iR jU bQ bU zi zk s1 s2 s3 s4 s5 s6 =
 if (jU : Int) < iR then
 if 0 <= jU then
 if jU < ((List.length s1 : Nat) : Int) then
 if Eq (α := Int) (rd dx s1 jU).1 t_1.1 then
 some (false, (s2, ((bQ, (bU, ())), (s3, (s1, (s4, (s5, (s6, (zi, (zk, ()))))))))))
 else if LT.lt (α := Int) (rd dx s1 jU).1 t_1.1 then
 dA.l0 k m t_1 (IntKind.wrap .i64 (El + 1)) iR (IntKind.wrap .i64 (jU + 1)) bQ bU zi zk s1 s2 s3 s4 s5 s6
 else dA.l0 k m t_1 El iR (IntKind.wrap .i64 (jU + 1)) bQ bU zi zk s1 s2 s3 s4 s5 s6 else none else none
 else (oq k t_1).bind fun r1 =>
 (kH k s1 El [r1]).bind fun r2 =>
 some (true, (s2, ((bQ, (bU, ())), (s3, (r2, (s4, (s5, (s6, (zi, (zk, ())))))))))) := by kernel_rfl
theorem Co (k : Nat) (bq a_1 a_2 Wx a_4) : mU (k + 1) bq a_1 a_2 Wx a_4 =
 (yL k bq.2.2.2.2.2.1 (a_1, (a_2, (Wx, (bq.2.2.2.2.2.2.2.2.1, (a_4, ())))))).bind fun r1 =>
 (bJ k bq.2.2.2.2.2.1 r1).bind fun r2 =>
 some (decide (¬ (r2 = true)), (bq.1, (bq.2.1, (bq.2.2.1, (bq.2.2.2.1, (bq.2.2.2.2.1, (r1, bq.2.2.2.2.2.2))))))) := by kernel_rfl
theorem qj (k : Nat) (bq a_1) : mV (k + 1) bq a_1 =
 (aT k a_1 1 1000).bind fun r1 =>
 if ¬ (r1 = true) then
 some (false, bq)
 else (aT k bq.2.2.2.2.2.2.2.2.1 0 100000).bind fun r2 =>
 if ¬ (r2 = true) then
 some (false, bq)
 else some (true, (bq.1, (bq.2.1, (bq.2.2.1, (bq.2.2.2.1, (bq.2.2.2.2.1, (bq.2.2.2.2.2.1, (bq.2.2.2.2.2.2.1, (bq.2.2.2.2.2.2.2.1, (IntKind.wrap .i64 (bq.2.2.2.2.2.2.2.2.1 + a_1), ())))))))))) := by kernel_rfl
theorem FL (k : Nat) (aB) : gY (k + 1) aB =
 gY.l0 k k aB 0 [] := by kernel_rfl
theorem gY.aA (k m : Nat) (aB oW s0) : gY.l0 k (m + 1) aB oW s0 =
 if (oW : Int) < ((List.length aB : Nat) : Int) then
 if 0 <= oW then
 if oW < ((List.length aB : Nat) : Int) then
 if (List.length ([] : (List Int)) + List.length (rd dx aB oW).2.2.2.1) * 8 <= 211106232532992 then
 if (List.length s0 + List.length ([((rd dx aB oW).1, ((rd dx aB oW).2.1, ((rd dx aB oW).2.2.1, ((([] : (List Int)) ++ (rd dx aB oW).2.2.2.1), ()))))] : (List bF))) * 48 <= 211106232532992 then
 gY.l0 k m aB (IntKind.wrap .i64 (oW + 1)) (s0 ++ ([((rd dx aB oW).1, ((rd dx aB oW).2.1, ((rd dx aB oW).2.2.1, ((([] : (List Int)) ++ (rd dx aB oW).2.2.2.1), ()))))] : (List bF))) else none else none else none else none
 else some s0 := by kernel_rfl
theorem FM (k : Nat) (aB) : dM (k + 1) aB =
 dM.l0 k k aB 0 := by kernel_rfl
theorem dM.aA (k m : Nat) (aB iQ) : dM.l0 k (m + 1) aB iQ =
 if (iQ : Int) < ((List.length aB : Nat) : Int) then
 if 0 <= iQ then
 if iQ < ((List.length aB : Nat) : Int) then
 (En k (rd bL aB iQ)).bind fun r1 =>
 if ¬ (r1 = true) then
 some false
 else if (0 : Int) < iQ then
 if 0 <= (IntKind.wrap .i64 (iQ - 1)) then
 if (IntKind.wrap .i64 (iQ - 1)) < ((List.length aB : Nat) : Int) then
 if 0 <= iQ then
 if iQ < ((List.length aB : Nat) : Int) then
 (sV k (rd bL aB (IntKind.wrap .i64 (iQ - 1))) (rd bL aB iQ)).bind fun r2 =>
 if ¬ (r2 = true) then
 some false
 else dM.l0 k m aB (IntKind.wrap .i64 (iQ + 1)) else none else none else none else none
 else dM.l0 k m aB (IntKind.wrap .i64 (iQ + 1)) else none else none
 else some (decide ((((List.length aB : Nat) : Int) : Int) <= 40)) := by kernel_rfl
theorem gV (k : Nat) (JF) : uU (k + 1) JF =
 (eY k JF.1 1 12).bind fun r1 =>
 if r1 = true then
 if (JF.2.1 : Int) = 1 then
 some true
 else if (JF.2.1 : Int) = 2 then
 some true
 else if (JF.2.1 : Int) = 4 then
 some true
 else some (decide ((JF.2.1 : Int) = 8))
 else some false := by kernel_rfl
theorem FN (k : Nat) (aB) : fE (k + 1) aB =
 fE.l0 k k aB 0 := by kernel_rfl
theorem fE.aA (k m : Nat) (aB iQ) : fE.l0 k (m + 1) aB iQ =
 if (iQ : Int) < ((List.length aB : Nat) : Int) then
 if 0 <= iQ then
 if iQ < ((List.length aB : Nat) : Int) then
 (eY k (rd dV aB iQ).2.1 20 300).bind fun r1 =>
 if ¬ (r1 = true) then
 some false
 else if 0 <= iQ then
 if iQ < ((List.length aB : Nat) : Int) then
 (eY k (rd dV aB iQ).1 0 2000).bind fun r2 =>
 if ¬ (r2 = true) then
 some false
 else if (iQ : Int) = 0 then
 if 0 <= iQ then
 if iQ < ((List.length aB : Nat) : Int) then
 if Ne (α := Int) (rd dV aB iQ).1 0 then
 some false
 else if (0 : Int) < iQ then
 if 0 <= (IntKind.wrap .i64 (iQ - 1)) then
 if (IntKind.wrap .i64 (iQ - 1)) < ((List.length aB : Nat) : Int) then
 if 0 <= iQ then
 if iQ < ((List.length aB : Nat) : Int) then
 if LE.le (α := Int) (rd dV aB iQ).1 (rd dV aB (IntKind.wrap .i64 (iQ - 1))).1 then
 some false
 else fE.l0 k m aB (IntKind.wrap .i64 (iQ + 1)) else none else none else none else none
 else fE.l0 k m aB (IntKind.wrap .i64 (iQ + 1)) else none else none
 else if (0 : Int) < iQ then
 if 0 <= (IntKind.wrap .i64 (iQ - 1)) then
 if (IntKind.wrap .i64 (iQ - 1)) < ((List.length aB : Nat) : Int) then
 if 0 <= iQ then
 if iQ < ((List.length aB : Nat) : Int) then
 if LE.le (α := Int) (rd dV aB iQ).1 (rd dV aB (IntKind.wrap .i64 (iQ - 1))).1 then
 some false
 else fE.l0 k m aB (IntKind.wrap .i64 (iQ + 1)) else none else none else none else none
 else fE.l0 k m aB (IntKind.wrap .i64 (iQ + 1)) else none else none else none else none
 else (eY k ((List.length aB : Nat) : Int) 1 8).bind fun r3 =>
 some (decide (r3 = true)) := by kernel_rfl
theorem EC (k : Nat) (aB) : dY (k + 1) aB =
 dY.l0 k k aB 0 := by kernel_rfl
theorem dY.aA (k m : Nat) (aB iQ) : dY.l0 k (m + 1) aB iQ =
 if (iQ : Int) < ((List.length aB : Nat) : Int) then
 if 0 <= iQ then
 if iQ < ((List.length aB : Nat) : Int) then
 (eY k (rd eP aB iQ).1 1 100).bind fun r1 =>
 if ¬ (r1 = true) then
 some false
 else (eY k (rd eP aB iQ).2.1 1 4).bind fun r2 =>
 if ¬ (r2 = true) then
 some false
 else (eY k (rd eP aB iQ).2.2.1 0 9).bind fun r3 =>
 if ¬ (r3 = true) then
 some false
 else (eY k (rd eP aB iQ).2.2.2.1 0 100000).bind fun r4 =>
 if ¬ (r4 = true) then
 some false
 else (eY k (rd eP aB iQ).2.2.2.2.1 1 99).bind fun r5 =>
 if ¬ (r5 = true) then
 some false
 else if (0 : Int) < iQ then
 if 0 <= (IntKind.wrap .i64 (iQ - 1)) then
 if (IntKind.wrap .i64 (iQ - 1)) < ((List.length aB : Nat) : Int) then
 (qW k (rd eP aB (IntKind.wrap .i64 (iQ - 1))) (rd eP aB iQ)).bind fun r6 =>
 if ¬ (r6 = true) then
 some false
 else dY.l0 k m aB (IntKind.wrap .i64 (iQ + 1)) else none else none
 else dY.l0 k m aB (IntKind.wrap .i64 (iQ + 1)) else none else none
 else some (decide ((((List.length aB : Nat) : Int) : Int) <= 30)) := by kernel_rfl
theorem Cq (k : Nat) (aB) : eB (k + 1) aB =
 eB.l0 k k aB 0 := by kernel_rfl
theorem eB.aA (k m : Nat) (aB iQ) : eB.l0 k (m + 1) aB iQ =
 if (iQ : Int) < ((List.length aB : Nat) : Int) then
 if 0 <= iQ then
 if iQ < ((List.length aB : Nat) : Int) then
 if Ne (α := Int) (rd dV aB iQ).1 iQ then
 some false
 else if 0 <= iQ then
 if iQ < ((List.length aB : Nat) : Int) then
 (eY k (rd dV aB iQ).2.1 1 500).bind fun r1 =>
 if ¬ (r1 = true) then
 some false
 else if (0 : Int) < iQ then
 if 0 <= (IntKind.wrap .i64 (iQ - 1)) then
 if (IntKind.wrap .i64 (iQ - 1)) < ((List.length aB : Nat) : Int) then
 if 0 <= iQ then
 if iQ < ((List.length aB : Nat) : Int) then
 if LE.le (α := Int) (rd dV aB iQ).2.1 (rd dV aB (IntKind.wrap .i64 (iQ - 1))).2.1 then
 some false
 else eB.l0 k m aB (IntKind.wrap .i64 (iQ + 1)) else none else none else none else none
 else eB.l0 k m aB (IntKind.wrap .i64 (iQ + 1)) else none else none else none else none
 else some (decide ((((List.length aB : Nat) : Int) : Int) <= 26)) := by kernel_rfl
theorem Dw (k : Nat) (aB bB bS) : aX (k + 1) aB bB bS =
 aX.l0 k k aB bB bS 0 := by kernel_rfl
theorem aX.aA (k m : Nat) (aB bB bS Bu) : aX.l0 k (m + 1) aB bB bS Bu =
 if (Bu : Int) < ((List.length bS : Nat) : Int) then
 aX.l1 k k m aB bB bS Bu false 0
 else (aK k aB).bind fun r1 =>
 if r1 = true then
 (dM k bB).bind fun r2 =>
 if r2 = true then
 some (decide ((((List.length bS : Nat) : Int) : Int) <= 4))
 else some false
 else some false := by kernel_rfl
theorem aX.Bw (k m m1 : Nat) (aB bB bS Bu Em Sn) : aX.l1 k (m + 1) m1 aB bB bS Bu Em Sn =
 if (Sn : Int) < ((List.length aB : Nat) : Int) then
 if Em = true then
 aX.l1 k m m1 aB bB bS Bu true (IntKind.wrap .i64 (Sn + 1))
 else if 0 <= Sn then
 if Sn < ((List.length aB : Nat) : Int) then
 if 0 <= Bu then
 if Bu < ((List.length bS : Nat) : Int) then
 if Eq (α := Int) (rd dx aB Sn).1 (rd (.int .i64) bS Bu) then
 if 0 <= Sn then
 if Sn < ((List.length aB : Nat) : Int) then
 (uV k (rd dx aB Sn) bB (IntKind.wrap .i64 (Bu + 1))).bind fun r3 =>
 aX.l1 k m m1 aB bB bS Bu (decide (r3 = true)) (IntKind.wrap .i64 (Sn + 1)) else none else none
 else aX.l1 k m m1 aB bB bS Bu false (IntKind.wrap .i64 (Sn + 1)) else none else none else none else none
 else if ¬ (Em = true) then
 some false
 else if 0 <= Bu then
 if Bu <= ((List.length bS : Nat) : Int) then
 if 0 <= Bu then
 if Bu < ((List.length bS : Nat) : Int) then
 (gQ k (List.take ((Int.toNat Bu) - (Int.toNat 0)) (List.drop (Int.toNat 0) bS)) (rd (.int .i64) bS Bu)).bind fun r4 =>
 if r4 = true then
 some false
 else aX.l0 k m1 aB bB bS (IntKind.wrap .i64 (Bu + 1)) else none else none else none else none := by kernel_rfl
theorem JX (k : Nat) (aB e_1) : jL (k + 1) aB e_1 =
 jL.l0 k k aB 0 e_1.1 e_1.2.1 e_1.2.2.1 e_1.2.2.2.1 := by kernel_rfl
theorem jL.aA (k m : Nat) (aB eG bZ bQ bU fQ) : jL.l0 k (m + 1) aB eG bZ bQ bU fQ =
 if (eG : Int) < ((List.length aB : Nat) : Int) then
 if 0 <= eG then
 if eG < ((List.length aB : Nat) : Int) then
 (sV k (rd bL aB eG) (bZ, (bQ, (bU, (fQ, ()))))).bind fun r1 =>
 if r1 = true then
 jL.l0 k m aB (IntKind.wrap .i64 (eG + 1)) bZ bQ bU fQ
 else if 0 <= eG then
 if eG <= ((List.length aB : Nat) : Int) then
 if (List.length ([] : (List aF)) + List.length (List.take ((Int.toNat eG) - (Int.toNat 0)) (List.drop (Int.toNat 0) aB))) * 32 <= 211106232532992 then
 if (List.length (([] : (List aF)) ++ (List.take ((Int.toNat eG) - (Int.toNat 0)) (List.drop (Int.toNat 0) aB))) + List.length ([(bZ, (bQ, (bU, (fQ, ()))))] : (List aF))) * 32 <= 211106232532992 then
 if 0 <= eG then
 if eG <= ((List.length aB : Nat) : Int) then
 if (List.length ((([] : (List aF)) ++ (List.take ((Int.toNat eG) - (Int.toNat 0)) (List.drop (Int.toNat 0) aB))) ++ ([(bZ, (bQ, (bU, (fQ, ()))))] : (List aF))) + List.length (List.take ((Int.toNat ((List.length aB : Nat) : Int)) - (Int.toNat eG)) (List.drop (Int.toNat eG) aB))) * 32 <= 211106232532992 then
 some (((([] : (List aF)) ++ (List.take ((Int.toNat eG) - (Int.toNat 0)) (List.drop (Int.toNat 0) aB))) ++ ([(bZ, (bQ, (bU, (fQ, ()))))] : (List aF))) ++ (List.take ((Int.toNat ((List.length aB : Nat) : Int)) - (Int.toNat eG)) (List.drop (Int.toNat eG) aB))) else none else none else none else none else none else none else none else none else none
 else if 0 <= eG then
 if eG <= ((List.length aB : Nat) : Int) then
 if (List.length ([] : (List aF)) + List.length (List.take ((Int.toNat eG) - (Int.toNat 0)) (List.drop (Int.toNat 0) aB))) * 32 <= 211106232532992 then
 if (List.length (([] : (List aF)) ++ (List.take ((Int.toNat eG) - (Int.toNat 0)) (List.drop (Int.toNat 0) aB))) + List.length ([(bZ, (bQ, (bU, (fQ, ()))))] : (List aF))) * 32 <= 211106232532992 then
 if 0 <= eG then
 if eG <= ((List.length aB : Nat) : Int) then
 if (List.length ((([] : (List aF)) ++ (List.take ((Int.toNat eG) - (Int.toNat 0)) (List.drop (Int.toNat 0) aB))) ++ ([(bZ, (bQ, (bU, (fQ, ()))))] : (List aF))) + List.length (List.take ((Int.toNat ((List.length aB : Nat) : Int)) - (Int.toNat eG)) (List.drop (Int.toNat eG) aB))) * 32 <= 211106232532992 then
 some (((([] : (List aF)) ++ (List.take ((Int.toNat eG) - (Int.toNat 0)) (List.drop (Int.toNat 0) aB))) ++ ([(bZ, (bQ, (bU, (fQ, ()))))] : (List aF))) ++ (List.take ((Int.toNat ((List.length aB : Nat) : Int)) - (Int.toNat eG)) (List.drop (Int.toNat eG) aB))) else none else none else none else none else none else none else none := by kernel_rfl
theorem uN (k : Nat) (p_0 a_1 a_2 Wx) : su (k + 1) p_0 a_1 a_2 Wx =
 if (p_0.1 : Int) = a_1 then
 (jT k p_0 a_2 (IntKind.wrap .i64 (Wx + 1))).bind fun r1 =>
 some (decide (r1 = true))
 else some false := by kernel_rfl
theorem Cr (k : Nat) (aB) : aK (k + 1) aB =
 aK.l0 k k aB 0 := by kernel_rfl
theorem aK.aA (k m : Nat) (aB iQ) : aK.l0 k (m + 1) aB iQ =
 if (iQ : Int) < ((List.length aB : Nat) : Int) then
 if 0 <= iQ then
 if iQ < ((List.length aB : Nat) : Int) then
 (eY k (rd dx aB iQ).1 1 99).bind fun r1 =>
 if ¬ (r1 = true) then
 some false
 else if LT.lt (α := Int) (rd dx aB iQ).2.1 21 then
 some false
 else if LT.lt (α := Int) (rd dx aB iQ).2.2.1 (rd dx aB iQ).2.1 then
 some false
 else if LT.lt (α := Int) 108 (rd dx aB iQ).2.2.1 then
 some false
 else if (0 : Int) < iQ then
 if 0 <= (IntKind.wrap .i64 (iQ - 1)) then
 if (IntKind.wrap .i64 (iQ - 1)) < ((List.length aB : Nat) : Int) then
 if LE.le (α := Int) (rd dx aB iQ).1 (rd dx aB (IntKind.wrap .i64 (iQ - 1))).1 then
 some false
 else aK.l1 k k m aB iQ 0 (rd dx aB iQ).1 (rd dx aB iQ).2.1 (rd dx aB iQ).2.2.1 (rd dx aB iQ).2.2.2.1 else none else none
 else aK.l1 k k m aB iQ 0 (rd dx aB iQ).1 (rd dx aB iQ).2.1 (rd dx aB iQ).2.2.1 (rd dx aB iQ).2.2.2.1 else none else none
 else some (decide ((((List.length aB : Nat) : Int) : Int) <= 8)) := by kernel_rfl
theorem aK.Bw (k m m1 : Nat) (aB iQ eG bZ bQ bU fQ) : aK.l1 k (m + 1) m1 aB iQ eG bZ bQ bU fQ =
 if (eG : Int) < ((List.length fQ : Nat) : Int) then
 if 0 <= eG then
 if eG < ((List.length fQ : Nat) : Int) then
 (eY k (rd (.int .i64) fQ eG) 1 4).bind fun r2 =>
 if ¬ (r2 = true) then
 some false
 else if (0 : Int) < eG then
 if 0 <= (IntKind.wrap .i64 (eG - 1)) then
 if (IntKind.wrap .i64 (eG - 1)) < ((List.length fQ : Nat) : Int) then
 if 0 <= eG then
 if eG < ((List.length fQ : Nat) : Int) then
 if LE.le (α := Int) (rd (.int .i64) fQ eG) (rd (.int .i64) fQ (IntKind.wrap .i64 (eG - 1))) then
 some false
 else aK.l1 k m m1 aB iQ (IntKind.wrap .i64 (eG + 1)) bZ bQ bU fQ else none else none else none else none
 else aK.l1 k m m1 aB iQ (IntKind.wrap .i64 (eG + 1)) bZ bQ bU fQ else none else none
 else aK.l0 k m1 aB (IntKind.wrap .i64 (iQ + 1)) := by kernel_rfl
theorem pO (k : Nat) (aB bB gD jW) : bW (k + 1) aB bB gD jW =
 if (((List.length jW : Nat) : Int) : Int) = gD then
 if (List.length ([] : (List Int)) + List.length jW) * 8 <= 211106232532992 then
 some ((([] : (List Int)) ++ jW), (true, ())) else none
 else bW.l0 k k aB bB gD jW 0 := by kernel_rfl
theorem bW.aA (k m : Nat) (aB bB gD jW Ae) : bW.l0 k (m + 1) aB bB gD jW Ae =
 if (Ae : Int) < ((List.length aB : Nat) : Int) then
 if 0 <= Ae then
 if Ae < ((List.length aB : Nat) : Int) then
 (gQ k jW (rd dx aB Ae).1).bind fun r1 =>
 if r1 = true then
 bW.l0 k m aB bB gD jW (IntKind.wrap .i64 (Ae + 1))
 else if 0 <= Ae then
 if Ae < ((List.length aB : Nat) : Int) then
 (uV k (rd dx aB Ae) bB (IntKind.wrap .i64 (((List.length jW : Nat) : Int) + 1))).bind fun r2 =>
 if ¬ (r2 = true) then
 bW.l0 k m aB bB gD jW (IntKind.wrap .i64 (Ae + 1))
 else if (List.length ([] : (List Int)) + List.length jW) * 8 <= 211106232532992 then
 if 0 <= Ae then
 if Ae < ((List.length aB : Nat) : Int) then
 if (List.length (([] : (List Int)) ++ jW) + List.length ([(rd dx aB Ae).1] : (List Int))) * 8 <= 211106232532992 then
 (bW k aB bB gD ((([] : (List Int)) ++ jW) ++ ([(rd dx aB Ae).1] : (List Int)))).bind fun r3 =>
 if r3.2.1 = true then
 some (r3.1, (true, ()))
 else bW.l0 k m aB bB gD jW (IntKind.wrap .i64 (Ae + 1)) else none else none else none else none else none else none else none else none
 else some ([], (false, ())) := by kernel_rfl
theorem Jc (k : Nat) (aB x_1) : je (k + 1) aB x_1 =
 je.l0 k k aB 0 x_1.1 x_1.2.1 x_1.2.2.1 x_1.2.2.2.1 x_1.2.2.2.2.1 := by kernel_rfl
theorem je.aA (k m : Nat) (aB eG bZ bQ bU fQ kS) : je.l0 k (m + 1) aB eG bZ bQ bU fQ kS =
 if (eG : Int) < ((List.length aB : Nat) : Int) then
 if 0 <= eG then
 if eG < ((List.length aB : Nat) : Int) then
 (qW k (rd eP aB eG) (bZ, (bQ, (bU, (fQ, (kS, ())))))).bind fun r1 =>
 if r1 = true then
 je.l0 k m aB (IntKind.wrap .i64 (eG + 1)) bZ bQ bU fQ kS
 else if 0 <= eG then
 if eG <= ((List.length aB : Nat) : Int) then
 if (0 : Int) < ((List.length (List.take ((Int.toNat ((List.length aB : Nat) : Int)) - (Int.toNat eG)) (List.drop (Int.toNat eG) aB)) : Nat) : Int) then
 if 0 <= 0 then
 if 0 < ((List.length (List.take ((Int.toNat ((List.length aB : Nat) : Int)) - (Int.toNat eG)) (List.drop (Int.toNat eG) aB)) : Nat) : Int) then
 if Eq (α := Int) (rd eP (List.take ((Int.toNat ((List.length aB : Nat) : Int)) - (Int.toNat eG)) (List.drop (Int.toNat eG) aB)) 0).1 bZ then
 if 0 <= 0 then
 if 0 < ((List.length (List.take ((Int.toNat ((List.length aB : Nat) : Int)) - (Int.toNat eG)) (List.drop (Int.toNat eG) aB)) : Nat) : Int) then
 if Eq (α := Int) (rd eP (List.take ((Int.toNat ((List.length aB : Nat) : Int)) - (Int.toNat eG)) (List.drop (Int.toNat eG) aB)) 0).2.1 bQ then
 if 0 <= 0 then
 if 0 < ((List.length (List.take ((Int.toNat ((List.length aB : Nat) : Int)) - (Int.toNat eG)) (List.drop (Int.toNat eG) aB)) : Nat) : Int) then
 (uW k (bZ, (bQ, (bU, (fQ, (kS, ()))))) (rd eP (List.take ((Int.toNat ((List.length aB : Nat) : Int)) - (Int.toNat eG)) (List.drop (Int.toNat eG) aB)) 0)).bind fun r2 =>
 if ¬ (r2 = true) then
 if (List.length ([] : (List bf)) + List.length aB) * 40 <= 211106232532992 then
 some (([] : (List bf)) ++ aB) else none
 else if 0 <= 1 then
 if 1 <= ((List.length (List.take ((Int.toNat ((List.length aB : Nat) : Int)) - (Int.toNat eG)) (List.drop (Int.toNat eG) aB)) : Nat) : Int) then
 if 0 <= eG then
 if eG <= ((List.length aB : Nat) : Int) then
 if (List.length ([] : (List bf)) + List.length (List.take ((Int.toNat eG) - (Int.toNat 0)) (List.drop (Int.toNat 0) aB))) * 40 <= 211106232532992 then
 if (List.length (([] : (List bf)) ++ (List.take ((Int.toNat eG) - (Int.toNat 0)) (List.drop (Int.toNat 0) aB))) + List.length ([(bZ, (bQ, (bU, (fQ, (kS, ())))))] : (List bf))) * 40 <= 211106232532992 then
 if (List.length ((([] : (List bf)) ++ (List.take ((Int.toNat eG) - (Int.toNat 0)) (List.drop (Int.toNat 0) aB))) ++ ([(bZ, (bQ, (bU, (fQ, (kS, ())))))] : (List bf))) + List.length (List.take ((Int.toNat ((List.length (List.take ((Int.toNat ((List.length aB : Nat) : Int)) - (Int.toNat eG)) (List.drop (Int.toNat eG) aB)) : Nat) : Int)) - (Int.toNat 1)) (List.drop (Int.toNat 1) (List.take ((Int.toNat ((List.length aB : Nat) : Int)) - (Int.toNat eG)) (List.drop (Int.toNat eG) aB))))) * 40 <= 211106232532992 then
 some (((([] : (List bf)) ++ (List.take ((Int.toNat eG) - (Int.toNat 0)) (List.drop (Int.toNat 0) aB))) ++ ([(bZ, (bQ, (bU, (fQ, (kS, ())))))] : (List bf))) ++ (List.take ((Int.toNat ((List.length (List.take ((Int.toNat ((List.length aB : Nat) : Int)) - (Int.toNat eG)) (List.drop (Int.toNat eG) aB)) : Nat) : Int)) - (Int.toNat 1)) (List.drop (Int.toNat 1) (List.take ((Int.toNat ((List.length aB : Nat) : Int)) - (Int.toNat eG)) (List.drop (Int.toNat eG) aB))))) else none else none else none else none else none else none else none else none else none
 else if 0 <= eG then
 if eG <= ((List.length aB : Nat) : Int) then
 if (List.length ([] : (List bf)) + List.length (List.take ((Int.toNat eG) - (Int.toNat 0)) (List.drop (Int.toNat 0) aB))) * 40 <= 211106232532992 then
 if (List.length (([] : (List bf)) ++ (List.take ((Int.toNat eG) - (Int.toNat 0)) (List.drop (Int.toNat 0) aB))) + List.length ([(bZ, (bQ, (bU, (fQ, (kS, ())))))] : (List bf))) * 40 <= 211106232532992 then
 if (List.length ((([] : (List bf)) ++ (List.take ((Int.toNat eG) - (Int.toNat 0)) (List.drop (Int.toNat 0) aB))) ++ ([(bZ, (bQ, (bU, (fQ, (kS, ())))))] : (List bf))) + List.length (List.take ((Int.toNat ((List.length aB : Nat) : Int)) - (Int.toNat eG)) (List.drop (Int.toNat eG) aB))) * 40 <= 211106232532992 then
 some (((([] : (List bf)) ++ (List.take ((Int.toNat eG) - (Int.toNat 0)) (List.drop (Int.toNat 0) aB))) ++ ([(bZ, (bQ, (bU, (fQ, (kS, ())))))] : (List bf))) ++ (List.take ((Int.toNat ((List.length aB : Nat) : Int)) - (Int.toNat eG)) (List.drop (Int.toNat eG) aB))) else none else none else none else none else none else none else none
 else if 0 <= eG then
 if eG <= ((List.length aB : Nat) : Int) then
 if (List.length ([] : (List bf)) + List.length (List.take ((Int.toNat eG) - (Int.toNat 0)) (List.drop (Int.toNat 0) aB))) * 40 <= 211106232532992 then
 if (List.length (([] : (List bf)) ++ (List.take ((Int.toNat eG) - (Int.toNat 0)) (List.drop (Int.toNat 0) aB))) + List.length ([(bZ, (bQ, (bU, (fQ, (kS, ())))))] : (List bf))) * 40 <= 211106232532992 then
 if (List.length ((([] : (List bf)) ++ (List.take ((Int.toNat eG) - (Int.toNat 0)) (List.drop (Int.toNat 0) aB))) ++ ([(bZ, (bQ, (bU, (fQ, (kS, ())))))] : (List bf))) + List.length (List.take ((Int.toNat ((List.length aB : Nat) : Int)) - (Int.toNat eG)) (List.drop (Int.toNat eG) aB))) * 40 <= 211106232532992 then
 some (((([] : (List bf)) ++ (List.take ((Int.toNat eG) - (Int.toNat 0)) (List.drop (Int.toNat 0) aB))) ++ ([(bZ, (bQ, (bU, (fQ, (kS, ())))))] : (List bf))) ++ (List.take ((Int.toNat ((List.length aB : Nat) : Int)) - (Int.toNat eG)) (List.drop (Int.toNat eG) aB))) else none else none else none else none else none else none else none
 else if 0 <= eG then
 if eG <= ((List.length aB : Nat) : Int) then
 if (List.length ([] : (List bf)) + List.length (List.take ((Int.toNat eG) - (Int.toNat 0)) (List.drop (Int.toNat 0) aB))) * 40 <= 211106232532992 then
 if (List.length (([] : (List bf)) ++ (List.take ((Int.toNat eG) - (Int.toNat 0)) (List.drop (Int.toNat 0) aB))) + List.length ([(bZ, (bQ, (bU, (fQ, (kS, ())))))] : (List bf))) * 40 <= 211106232532992 then
 if (List.length ((([] : (List bf)) ++ (List.take ((Int.toNat eG) - (Int.toNat 0)) (List.drop (Int.toNat 0) aB))) ++ ([(bZ, (bQ, (bU, (fQ, (kS, ())))))] : (List bf))) + List.length (List.take ((Int.toNat ((List.length aB : Nat) : Int)) - (Int.toNat eG)) (List.drop (Int.toNat eG) aB))) * 40 <= 211106232532992 then
 some (((([] : (List bf)) ++ (List.take ((Int.toNat eG) - (Int.toNat 0)) (List.drop (Int.toNat 0) aB))) ++ ([(bZ, (bQ, (bU, (fQ, (kS, ())))))] : (List bf))) ++ (List.take ((Int.toNat ((List.length aB : Nat) : Int)) - (Int.toNat eG)) (List.drop (Int.toNat eG) aB))) else none else none else none else none else none else none else none else none else none
 else if 0 <= eG then
 if eG <= ((List.length aB : Nat) : Int) then
 if (0 : Int) < ((List.length (List.take ((Int.toNat ((List.length aB : Nat) : Int)) - (Int.toNat eG)) (List.drop (Int.toNat eG) aB)) : Nat) : Int) then
 if 0 <= 0 then
 if 0 < ((List.length (List.take ((Int.toNat ((List.length aB : Nat) : Int)) - (Int.toNat eG)) (List.drop (Int.toNat eG) aB)) : Nat) : Int) then
 if Eq (α := Int) (rd eP (List.take ((Int.toNat ((List.length aB : Nat) : Int)) - (Int.toNat eG)) (List.drop (Int.toNat eG) aB)) 0).1 bZ then
 if 0 <= 0 then
 if 0 < ((List.length (List.take ((Int.toNat ((List.length aB : Nat) : Int)) - (Int.toNat eG)) (List.drop (Int.toNat eG) aB)) : Nat) : Int) then
 if Eq (α := Int) (rd eP (List.take ((Int.toNat ((List.length aB : Nat) : Int)) - (Int.toNat eG)) (List.drop (Int.toNat eG) aB)) 0).2.1 bQ then
 if 0 <= 0 then
 if 0 < ((List.length (List.take ((Int.toNat ((List.length aB : Nat) : Int)) - (Int.toNat eG)) (List.drop (Int.toNat eG) aB)) : Nat) : Int) then
 (uW k (bZ, (bQ, (bU, (fQ, (kS, ()))))) (rd eP (List.take ((Int.toNat ((List.length aB : Nat) : Int)) - (Int.toNat eG)) (List.drop (Int.toNat eG) aB)) 0)).bind fun r3 =>
 if ¬ (r3 = true) then
 if (List.length ([] : (List bf)) + List.length aB) * 40 <= 211106232532992 then
 some (([] : (List bf)) ++ aB) else none
 else if 0 <= 1 then
 if 1 <= ((List.length (List.take ((Int.toNat ((List.length aB : Nat) : Int)) - (Int.toNat eG)) (List.drop (Int.toNat eG) aB)) : Nat) : Int) then
 if 0 <= eG then
 if eG <= ((List.length aB : Nat) : Int) then
 if (List.length ([] : (List bf)) + List.length (List.take ((Int.toNat eG) - (Int.toNat 0)) (List.drop (Int.toNat 0) aB))) * 40 <= 211106232532992 then
 if (List.length (([] : (List bf)) ++ (List.take ((Int.toNat eG) - (Int.toNat 0)) (List.drop (Int.toNat 0) aB))) + List.length ([(bZ, (bQ, (bU, (fQ, (kS, ())))))] : (List bf))) * 40 <= 211106232532992 then
 if (List.length ((([] : (List bf)) ++ (List.take ((Int.toNat eG) - (Int.toNat 0)) (List.drop (Int.toNat 0) aB))) ++ ([(bZ, (bQ, (bU, (fQ, (kS, ())))))] : (List bf))) + List.length (List.take ((Int.toNat ((List.length (List.take ((Int.toNat ((List.length aB : Nat) : Int)) - (Int.toNat eG)) (List.drop (Int.toNat eG) aB)) : Nat) : Int)) - (Int.toNat 1)) (List.drop (Int.toNat 1) (List.take ((Int.toNat ((List.length aB : Nat) : Int)) - (Int.toNat eG)) (List.drop (Int.toNat eG) aB))))) * 40 <= 211106232532992 then
 some (((([] : (List bf)) ++ (List.take ((Int.toNat eG) - (Int.toNat 0)) (List.drop (Int.toNat 0) aB))) ++ ([(bZ, (bQ, (bU, (fQ, (kS, ())))))] : (List bf))) ++ (List.take ((Int.toNat ((List.length (List.take ((Int.toNat ((List.length aB : Nat) : Int)) - (Int.toNat eG)) (List.drop (Int.toNat eG) aB)) : Nat) : Int)) - (Int.toNat 1)) (List.drop (Int.toNat 1) (List.take ((Int.toNat ((List.length aB : Nat) : Int)) - (Int.toNat eG)) (List.drop (Int.toNat eG) aB))))) else none else none else none else none else none else none else none else none else none
 else if 0 <= eG then
 if eG <= ((List.length aB : Nat) : Int) then
 if (List.length ([] : (List bf)) + List.length (List.take ((Int.toNat eG) - (Int.toNat 0)) (List.drop (Int.toNat 0) aB))) * 40 <= 211106232532992 then
 if (List.length (([] : (List bf)) ++ (List.take ((Int.toNat eG) - (Int.toNat 0)) (List.drop (Int.toNat 0) aB))) + List.length ([(bZ, (bQ, (bU, (fQ, (kS, ())))))] : (List bf))) * 40 <= 211106232532992 then
 if (List.length ((([] : (List bf)) ++ (List.take ((Int.toNat eG) - (Int.toNat 0)) (List.drop (Int.toNat 0) aB))) ++ ([(bZ, (bQ, (bU, (fQ, (kS, ())))))] : (List bf))) + List.length (List.take ((Int.toNat ((List.length aB : Nat) : Int)) - (Int.toNat eG)) (List.drop (Int.toNat eG) aB))) * 40 <= 211106232532992 then
 some (((([] : (List bf)) ++ (List.take ((Int.toNat eG) - (Int.toNat 0)) (List.drop (Int.toNat 0) aB))) ++ ([(bZ, (bQ, (bU, (fQ, (kS, ())))))] : (List bf))) ++ (List.take ((Int.toNat ((List.length aB : Nat) : Int)) - (Int.toNat eG)) (List.drop (Int.toNat eG) aB))) else none else none else none else none else none else none else none
 else if 0 <= eG then
 if eG <= ((List.length aB : Nat) : Int) then
 if (List.length ([] : (List bf)) + List.length (List.take ((Int.toNat eG) - (Int.toNat 0)) (List.drop (Int.toNat 0) aB))) * 40 <= 211106232532992 then
 if (List.length (([] : (List bf)) ++ (List.take ((Int.toNat eG) - (Int.toNat 0)) (List.drop (Int.toNat 0) aB))) + List.length ([(bZ, (bQ, (bU, (fQ, (kS, ())))))] : (List bf))) * 40 <= 211106232532992 then
 if (List.length ((([] : (List bf)) ++ (List.take ((Int.toNat eG) - (Int.toNat 0)) (List.drop (Int.toNat 0) aB))) ++ ([(bZ, (bQ, (bU, (fQ, (kS, ())))))] : (List bf))) + List.length (List.take ((Int.toNat ((List.length aB : Nat) : Int)) - (Int.toNat eG)) (List.drop (Int.toNat eG) aB))) * 40 <= 211106232532992 then
 some (((([] : (List bf)) ++ (List.take ((Int.toNat eG) - (Int.toNat 0)) (List.drop (Int.toNat 0) aB))) ++ ([(bZ, (bQ, (bU, (fQ, (kS, ())))))] : (List bf))) ++ (List.take ((Int.toNat ((List.length aB : Nat) : Int)) - (Int.toNat eG)) (List.drop (Int.toNat eG) aB))) else none else none else none else none else none else none else none
 else if 0 <= eG then
 if eG <= ((List.length aB : Nat) : Int) then
 if (List.length ([] : (List bf)) + List.length (List.take ((Int.toNat eG) - (Int.toNat 0)) (List.drop (Int.toNat 0) aB))) * 40 <= 211106232532992 then
 if (List.length (([] : (List bf)) ++ (List.take ((Int.toNat eG) - (Int.toNat 0)) (List.drop (Int.toNat 0) aB))) + List.length ([(bZ, (bQ, (bU, (fQ, (kS, ())))))] : (List bf))) * 40 <= 211106232532992 then
 if (List.length ((([] : (List bf)) ++ (List.take ((Int.toNat eG) - (Int.toNat 0)) (List.drop (Int.toNat 0) aB))) ++ ([(bZ, (bQ, (bU, (fQ, (kS, ())))))] : (List bf))) + List.length (List.take ((Int.toNat ((List.length aB : Nat) : Int)) - (Int.toNat eG)) (List.drop (Int.toNat eG) aB))) * 40 <= 211106232532992 then
 some (((([] : (List bf)) ++ (List.take ((Int.toNat eG) - (Int.toNat 0)) (List.drop (Int.toNat 0) aB))) ++ ([(bZ, (bQ, (bU, (fQ, (kS, ())))))] : (List bf))) ++ (List.take ((Int.toNat ((List.length aB : Nat) : Int)) - (Int.toNat eG)) (List.drop (Int.toNat eG) aB))) else none else none else none else none else none else none else none := by kernel_rfl
theorem xZ (k : Nat) (aB e_1) : xq (k + 1) aB e_1 =
 (aZ k aB e_1).bind fun r1 =>
 if (r1 : Int) < 0 then
 (bH k aB).bind fun r2 =>
 (jw k r2 ((List.length aB : Nat) : Int) [e_1]).bind fun r3 =>
 (aO k r3).bind fun r4 =>
 if ¬ (r4 = true) then
 (bH k aB).bind fun r5 =>
 some (r5, (false, ()))
 else some (r3, (true, ()))
 else (bH k aB).bind fun r6 =>
 (jw k r6 r1 [e_1]).bind fun r7 =>
 (aO k r7).bind fun r8 =>
 if ¬ (r8 = true) then
 (bH k aB).bind fun r9 =>
 some (r9, (false, ()))
 else some (r7, (true, ())) := by kernel_rfl
theorem qX (k : Nat) (aB e_1) : vR (k + 1) aB e_1 =
 (bT k aB e_1).bind fun r1 =>
 (aO k aB).bind fun r2 =>
 if ¬ (r2 = true) then
 (bH k aB).bind fun r3 =>
 some (r3, (false, ()))
 else if (r1 : Int) < 0 then
 (bH k aB).bind fun r4 =>
 some (r4, (false, ()))
 else (bH k aB).bind fun r5 =>
 (lC k r5 r1 (IntKind.wrap .i64 (r1 + 1))).bind fun r6 =>
 some (r6, (true, ())) := by kernel_rfl
theorem ql (k : Nat) (s_0 eZ) : aY (k + 1) s_0 eZ =
 aY.l0 k k s_0 eZ ((List.length s_0 : Nat) : Int) 0 := by kernel_rfl
theorem aY.aA (k m : Nat) (s_0 jA dS gH) : aY.l0 k (m + 1) s_0 jA dS gH =
 if (gH : Int) < dS then
 if 0 <= gH then
 if gH < ((List.length s_0 : Nat) : Int) then
 (vS k (rd dV s_0 gH) jA).bind fun r1 =>
 if r1 = true then
 some gH
 else aY.l0 k m s_0 jA dS (IntKind.wrap .i64 (gH + 1)) else none else none
 else some (-1) := by kernel_rfl
theorem uX (k : Nat) (s_0 : (List cu)) (yZ : Int) (Mt : (List cu)) : lu (k + 1) s_0 yZ Mt = (gL dV 16) (.list dV) [.give (.list dV) s_0, .val (.int .i64) yZ, .val (.list dV) Mt] := by kernel_rfl
theorem Bg (k : Nat) (aB : (List bF)) (bB : (List aF)) (gD : Int) : sw (k + 1) aB bB gD = (tJ Go.fZ.Pf Go.fZ.Pg Go.fZ.AP) (.pair (.list (.int .i64)) (.pair .bool .unit)) [.val (.list dx) aB, .val (.list bL) bB, .val (.int .i64) gD] := by kernel_rfl
theorem pq (k : Nat) (s_0 eZ) : aV (k + 1) s_0 eZ =
 aV.l0 k k s_0 eZ ((List.length s_0 : Nat) : Int) 0 := by kernel_rfl
theorem aV.aA (k m : Nat) (s_0 jA dS gH) : aV.l0 k (m + 1) s_0 jA dS gH =
 if (gH : Int) < dS then
 if 0 <= gH then
 if gH < ((List.length s_0 : Nat) : Int) then
 (vT k (rd dx s_0 gH) jA).bind fun r1 =>
 if r1 = true then
 some gH
 else aV.l0 k m s_0 jA dS (IntKind.wrap .i64 (gH + 1)) else none else none
 else some (-1) := by kernel_rfl
theorem qm (k : Nat) (aB bB bS pK) : dP (k + 1) aB bB bS pK =
 (eT k aB bB bS).bind fun r1 =>
 if ¬ (r1 = true) then
 some (0, (false, ()))
 else (aT k pK 1 ((List.length bS : Nat) : Int)).bind fun r2 =>
 if ¬ (r2 = true) then
 some (0, (false, ()))
 else dP.l0 k k bB bS pK aB ((List.length aB : Nat) : Int) 0 := by kernel_rfl
theorem dP.aA (k m : Nat) (bB bS pK vP Sq IV) : dP.l0 k (m + 1) bB bS pK vP Sq IV =
 if (IV : Int) < Sq then
 if 0 <= IV then
 if IV < ((List.length vP : Nat) : Int) then
 (cK k bS (rd dx vP IV).1).bind fun r3 =>
 if ¬ (r3 = true) then
 (jT k (rd dx vP IV) bB pK).bind fun r4 =>
 if r4 = true then
 some ((rd dx vP IV).1, (true, ()))
 else dP.l0 k m bB bS pK vP Sq (IntKind.wrap .i64 (IV + 1))
 else dP.l0 k m bB bS pK vP Sq (IntKind.wrap .i64 (IV + 1)) else none else none
 else some (0, (false, ())) := by kernel_rfl
theorem uF (k : Nat) (s_0 : (List bF)) (yZ : Int) (Wy : Int) : jk (k + 1) s_0 yZ Wy = (kD dx) (.list dx) [.give (.list dx) s_0, .val (.int .i64) yZ, .val (.int .i64) Wy] := by kernel_rfl
theorem uG (k : Nat) (s_0 : (List bF)) (yZ : Int) (Mt : (List bF)) : kH (k + 1) s_0 yZ Mt = (gL dx 48) (.list dx) [.give (.list dx) s_0, .val (.int .i64) yZ, .val (.list dx) Mt] := by kernel_rfl
theorem uH (k : Nat) (aB x_1) : yL (k + 1) aB x_1 =
 (dX k aB).bind fun r1 =>
 if r1 = true then
 (iP k aB).bind fun r2 =>
 (IW k r2 x_1).bind fun r3 =>
 (dX k r3).bind fun r4 =>
 if r4 = true then
 some r3
 else (iP k aB).bind fun r5 =>
 some r5
 else (iP k aB).bind fun r6 =>
 some r6 := by kernel_rfl
theorem Mw (k : Nat) (Om) : En (k + 1) Om =
 (eY k Om.1 0 2000).bind fun r1 =>
 if r1 = true then
 (eY k Om.2.1 1 96).bind fun r2 =>
 if r2 = true then
 (eY k Om.2.2.1 21 108).bind fun r3 =>
 if r3 = true then
 (eY k Om.2.2.2.1 1 4).bind fun r4 =>
 some (decide (r4 = true))
 else some false
 else some false
 else some false := by kernel_rfl
theorem ED (k : Nat) (a_0 b_1) : sV (k + 1) a_0 b_1 =
 if (a_0.1 : Int) ≠ b_1.1 then
 some (decide ((a_0.1 : Int) < b_1.1))
 else if (a_0.2.2.2.1 : Int) ≠ b_1.2.2.2.1 then
 some (decide ((a_0.2.2.2.1 : Int) < b_1.2.2.2.1))
 else some (decide ((a_0.2.2.1 : Int) < b_1.2.2.1)) := by kernel_rfl
theorem Dx (k : Nat) (a_0 b_1) : qW (k + 1) a_0 b_1 =
 if (a_0.1 : Int) < b_1.1 then
 some true
 else if (a_0.1 : Int) = b_1.1 then
 some (decide ((a_0.2.1 : Int) < b_1.2.1))
 else some false := by kernel_rfl
theorem uI (k : Nat) (p_0 l_1 kR) : uV (k + 1) p_0 l_1 kR =
 (gQ k p_0.2.2.2.1 kR).bind fun r1 =>
 if r1 = true then
 (dM k l_1).bind fun r2 =>
 if r2 = true then
 (gF k l_1 kR).bind fun r3 =>
 (fJ k r3 p_0.2.1 p_0.2.2.1).bind fun r4 =>
 some (decide (r4 = true))
 else some false
 else some false := by kernel_rfl
theorem Jd (k : Nat) (aB zx) : gQ (k + 1) aB zx =
 gQ.l0 k k aB zx 0 := by kernel_rfl
theorem gQ.aA (k m : Nat) (aB zx kF) : gQ.l0 k (m + 1) aB zx kF =
 if (kF : Int) < ((List.length aB : Nat) : Int) then
 if 0 <= kF then
 if kF < ((List.length aB : Nat) : Int) then
 if Eq (α := Int) (rd (.int .i64) aB kF) zx then
 some true
 else gQ.l0 k m aB zx (IntKind.wrap .i64 (kF + 1)) else none else none
 else some false := by kernel_rfl
theorem jJ (k : Nat) (p_0 l_1 kR) : jT (k + 1) p_0 l_1 kR =
 (cK k p_0.2.2.2.1 kR).bind fun r1 =>
 if r1 = true then
 (aO k l_1).bind fun r2 =>
 if r2 = true then
 (mG k l_1 kR).bind fun r3 =>
 (bA k r3 p_0.2.1 p_0.2.2.1).bind fun r4 =>
 some (decide (r4 = true))
 else some false
 else some false := by kernel_rfl
theorem FP (k : Nat) (a_0 b_1) : uW (k + 1) a_0 b_1 =
 if (a_0.2.2.2.1 : Int) ≠ b_1.2.2.2.1 then
 some (decide ((b_1.2.2.2.1 : Int) < a_0.2.2.2.1))
 else if (a_0.2.2.2.2.1 : Int) ≠ b_1.2.2.2.2.1 then
 some (decide ((b_1.2.2.2.2.1 : Int) < a_0.2.2.2.2.1))
 else some (decide ((b_1.2.2.1 : Int) < a_0.2.2.1)) := by kernel_rfl
theorem qo (k : Nat) (s_0 eZ) : aZ (k + 1) s_0 eZ =
 aZ.l0 k k s_0 eZ ((List.length s_0 : Nat) : Int) 0 := by kernel_rfl
theorem aZ.aA (k m : Nat) (s_0 jA dS gH) : aZ.l0 k (m + 1) s_0 jA dS gH =
 if (gH : Int) < dS then
 if 0 <= gH then
 if gH < ((List.length s_0 : Nat) : Int) then
 (uy k (rd bL s_0 gH) jA).bind fun r1 =>
 if r1 = true then
 some gH
 else aZ.l0 k m s_0 jA dS (IntKind.wrap .i64 (gH + 1)) else none else none
 else some (-1) := by kernel_rfl
theorem uY (k : Nat) (s_0 : (List aF)) (yZ : Int) (Mt : (List aF)) : jw (k + 1) s_0 yZ Mt = (gL bL 32) (.list bL) [.give (.list bL) s_0, .val (.int .i64) yZ, .val (.list bL) Mt] := by kernel_rfl
theorem vX (k : Nat) (s_0 v_1) : bT (k + 1) s_0 v_1 =
 bT.l0 k k s_0 ((List.length s_0 : Nat) : Int) 0 v_1.1 v_1.2.1 v_1.2.2.1 v_1.2.2.2.1 := by kernel_rfl
theorem bT.aA (k m : Nat) (s_0 dS gH bZ bQ bU fQ) : bT.l0 k (m + 1) s_0 dS gH bZ bQ bU fQ =
 if (gH : Int) < dS then
 if 0 <= gH then
 if gH < ((List.length s_0 : Nat) : Int) then
 if ((bZ : Int) = (rd bL s_0 gH).1) /\ (((bQ : Int) = (rd bL s_0 gH).2.1) /\ (((bU : Int) = (rd bL s_0 gH).2.2.1) /\ ((fQ : Int) = (rd bL s_0 gH).2.2.2.1))) then
 some gH
 else bT.l0 k m s_0 dS (IntKind.wrap .i64 (gH + 1)) bZ bQ bU fQ else none else none
 else some (-1) := by kernel_rfl
theorem uZ (k : Nat) (s_0 : (List aF)) (yZ : Int) (Wy : Int) : lC (k + 1) s_0 yZ Wy = (kD bL) (.list bL) [.give (.list bL) s_0, .val (.int .i64) yZ, .val (.int .i64) Wy] := by kernel_rfl
theorem rC (k : Nat) (t_0 a_1) : vS (k + 1) t_0 a_1 =
 some (decide ((a_1.1 : Int) <= t_0.1)) := by kernel_rfl
theorem rD (k : Nat) (p_0 a_1) : vT (k + 1) p_0 a_1 =
 some (decide ((p_0.1 : Int) = a_1)) := by kernel_rfl
theorem OC (k : Nat) (aB x_1) : IW (k + 1) aB x_1 =
 (aL k aB x_1).bind fun r1 =>
 if ¬ (r1.2.1 = true) then
 (qy k aB r1.1 [x_1]).bind fun r2 =>
 some r2
 else if 0 <= r1.1 then
 if r1.1 < ((List.length aB : Nat) : Int) then
 (yM k x_1 (rd eP aB r1.1)).bind fun r3 =>
 if r3 = true then
 if 0 <= r1.1 then
 if r1.1 < ((List.length aB : Nat) : Int) then
 some (List.set aB (Int.toNat r1.1) x_1) else none else none
 else some aB else none else none := by kernel_rfl
theorem FQ (k : Nat) (aB eX) : gF (k + 1) aB eX =
 gF.l0 k k aB eX 0 [] := by kernel_rfl
theorem gF.aA (k m : Nat) (aB eX Ms s0) : gF.l0 k (m + 1) aB eX Ms s0 =
 if (Ms : Int) < ((List.length aB : Nat) : Int) then
 if 0 <= Ms then
 if Ms < ((List.length aB : Nat) : Int) then
 if Eq (α := Int) (rd bL aB Ms).2.2.2.1 eX then
 if 0 <= Ms then
 if Ms < ((List.length aB : Nat) : Int) then
 if (List.length s0 + List.length ([(rd bL aB Ms)] : (List aF))) * 32 <= 211106232532992 then
 gF.l0 k m aB eX (IntKind.wrap .i64 (Ms + 1)) (s0 ++ ([(rd bL aB Ms)] : (List aF))) else none else none else none
 else gF.l0 k m aB eX (IntKind.wrap .i64 (Ms + 1)) s0 else none else none
 else some s0 := by kernel_rfl
theorem Dy (k : Nat) (aB dU bX) : fJ (k + 1) aB dU bX =
 fJ.l0 k k aB dU bX 0 := by kernel_rfl
theorem fJ.aA (k m : Nat) (aB dU bX Bu) : fJ.l0 k (m + 1) aB dU bX Bu =
 if (Bu : Int) < ((List.length aB : Nat) : Int) then
 if 0 <= Bu then
 if Bu < ((List.length aB : Nat) : Int) then
 (eY k (rd bL aB Bu).2.2.1 dU bX).bind fun r1 =>
 if ¬ (r1 = true) then
 some false
 else fJ.l0 k m aB dU bX (IntKind.wrap .i64 (Bu + 1)) else none else none
 else (dM k aB).bind fun r2 =>
 some (decide (r2 = true)) := by kernel_rfl
theorem uh (k : Nat) (aB eX) : mG (k + 1) aB eX =
 (bH k aB).bind fun r1 =>
 (aj k r1 eX).bind fun r2 =>
 some r2 := by kernel_rfl
theorem qJ (k : Nat) (aB dU bX) : bA (k + 1) aB dU bX =
 bA.l0 k k aB dU bX aB ((List.length aB : Nat) : Int) 0 := by kernel_rfl
theorem bA.aA (k m : Nat) (aB dU bX mh jH iR) : bA.l0 k (m + 1) aB dU bX mh jH iR =
 if (iR : Int) < jH then
 if 0 <= iR then
 if iR < ((List.length mh : Nat) : Int) then
 (aT k (rd bL mh iR).2.2.1 dU bX).bind fun r1 =>
 if ¬ (r1 = true) then
 some false
 else bA.l0 k m aB dU bX mh jH (IntKind.wrap .i64 (iR + 1)) else none else none
 else (aO k aB).bind fun r2 =>
 some (decide (r2 = true)) := by kernel_rfl
theorem Ct (k : Nat) (Rk a_1) : uy (k + 1) Rk a_1 =
 (iZ k Rk a_1).bind fun r1 =>
 some (decide ((0 : Int) <= r1)) := by kernel_rfl
theorem ng (k : Nat) (x_0 tO) : aL (k + 1) x_0 tO =
 aL.l0 k k x_0 ((List.length x_0 : Nat) : Int) 0 ((List.length x_0 : Nat) : Int) tO.1 tO.2.1 tO.2.2.1 tO.2.2.2.1 tO.2.2.2.2.1 := by kernel_rfl
theorem aL.aA (k m : Nat) (x_0 Yr IQ JV bZ bQ bU fQ kS) : aL.l0 k (m + 1) x_0 Yr IQ JV bZ bQ bU fQ kS =
 if (IQ : Int) < JV then
 if (1 : Int) < 0 then
 none
 else if 0 <= (IntKind.wrap .i64 ((Int.fdiv (IntKind.wrap .u64 (IntKind.wrap .i64 (IQ + JV))) (2 ^ (min (Int.toNat 1) (IntKind.bits .u64)))))) then
 if (IntKind.wrap .i64 ((Int.fdiv (IntKind.wrap .u64 (IntKind.wrap .i64 (IQ + JV))) (2 ^ (min (Int.toNat 1) (IntKind.bits .u64)))))) < ((List.length x_0 : Nat) : Int) then
 (nS k (rd eP x_0 (IntKind.wrap .i64 ((Int.fdiv (IntKind.wrap .u64 (IntKind.wrap .i64 (IQ + JV))) (2 ^ (min (Int.toNat 1) (IntKind.bits .u64))))))) (bZ, (bQ, (bU, (fQ, (kS, ())))))).bind fun r1 =>
 if (r1 : Int) < 0 then
 aL.l0 k m x_0 Yr (IntKind.wrap .i64 ((IntKind.wrap .i64 ((Int.fdiv (IntKind.wrap .u64 (IntKind.wrap .i64 (IQ + JV))) (2 ^ (min (Int.toNat 1) (IntKind.bits .u64)))))) + 1)) JV bZ bQ bU fQ kS
 else aL.l0 k m x_0 Yr IQ (IntKind.wrap .i64 ((Int.fdiv (IntKind.wrap .u64 (IntKind.wrap .i64 (IQ + JV))) (2 ^ (min (Int.toNat 1) (IntKind.bits .u64)))))) bZ bQ bU fQ kS else none else none
 else if (IQ : Int) < Yr then
 if 0 <= IQ then
 if IQ < ((List.length x_0 : Nat) : Int) then
 (nS k (rd eP x_0 IQ) (bZ, (bQ, (bU, (fQ, (kS, ())))))).bind fun r2 =>
 some (IQ, (decide ((r2 : Int) = 0), ())) else none else none
 else some (IQ, (false, ())) := by kernel_rfl
theorem vY (k : Nat) (s_0 : (List bf)) (yZ : Int) (Mt : (List bf)) : qy (k + 1) s_0 yZ Mt = (gL eP 40) (.list eP) [.give (.list eP) s_0, .val (.int .i64) yZ, .val (.list eP) Mt] := by kernel_rfl
theorem FR (k : Nat) (a_0 b_1) : yM (k + 1) a_0 b_1 =
 (cmp_Compare_int k a_0.2.2.2.1 b_1.2.2.2.1).bind fun r1 =>
 (cmp_Compare_int k a_0.2.2.2.2.1 b_1.2.2.2.2.1).bind fun r2 =>
 (cmp_Compare_int k a_0.2.2.1 b_1.2.2.1).bind fun r3 =>
 (bP k ([r1, r2, r3])).bind fun r4 =>
 some (decide ((0 : Int) < r4)) := by kernel_rfl
theorem iC (k : Nat) (s_0 eZ) : aj (k + 1) s_0 eZ =
 (ay k s_0 eZ).bind fun r1 =>
 if (r1 : Int) = (-1) then
 some s_0
 else aj.l0 k k eZ r1 (IntKind.wrap .i64 (r1 + 1)) s_0 := by kernel_rfl
theorem aj.aA (k m : Nat) (om kF JU s0) : aj.l0 k (m + 1) om kF JU s0 =
 if (JU : Int) < ((List.length s0 : Nat) : Int) then
 if 0 <= JU then
 if JU < ((List.length s0 : Nat) : Int) then
 (iX k (rd bL s0 JU) om).bind fun r2 =>
 if ¬ (r2 = true) then
 if 0 <= kF then
 if kF < ((List.length s0 : Nat) : Int) then
 aj.l0 k m om (IntKind.wrap .i64 (kF + 1)) (IntKind.wrap .i64 (JU + 1)) (List.set s0 (Int.toNat kF) (rd bL s0 JU)) else none else none
 else aj.l0 k m om kF (IntKind.wrap .i64 (JU + 1)) s0 else none else none
 else if 0 <= kF then
 if kF <= ((List.length s0 : Nat) : Int) then
 if 0 <= kF then
 if kF <= ((List.length (List.take (Int.toNat kF) s0 ++ List.replicate ((Int.toNat ((List.length s0 : Nat) : Int)) - (Int.toNat kF)) (Ty.dflt bL) ++ List.drop ((Int.toNat kF) + ((Int.toNat ((List.length s0 : Nat) : Int)) - (Int.toNat kF))) s0) : Nat) : Int) then
 some (List.take ((Int.toNat kF) - (Int.toNat 0)) (List.drop (Int.toNat 0) (List.take (Int.toNat kF) s0 ++ List.replicate ((Int.toNat ((List.length s0 : Nat) : Int)) - (Int.toNat kF)) (Ty.dflt bL) ++ List.drop ((Int.toNat kF) + ((Int.toNat ((List.length s0 : Nat) : Int)) - (Int.toNat kF))) s0))) else none else none else none else none := by kernel_rfl
theorem iL (k : Nat) (s_0 eZ) : ay (k + 1) s_0 eZ =
 ay.l0 k k s_0 eZ ((List.length s_0 : Nat) : Int) 0 := by kernel_rfl
theorem ay.aA (k m : Nat) (s_0 jA dS gH) : ay.l0 k (m + 1) s_0 jA dS gH =
 if (gH : Int) < dS then
 if 0 <= gH then
 if gH < ((List.length s_0 : Nat) : Int) then
 (iX k (rd bL s_0 gH) jA).bind fun r1 =>
 if r1 = true then
 some gH
 else ay.l0 k m s_0 jA dS (IntKind.wrap .i64 (gH + 1)) else none else none
 else some (-1) := by kernel_rfl
theorem qK (k : Nat) (Om a_1) : iX (k + 1) Om a_1 =
 some (decide ((Om.2.2.2.1 : Int) ≠ a_1)) := by kernel_rfl
end Go.fM
