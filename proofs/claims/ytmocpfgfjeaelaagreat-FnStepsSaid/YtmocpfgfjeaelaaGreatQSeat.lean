/- What impl.SeatPlayers calls, as equations; printed by pe.py. No condition. -/
import Derived.Test.YtmocpfgfjeaelaaGreatEv
import Derived.Test.YtmocpfgfjeaelaaGreatProg
import Derived.KernelRfl
set_option linter.unusedVariables false
open Go Go.Flat
namespace Go.fZ
abbrev dn : Ty := .pair (.int .i64) (.pair (.int .i64) .unit)
abbrev bE := Int × (Int × Unit)
abbrev II : Ty := .pair (.int .i64) dn
abbrev Vr := Int × bE
abbrev bR : Ty := .pair (.int .i64) II
abbrev aF := Int × Vr
abbrev bV : Ty := .pair (.int .i64) (.pair (.int .i64) (.pair (.int .i64) (.pair (.list (.int .i64)) .unit)))
abbrev bn := Int × (Int × (Int × ((List Int) × Unit)))
abbrev dY : Ty := .pair (.int .i64) bR
abbrev aU := Int × aF
abbrev iF : Ty := .pair (.list bR) (.pair dn (.pair (.list dn) (.pair (.list bV) (.pair (.list (.int .i64)) (.pair (.list dY) (.pair (.list dn) dn))))))
abbrev aV := (List aF) × (bE × ((List bE) × ((List bn) × ((List Int) × ((List aU) × ((List bE) × bE))))))
abbrev Zn : Ty := .pair (.int .i64) (.pair (.int .i64) (.pair bR (.pair dn (.pair bV (.pair dY .unit)))))
abbrev adk := Int × (Int × (aF × (bE × (bn × (aU × Unit)))))
abbrev T59 : Ty := .pair (.list (.int .i64)) (.pair (.list (.int .i64)) .unit)
abbrev adl := (List Int) × ((List Int) × Unit)
abbrev Vs : Ty := .pair (.list (.int .i64)) (.pair (.int .i64) .unit)
abbrev aaY := (List Int) × (Int × Unit)
abbrev gG : Ty := .pair (.list (.int .u8)) dn
abbrev eH := (List Int) × bE
noncomputable def C : dA := {
  P := Go.Proofs.Tryz.prog,
  tt := [(1, none), (2, some (.int .i64)), (3, some (.int .i64)), (4, some .bool), (5, some (.int .u8)), (6, some (.int .u8)), (9, some .str), (10, some .str), (11, some .str), (12, some (.int .u64)), (15, none), (16, none), (17, none), (21, some (.int .i32)), (22, some (.list (.int .u8))), (23, none), (24, some (.list bR)), (25, some dn), (26, some dn), (27, some (.list dn)), (28, some (.list bV)), (29, some (.list (.int .i64))), (30, some (.list dY)), (31, some (.list dn)), (32, some iF), (33, some iF), (34, some (.list Zn)), (36, none), (38, none), (39, some bR), (40, some bR), (41, some dn), (42, some dn), (43, some bV), (44, some bV), (45, some dY), (46, some dY), (47, some Zn), (48, some Zn), (49, none), (50, some (.list (.list II))), (52, none), (53, none), (54, some dn), (55, some dn), (57, none), (58, none), (59, some T59), (60, some T59), (62, none), (64, none), (65, none), (66, none), (67, none), (69, none), (70, none), (72, none), (73, none), (75, none), (76, none), (78, none), (79, none), (81, none), (82, none), (83, none), (84, none), (85, none), (86, none), (87, some (.list bR)), (88, some dn), (89, some (.list dn)), (90, some (.list bV)), (91, some (.list dY)), (92, some (.list dn)), (93, some iF), (94, some iF), (95, some bV), (96, none), (97, none), (98, none), (99, none), (100, none), (101, none), (102, none), (103, none), (104, none), (105, none), (106, none), (107, none), (108, none), (109, none), (110, none), (112, none), (113, none), (114, none), (115, none), (116, none), (117, none), (118, none), (119, none), (120, none), (121, none), (122, none), (123, none), (124, none), (125, some (.list II)), (127, none), (128, none), (129, none), (130, none), (131, none), (132, none), (133, none), (134, none), (135, some Vs), (136, some Vs), (138, none), (139, none), (140, none), (141, none), (142, none), (143, none), (144, none), (145, none), (146, none), (147, none), (148, none), (149, none), (150, none), (151, none), (152, none), (153, none), (154, none), (155, none), (157, none), (158, none), (159, none), (160, none), (162, none), (163, none), (164, none), (165, none), (166, none), (167, none), (168, none), (169, none), (170, none), (171, none), (172, none), (173, some dn), (174, some dn), (175, none), (176, none), (177, none), (178, none), (179, none), (180, none), (181, none), (182, none), (183, none), (184, none), (185, none), (186, none), (187, none), (188, none), (189, none), (190, none), (191, none), (192, none), (193, none), (194, none), (195, none), (196, none), (197, none), (198, some (.list .str)), (199, some gG), (200, some gG), (201, none), (202, none), (203, none), (204, none), (205, none), (206, none), (207, none), (208, none), (209, none), (210, none), (211, none), (212, some II), (213, some II), (214, none), (215, none), (216, none), (217, none), (218, none), (219, none), (221, none), (222, none), (223, none), (224, none), (225, none), (226, none), (227, none), (228, none), (229, none), (230, none), (231, some bR), (232, none), (233, some dn), (234, none), (235, some dY), (236, none), (237, some dn), (238, none), (239, none), (240, none), (241, none), (242, none), (243, none), (244, none), (245, none), (246, none), (247, none), (248, none), (249, some (.int .u64)), (250, none), (251, none), (252, none), (253, none), (254, none), (255, none), (256, none), (257, none), (258, none), (259, some (.int .i64)), (261, none), (262, none), (263, none), (264, none), (265, none), (266, some (.int .u32)), (267, none), (268, some (.int .u64)), (269, none), (270, none), (271, none), (272, none), (273, some (.int .u64)), (274, none), (275, none), (276, none), (277, none), (278, none), (279, none), (280, none), (281, none), (282, none), (283, none), (289, none), (290, some (.int .u8)), (291, some (.int .u8)), (292, none), (293, none), (294, some (.int .i32)), (295, some (.int .i32))],
  vars := [(59, [0, 5, 6, 7]), (112, [0, 1, 7, 8]), (177, [0, 3, 7, 8, 9]), (185, [0, 1, 5, 6]), (194, [0, 1, 7, 8]), (222, [3, 6, 7, 8]), (227, [0, 1, 2, 9, 10, 11]), (228, [0, 1, 2, 9, 10, 11])],
  sigs := [(185, { io := [0] })],
  ptrs := [15, 16, 17, 114, 149, 277, 280, 293] }
noncomputable def aQ (k : Nat) (aB : (List bn)) : Option Bool := run C k 177 .bool [.val (.list bV) aB]
noncomputable def aQ.l0 (k m : Nat) (aB : (List bn)) (eD : (List bn)) (iA : Int) (oL : Int) (s0 : (List Int)) : Option Bool := cB C k 177 .bool [0] [.r, .r, .l, .r, .b] [] [0, 3, 7, 8, 9] m ⟨[.one (.cell (.list false bV aB)), .one (.cell (.ref 1)), .one (.cell (.list false bV eD)), .one (.cell (.int .i64 iA)), .one (.cell (.int .i64 oL))], [.arr (.int .i64) s0 .open]⟩
noncomputable def aP (k : Nat) (aB : (List aF)) : Option Bool := run C k 59 .bool [.val (.list bR) aB]
noncomputable def aP.l0 (k m : Nat) (aB : (List aF)) (oH : (List aF)) (tQ : Int) (eD : Int) : Option Bool := cB C k 59 .bool [0] [.r, .l, .r, .b] [] [0, 5, 6, 7] m ⟨[.one (.cell (.list false bR aB)), .one (.cell (.list false bR oH)), .one (.cell (.int .i64 tQ)), .one (.cell (.int .i64 eD))], []⟩
noncomputable def aY (k : Nat) (Vt : Int) (dU : Int) (cO : Int) : Option Bool := run C k 72 .bool [.val (.int .i64) Vt, .val (.int .i64) dU, .val (.int .i64) cO]
noncomputable def dw (k : Nat) (s_0 : (List Int)) (v_1 : Int) : Option Bool := run C k 178 .bool [.val (.list (.int .i64)) s_0, .val (.int .i64) v_1]
noncomputable def jR (k : Nat) (p_0 : bn) (l_1 : (List aF)) (kP : Int) : Option Bool := run C k 181 .bool [.val bV p_0, .val (.list bR) l_1, .val (.int .i64) kP]
noncomputable def aW (k : Nat) (aB : (List Int)) (dU : Int) (cO : Int) : Option Bool := run C k 227 .bool [.val (.list (.int .i64)) aB, .val (.int .i64) dU, .val (.int .i64) cO]
noncomputable def aW.l0 (k m : Nat) (aB : (List Int)) (dU : Int) (cO : Int) (oL : (List Int)) (kT : Int) (iP : Int) : Option Bool := cB C k 227 .bool [0, 0, 0] [.r, .l, .r, .b] [] [0, 1, 2, 9, 10, 11] m ⟨[.one (.cell (.list false (.int .i64) aB)), .one (.cell (.int .i64 dU)), .one (.cell (.int .i64 cO)), .one (.cell (.list false (.int .i64) oL)), .one (.cell (.int .i64 kT)), .one (.cell (.int .i64 iP))], []⟩
noncomputable def iW (k : Nat) (a_0 : aF) (b_1 : aF) : Option Int := run C k 164 (.int .i64) [.val bR a_0, .val bR b_1]
noncomputable def aC (k : Nat) (s_0 : (List Int)) (v_1 : Int) : Option Int := run C k 112 (.int .i64) [.val (.list (.int .i64)) s_0, .val (.int .i64) v_1]
noncomputable def aC.l0 (k m : Nat) (s_0 : (List Int)) (v_1 : Int) (eD : Int) (iA : Int) : Option Int := cB C k 112 (.int .i64) [0, 0] [.r, .l, .r, .b] [] [0, 1, 7, 8] m ⟨[.one (.cell (.list false (.int .i64) s_0)), .one (.cell (.int .i64 v_1)), .one (.cell (.int .i64 eD)), .one (.cell (.int .i64 iA))], []⟩
noncomputable def lX (k : Nat) (aB : (List aF)) (eZ : Int) : Option (List aF) := run C k 83 (.list bR) [.val (.list bR) aB, .val (.int .i64) eZ]
noncomputable def bC (k : Nat) (aB : (List aF)) (dU : Int) (cO : Int) : Option Bool := run C k 228 .bool [.val (.list bR) aB, .val (.int .i64) dU, .val (.int .i64) cO]
noncomputable def bC.l0 (k m : Nat) (aB : (List aF)) (dU : Int) (cO : Int) (oL : (List aF)) (kT : Int) (iP : Int) : Option Bool := cB C k 228 .bool [0, 0, 0] [.r, .l, .r, .b] [] [0, 1, 2, 9, 10, 11] m ⟨[.one (.cell (.list false bR aB)), .one (.cell (.int .i64 dU)), .one (.cell (.int .i64 cO)), .one (.cell (.list false bR oL)), .one (.cell (.int .i64 kT)), .one (.cell (.int .i64 iP))], []⟩
noncomputable def cmp_Compare_int (k : Nat) (x_0 : Int) (y_1 : Int) : Option Int := run C k 223 (.int .i64) [.val (.int .i64) x_0, .val (.int .i64) y_1]
noncomputable def bX (k : Nat) (vK : (List Int)) : Option Int := run C k 222 (.int .i64) [.val (.list (.int .i64)) vK]
noncomputable def bX.l0 (k m : Nat) (rP : Int) (tQ : (List Int)) (eD : Int) (iA : Int) : Option Int := cB C k 222 (.int .i64) [0] [.r, .r, .l, .r, .b] [] [3, 6, 7, 8] m ⟨[.one (.cell (.int .i64 rP)), .one (.cell (.list false (.int .i64) tQ)), .one (.cell (.int .i64 eD)), .one (.cell (.int .i64 iA))], []⟩
noncomputable def bJ (k : Nat) (aB : (List aF)) : Option (List aF) := run C k 171 (.list bR) [.val (.list bR) aB]
noncomputable def aj (k : Nat) (s_0 : (List aF)) (fu : Int) : Option (List aF) := run C k 185 (.list bR) [.give (.list bR) s_0, .oq 189 [.ro (.int .i64) fu]]
noncomputable def aj.l0 (k m : Nat) (nW : Int) (je : Int) (JR : Int) (s0 : (List aF)) : Option (List aF) := cB C k 185 (.list bR) [0, 0] [.r, .r, .r, .l, .r, .b] [] [0, 1, 5, 6] m ⟨[.one (.cell (.ref 1)), .one (.cell (.oq 189 [.ro (.int .i64) nW])), .one (.cell (.int .i64 je)), .one (.cell (.int .i64 JR))], [.arr bR s0 .open]⟩
noncomputable def cmp_isNaN_int (k : Nat) (x_0 : Int) : Option Bool := run C k 254 .bool [.val (.int .i64) x_0]
noncomputable def au (k : Nat) (s_0 : (List aF)) (fu : Int) : Option Int := run C k 194 (.int .i64) [.val (.list bR) s_0, .oq 189 [.ro (.int .i64) fu]]
noncomputable def au.l0 (k m : Nat) (s_0 : (List aF)) (jv : Int) (eD : Int) (iA : Int) : Option Int := cB C k 194 (.int .i64) [0, 0] [.r, .l, .r, .b] [] [0, 1, 7, 8] m ⟨[.one (.cell (.list false bR s_0)), .one (.cell (.oq 189 [.ro (.int .i64) jv])), .one (.cell (.int .i64 eD)), .one (.cell (.int .i64 iA))], []⟩
noncomputable def iV (k : Nat) (Og : aF) (a_1 : Int) : Option Bool := run C k 189 .bool [.val bR Og, .rp (.int .i64) a_1]
theorem pQ (k : Nat) (aB : (List bn)) : aQ (k + 1) aB =
 aQ.l0 k k aB aB ((List.length aB : Nat) : Int) 0 [] := by kernel_rfl
theorem aQ.aA (k m : Nat) (aB : (List bn)) (eD : (List bn)) (iA : Int) (oL : Int) (s0 : (List Int)) : aQ.l0 k (m + 1) aB eD iA oL s0 =
 if (oL : Int) < iA then
 if 0 <= oL then
 if oL < ((List.length eD : Nat) : Int) then
 (aY k (rd bV eD oL).2.1 21 (rd bV eD oL).2.2.1).bind fun r1 =>
 if ¬ (r1 = true) then
 some false
 else if LT.lt (α := Int) 108 (rd bV eD oL).2.2.1 then
 some false
 else (aW k (rd bV eD oL).2.2.2.1 1 4).bind fun r2 =>
 if ¬ (r2 = true) then
 some false
 else if (List.length s0 + List.length ([(rd bV eD oL).1] : (List Int))) * 8 <= 211106232532992 then
 aQ.l0 k m aB eD iA (IntKind.wrap .i64 (oL + 1)) (s0 ++ ([(rd bV eD oL).1] : (List Int))) else none else none else none
 else if (((List.length aB : Nat) : Int) : Int) <= 8 then
 (aW k s0 1 99).bind fun r3 =>
 some (decide (r3 = true))
 else some false := by kernel_rfl
theorem tZ (k : Nat) (aB : (List aF)) : aP (k + 1) aB =
 aP.l0 k k aB aB ((List.length aB : Nat) : Int) 0 := by kernel_rfl
theorem aP.aA (k m : Nat) (aB : (List aF)) (oH : (List aF)) (tQ : Int) (eD : Int) : aP.l0 k (m + 1) aB oH tQ eD =
 if (eD : Int) < tQ then
 if 0 <= eD then
 if eD < ((List.length oH : Nat) : Int) then
 (aY k (rd bR oH eD).1 0 2000).bind fun r1 =>
 if ¬ (r1 = true) then
 some false
 else (aY k (rd bR oH eD).2.1 1 96).bind fun r2 =>
 if ¬ (r2 = true) then
 some false
 else (aY k (rd bR oH eD).2.2.1 21 108).bind fun r3 =>
 if ¬ (r3 = true) then
 some false
 else (aY k (rd bR oH eD).2.2.2.1 1 4).bind fun r4 =>
 if ¬ (r4 = true) then
 some false
 else if (0 : Int) < eD then
 if 0 <= (IntKind.wrap .i64 (eD - 1)) then
 if (IntKind.wrap .i64 (eD - 1)) < ((List.length aB : Nat) : Int) then
 (iW k (rd bR aB (IntKind.wrap .i64 (eD - 1))) (rd bR oH eD)).bind fun r5 =>
 if (0 : Int) <= r5 then
 some false
 else aP.l0 k m aB oH tQ (IntKind.wrap .i64 (eD + 1)) else none else none
 else aP.l0 k m aB oH tQ (IntKind.wrap .i64 (eD + 1)) else none else none
 else some (decide ((((List.length aB : Nat) : Int) : Int) <= 40)) := by kernel_rfl
theorem mE (k : Nat) (Vt : Int) (dU : Int) (cO : Int) : aY (k + 1) Vt dU cO =
 if (dU : Int) <= Vt then
 some (decide ((Vt : Int) <= cO))
 else some false := by kernel_rfl
theorem jE (k : Nat) (s_0 : (List Int)) (v_1 : Int) : dw (k + 1) s_0 v_1 =
 (aC k s_0 v_1).bind fun r1 =>
 some (decide ((0 : Int) <= r1)) := by kernel_rfl
theorem jF (k : Nat) (p_0 : bn) (l_1 : (List aF)) (kP : Int) : jR (k + 1) p_0 l_1 kP =
 (dw k p_0.2.2.2.1 kP).bind fun r1 =>
 if r1 = true then
 (aP k l_1).bind fun r2 =>
 if r2 = true then
 (lX k l_1 kP).bind fun r3 =>
 (bC k r3 p_0.2.1 p_0.2.2.1).bind fun r4 =>
 some (decide (r4 = true))
 else some false
 else some false := by kernel_rfl
theorem qD (k : Nat) (aB : (List Int)) (dU : Int) (cO : Int) : aW (k + 1) aB dU cO =
 aW.l0 k k aB dU cO aB ((List.length aB : Nat) : Int) 0 := by kernel_rfl
theorem aW.aA (k m : Nat) (aB : (List Int)) (dU : Int) (cO : Int) (oL : (List Int)) (kT : Int) (iP : Int) : aW.l0 k (m + 1) aB dU cO oL kT iP =
 if (iP : Int) < kT then
 if 0 <= iP then
 if iP < ((List.length oL : Nat) : Int) then
 (aY k (rd (.int .i64) oL iP) dU cO).bind fun r1 =>
 if ¬ (r1 = true) then
 some false
 else if (0 : Int) < iP then
 if 0 <= (IntKind.wrap .i64 (iP - 1)) then
 if (IntKind.wrap .i64 (iP - 1)) < ((List.length aB : Nat) : Int) then
 if LE.le (α := Int) (rd (.int .i64) oL iP) (rd (.int .i64) aB (IntKind.wrap .i64 (iP - 1))) then
 some false
 else aW.l0 k m aB dU cO oL kT (IntKind.wrap .i64 (iP + 1)) else none else none
 else aW.l0 k m aB dU cO oL kT (IntKind.wrap .i64 (iP + 1)) else none else none
 else some true := by kernel_rfl
theorem pR (k : Nat) (a_0 : aF) (b_1 : aF) : iW (k + 1) a_0 b_1 =
 (cmp_Compare_int k a_0.1 b_1.1).bind fun r1 =>
 (cmp_Compare_int k a_0.2.2.2.1 b_1.2.2.2.1).bind fun r2 =>
 (cmp_Compare_int k a_0.2.2.1 b_1.2.2.1).bind fun r3 =>
 (bX k ([r1, r2, r3])).bind fun r4 =>
 some r4 := by kernel_rfl
theorem jf (k : Nat) (s_0 : (List Int)) (v_1 : Int) : aC (k + 1) s_0 v_1 =
 aC.l0 k k s_0 v_1 ((List.length s_0 : Nat) : Int) 0 := by kernel_rfl
theorem aC.aA (k m : Nat) (s_0 : (List Int)) (v_1 : Int) (eD : Int) (iA : Int) : aC.l0 k (m + 1) s_0 v_1 eD iA =
 if (iA : Int) < eD then
 if 0 <= iA then
 if iA < ((List.length s_0 : Nat) : Int) then
 if Eq (α := Int) v_1 (rd (.int .i64) s_0 iA) then
 some iA
 else aC.l0 k m s_0 v_1 eD (IntKind.wrap .i64 (iA + 1)) else none else none
 else some (-1) := by kernel_rfl
theorem uf (k : Nat) (aB : (List aF)) (eZ : Int) : lX (k + 1) aB eZ =
 (bJ k aB).bind fun r1 =>
 (aj k r1 eZ).bind fun r2 =>
 some r2 := by kernel_rfl
theorem qE (k : Nat) (aB : (List aF)) (dU : Int) (cO : Int) : bC (k + 1) aB dU cO =
 bC.l0 k k aB dU cO aB ((List.length aB : Nat) : Int) 0 := by kernel_rfl
theorem bC.aA (k m : Nat) (aB : (List aF)) (dU : Int) (cO : Int) (oL : (List aF)) (kT : Int) (iP : Int) : bC.l0 k (m + 1) aB dU cO oL kT iP =
 if (iP : Int) < kT then
 if 0 <= iP then
 if iP < ((List.length oL : Nat) : Int) then
 (aY k (rd bR oL iP).2.2.1 dU cO).bind fun r1 =>
 if ¬ (r1 = true) then
 some false
 else bC.l0 k m aB dU cO oL kT (IntKind.wrap .i64 (iP + 1)) else none else none
 else (aP k aB).bind fun r2 =>
 some (decide (r2 = true)) := by kernel_rfl
theorem iK (k : Nat) (x_0 : Int) (y_1 : Int) : cmp_Compare_int (k + 1) x_0 y_1 =
 (cmp_isNaN_int k x_0).bind fun r1 =>
 (cmp_isNaN_int k y_1).bind fun r2 =>
 if r1 = true then
 if r2 = true then
 some 0
 else some (-1)
 else if r2 = true then
 some 1
 else if (x_0 : Int) < y_1 then
 some (-1)
 else if (y_1 : Int) < x_0 then
 some 1
 else some 0 := by kernel_rfl
theorem sK (k : Nat) (vK : (List Int)) : bX (k + 1) vK =
 bX.l0 k k 0 vK ((List.length vK : Nat) : Int) 0 := by kernel_rfl
theorem bX.aA (k m : Nat) (rP : Int) (tQ : (List Int)) (eD : Int) (iA : Int) : bX.l0 k (m + 1) rP tQ eD iA =
 if (iA : Int) < eD then
 if 0 <= iA then
 if iA < ((List.length tQ : Nat) : Int) then
 if Ne (α := Int) (rd (.int .i64) tQ iA) rP then
 some (rd (.int .i64) tQ iA)
 else bX.l0 k m rP tQ eD (IntKind.wrap .i64 (iA + 1)) else none else none
 else some rP := by kernel_rfl
theorem kU (k : Nat) (aB : (List aF)) : bJ (k + 1) aB =
 if (List.length ([] : (List aF)) + List.length aB) * 32 <= 211106232532992 then
 some (([] : (List aF)) ++ aB) else none := by kernel_rfl
theorem iB (k : Nat) (s_0 : (List aF)) (fu : Int) : aj (k + 1) s_0 fu =
 (au k s_0 fu).bind fun r1 =>
 if (r1 : Int) = (-1) then
 some s_0
 else aj.l0 k k fu r1 (IntKind.wrap .i64 (r1 + 1)) s_0 := by kernel_rfl
theorem aj.aA (k m : Nat) (nW : Int) (je : Int) (JR : Int) (s0 : (List aF)) : aj.l0 k (m + 1) nW je JR s0 =
 if (JR : Int) < ((List.length s0 : Nat) : Int) then
 if 0 <= JR then
 if JR < ((List.length s0 : Nat) : Int) then
 (iV k (rd bR s0 JR) nW).bind fun r2 =>
 if ¬ (r2 = true) then
 if 0 <= je then
 if je < ((List.length s0 : Nat) : Int) then
 aj.l0 k m nW (IntKind.wrap .i64 (je + 1)) (IntKind.wrap .i64 (JR + 1)) (List.set s0 (Int.toNat je) (rd bR s0 JR)) else none else none
 else aj.l0 k m nW je (IntKind.wrap .i64 (JR + 1)) s0 else none else none
 else if 0 <= je then
 if je <= ((List.length s0 : Nat) : Int) then
 if 0 <= je then
 if je <= ((List.length (List.take (Int.toNat je) s0 ++ List.replicate ((Int.toNat ((List.length s0 : Nat) : Int)) - (Int.toNat je)) (Ty.dflt bR) ++ List.drop ((Int.toNat je) + ((Int.toNat ((List.length s0 : Nat) : Int)) - (Int.toNat je))) s0) : Nat) : Int) then
 some (List.take ((Int.toNat je) - (Int.toNat 0)) (List.drop (Int.toNat 0) (List.take (Int.toNat je) s0 ++ List.replicate ((Int.toNat ((List.length s0 : Nat) : Int)) - (Int.toNat je)) (Ty.dflt bR) ++ List.drop ((Int.toNat je) + ((Int.toNat ((List.length s0 : Nat) : Int)) - (Int.toNat je))) s0))) else none else none else none else none := by kernel_rfl
theorem rQ (k : Nat) (x_0 : Int) : cmp_isNaN_int (k + 1) x_0 =
 some (decide ((x_0 : Int) ≠ x_0)) := by kernel_rfl
theorem iL (k : Nat) (s_0 : (List aF)) (fu : Int) : au (k + 1) s_0 fu =
 au.l0 k k s_0 fu ((List.length s_0 : Nat) : Int) 0 := by kernel_rfl
theorem au.aA (k m : Nat) (s_0 : (List aF)) (jv : Int) (eD : Int) (iA : Int) : au.l0 k (m + 1) s_0 jv eD iA =
 if (iA : Int) < eD then
 if 0 <= iA then
 if iA < ((List.length s_0 : Nat) : Int) then
 (iV k (rd bR s_0 iA) jv).bind fun r1 =>
 if r1 = true then
 some iA
 else au.l0 k m s_0 jv eD (IntKind.wrap .i64 (iA + 1)) else none else none
 else some (-1) := by kernel_rfl
theorem qF (k : Nat) (Og : aF) (a_1 : Int) : iV (k + 1) Og a_1 =
 some (decide ((Og.2.2.2.1 : Int) ≠ a_1)) := by kernel_rfl
end Go.fZ
