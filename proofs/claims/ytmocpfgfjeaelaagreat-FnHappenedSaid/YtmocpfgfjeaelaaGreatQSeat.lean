/- What impl.SeatPlayers calls, as equations; printed by pe.py. No condition. -/
import Derived.Test.YtmocpfgfjeaelaaGreatEv
import Derived.Test.YtmocpfgfjeaelaaGreatProg
import Derived.KernelRfl
set_option linter.unusedVariables false
open Go Go.Flat
namespace Go.fZ
abbrev dV : Ty := .pair (.int .i64) (.pair (.int .i64) .unit)
abbrev cu := Int × (Int × Unit)
abbrev II : Ty := .pair (.int .i64) dV
abbrev UD := Int × cu
abbrev bL : Ty := .pair (.int .i64) II
abbrev aF := Int × UD
abbrev dx : Ty := .pair (.int .i64) (.pair (.int .i64) (.pair (.int .i64) (.pair (.list (.int .i64)) .unit)))
abbrev bF := Int × (Int × (Int × ((List Int) × Unit)))
abbrev eP : Ty := .pair (.int .i64) bL
abbrev bf := Int × aF
abbrev jC : Ty := .pair (.list bL) (.pair dV (.pair (.list dV) (.pair (.list dx) (.pair (.list (.int .i64)) (.pair (.list eP) (.pair (.list dV) dV))))))
abbrev bg := (List aF) × (cu × ((List cu) × ((List bF) × ((List Int) × ((List bf) × ((List cu) × cu))))))
abbrev Dc : Ty := .pair (.int .i64) (.pair (.int .i64) (.pair bL (.pair dV (.pair dx (.pair eP .unit)))))
abbrev kX := Int × (Int × (aF × (cu × (bF × (bf × Unit)))))
abbrev Zw : Ty := .pair (.list (.int .i64)) (.pair (.list (.int .i64)) .unit)
abbrev aaO := (List Int) × ((List Int) × Unit)
abbrev UE : Ty := .pair (.list (.int .i64)) (.pair (.int .i64) .unit)
abbrev Zx := (List Int) × (Int × Unit)
abbrev gq : Ty := .pair (.list (.int .u8)) dV
abbrev dQ := (List Int) × cu
noncomputable def C : dn := {
  P := Go.Proofs.Tryz.prog,
  tt := [(1, none), (2, some (.int .i64)), (3, some (.int .i64)), (4, some .bool), (5, some (.int .u8)), (6, some (.int .u8)), (9, some .str), (10, some .str), (11, some .str), (12, some (.int .u64)), (15, none), (16, none), (17, none), (21, some (.int .i32)), (22, some (.list (.int .u8))), (23, none), (24, some (.list bL)), (25, some dV), (26, some dV), (27, some (.list dV)), (28, some (.list dx)), (29, some (.list (.int .i64))), (30, some (.list eP)), (31, some (.list dV)), (32, some jC), (33, some jC), (34, some (.list Dc)), (36, none), (38, none), (39, some bL), (40, some bL), (41, some dV), (42, some dV), (43, some dx), (44, some dx), (45, some eP), (46, some eP), (47, some Dc), (48, some Dc), (49, none), (50, some (.list (.list II))), (52, none), (53, none), (54, some dV), (55, some dV), (57, none), (58, none), (59, some Zw), (60, some Zw), (62, none), (64, none), (65, none), (66, none), (67, none), (69, none), (70, none), (72, none), (73, none), (75, none), (76, none), (78, none), (79, none), (81, none), (82, none), (83, none), (84, none), (85, none), (86, none), (87, some (.list bL)), (88, some dV), (89, some (.list dV)), (90, some (.list dx)), (91, some (.list eP)), (92, some (.list dV)), (93, some jC), (94, some jC), (95, some dx), (96, none), (97, none), (98, none), (99, none), (100, none), (101, none), (102, none), (103, none), (104, none), (105, none), (106, none), (107, none), (108, none), (109, none), (110, none), (112, none), (113, none), (114, none), (115, none), (116, none), (117, none), (118, none), (119, none), (120, none), (121, none), (122, none), (123, none), (124, none), (125, some (.list II)), (127, none), (128, none), (129, none), (130, none), (131, none), (132, none), (133, none), (134, none), (135, some UE), (136, some UE), (138, none), (139, none), (140, none), (141, none), (142, none), (143, none), (144, none), (145, none), (146, none), (147, none), (148, none), (149, none), (150, none), (151, none), (152, none), (153, none), (154, none), (155, none), (157, none), (158, none), (159, none), (160, none), (162, none), (163, none), (164, none), (165, none), (166, none), (167, none), (168, none), (169, none), (170, none), (171, none), (172, none), (173, some dV), (174, some dV), (175, none), (176, none), (177, none), (178, none), (179, none), (180, none), (181, none), (182, none), (183, none), (184, none), (185, none), (186, none), (187, none), (188, none), (189, none), (190, none), (191, none), (192, none), (193, none), (194, none), (195, none), (196, none), (197, none), (198, some (.list .str)), (199, some gq), (200, some gq), (201, none), (202, none), (203, none), (204, none), (205, none), (206, none), (207, none), (208, none), (209, none), (210, none), (211, none), (212, some II), (213, some II), (214, none), (215, none), (216, none), (217, none), (218, none), (219, none), (221, none), (222, none), (223, none), (224, none), (225, none), (226, none), (227, none), (228, none), (229, none), (230, none), (231, some bL), (232, none), (233, some dV), (234, none), (235, some eP), (236, none), (237, some dV), (238, none), (239, none), (240, none), (241, none), (242, none), (243, none), (244, none), (245, none), (246, none), (247, none), (248, none), (249, some (.int .u64)), (250, none), (251, none), (252, none), (253, none), (254, none), (255, none), (256, none), (257, none), (258, none), (259, some (.int .i64)), (261, none), (262, none), (263, none), (264, none), (265, none), (266, some (.int .u32)), (267, none), (268, some (.int .u64)), (269, none), (270, none), (271, none), (272, none), (273, some (.int .u64)), (274, none), (275, none), (276, none), (277, none), (278, none), (279, none), (280, none), (281, none), (282, none), (283, none), (289, none), (290, some (.int .u8)), (291, some (.int .u8)), (292, none), (293, none), (294, some (.int .i32)), (295, some (.int .i32))],
  vars := [(59, [0, 5, 6, 7]), (112, [0, 1, 7, 8]), (177, [0, 3, 7, 8, 9]), (185, [0, 1, 5, 6]), (194, [0, 1, 7, 8]), (222, [3, 6, 7, 8]), (227, [0, 1, 2, 9, 10, 11]), (228, [0, 1, 2, 9, 10, 11])],
  sigs := [(185, { io := [0] })],
  ptrs := [15, 16, 17, 114, 149, 277, 280, 293] }
noncomputable def aQ (k : Nat) (aB : (List bF)) : Option Bool := run C k 177 .bool [.val (.list dx) aB]
noncomputable def aQ.l0 (k m : Nat) (aB : (List bF)) (dS : (List bF)) (gH : Int) (mh : Int) (s0 : (List Int)) : Option Bool := bR C k 177 .bool [0] [.r, .r, .l, .r, .b] [] [0, 3, 7, 8, 9] m ⟨[.one (.cell (.list false dx aB)), .one (.cell (.ref 1)), .one (.cell (.list false dx dS)), .one (.cell (.int .i64 gH)), .one (.cell (.int .i64 mh))], [.arr (.int .i64) s0 .open]⟩
noncomputable def aO (k : Nat) (aB : (List aF)) : Option Bool := run C k 59 .bool [.val (.list bL) aB]
noncomputable def aO.l0 (k m : Nat) (aB : (List aF)) (oN : (List aF)) (tV : Int) (dS : Int) : Option Bool := bR C k 59 .bool [0] [.r, .l, .r, .b] [] [0, 5, 6, 7] m ⟨[.one (.cell (.list false bL aB)), .one (.cell (.list false bL oN)), .one (.cell (.int .i64 tV)), .one (.cell (.int .i64 dS))], []⟩
noncomputable def aT (k : Nat) (UF : Int) (dU : Int) (bX : Int) : Option Bool := run C k 72 .bool [.val (.int .i64) UF, .val (.int .i64) dU, .val (.int .i64) bX]
noncomputable def cK (k : Nat) (s_0 : (List Int)) (v_1 : Int) : Option Bool := run C k 178 .bool [.val (.list (.int .i64)) s_0, .val (.int .i64) v_1]
noncomputable def jT (k : Nat) (p_0 : bF) (l_1 : (List aF)) (kR : Int) : Option Bool := run C k 181 .bool [.val dx p_0, .val (.list bL) l_1, .val (.int .i64) kR]
noncomputable def aW (k : Nat) (aB : (List Int)) (dU : Int) (bX : Int) : Option Bool := run C k 227 .bool [.val (.list (.int .i64)) aB, .val (.int .i64) dU, .val (.int .i64) bX]
noncomputable def aW.l0 (k m : Nat) (aB : (List Int)) (dU : Int) (bX : Int) (mh : (List Int)) (jH : Int) (iR : Int) : Option Bool := bR C k 227 .bool [0, 0, 0] [.r, .l, .r, .b] [] [0, 1, 2, 9, 10, 11] m ⟨[.one (.cell (.list false (.int .i64) aB)), .one (.cell (.int .i64 dU)), .one (.cell (.int .i64 bX)), .one (.cell (.list false (.int .i64) mh)), .one (.cell (.int .i64 jH)), .one (.cell (.int .i64 iR))], []⟩
noncomputable def iZ (k : Nat) (a_0 : aF) (b_1 : aF) : Option Int := run C k 164 (.int .i64) [.val bL a_0, .val bL b_1]
noncomputable def aC (k : Nat) (s_0 : (List Int)) (v_1 : Int) : Option Int := run C k 112 (.int .i64) [.val (.list (.int .i64)) s_0, .val (.int .i64) v_1]
noncomputable def aC.l0 (k m : Nat) (s_0 : (List Int)) (v_1 : Int) (dS : Int) (gH : Int) : Option Int := bR C k 112 (.int .i64) [0, 0] [.r, .l, .r, .b] [] [0, 1, 7, 8] m ⟨[.one (.cell (.list false (.int .i64) s_0)), .one (.cell (.int .i64 v_1)), .one (.cell (.int .i64 dS)), .one (.cell (.int .i64 gH))], []⟩
noncomputable def mG (k : Nat) (aB : (List aF)) (eX : Int) : Option (List aF) := run C k 83 (.list bL) [.val (.list bL) aB, .val (.int .i64) eX]
noncomputable def bA (k : Nat) (aB : (List aF)) (dU : Int) (bX : Int) : Option Bool := run C k 228 .bool [.val (.list bL) aB, .val (.int .i64) dU, .val (.int .i64) bX]
noncomputable def bA.l0 (k m : Nat) (aB : (List aF)) (dU : Int) (bX : Int) (mh : (List aF)) (jH : Int) (iR : Int) : Option Bool := bR C k 228 .bool [0, 0, 0] [.r, .l, .r, .b] [] [0, 1, 2, 9, 10, 11] m ⟨[.one (.cell (.list false bL aB)), .one (.cell (.int .i64 dU)), .one (.cell (.int .i64 bX)), .one (.cell (.list false bL mh)), .one (.cell (.int .i64 jH)), .one (.cell (.int .i64 iR))], []⟩
noncomputable def cmp_Compare_int (k : Nat) (x_0 : Int) (y_1 : Int) : Option Int := run C k 223 (.int .i64) [.val (.int .i64) x_0, .val (.int .i64) y_1]
noncomputable def bP (k : Nat) (vM : (List Int)) : Option Int := run C k 222 (.int .i64) [.val (.list (.int .i64)) vM]
noncomputable def bP.l0 (k m : Nat) (rQ : Int) (tV : (List Int)) (dS : Int) (gH : Int) : Option Int := bR C k 222 (.int .i64) [0] [.r, .r, .l, .r, .b] [] [3, 6, 7, 8] m ⟨[.one (.cell (.int .i64 rQ)), .one (.cell (.list false (.int .i64) tV)), .one (.cell (.int .i64 dS)), .one (.cell (.int .i64 gH))], []⟩
noncomputable def bH (k : Nat) (aB : (List aF)) : Option (List aF) := run C k 171 (.list bL) [.val (.list bL) aB]
noncomputable def aj (k : Nat) (s_0 : (List aF)) (eZ : Int) : Option (List aF) := run C k 185 (.list bL) [.give (.list bL) s_0, .oF 189 [.ro (.int .i64) eZ]]
noncomputable def aj.l0 (k m : Nat) (om : Int) (kF : Int) (JU : Int) (s0 : (List aF)) : Option (List aF) := bR C k 185 (.list bL) [0, 0] [.r, .r, .r, .l, .r, .b] [] [0, 1, 5, 6] m ⟨[.one (.cell (.ref 1)), .one (.cell (.oF 189 [.ro (.int .i64) om])), .one (.cell (.int .i64 kF)), .one (.cell (.int .i64 JU))], [.arr bL s0 .open]⟩
noncomputable def cmp_isNaN_int (k : Nat) (x_0 : Int) : Option Bool := run C k 254 .bool [.val (.int .i64) x_0]
noncomputable def ay (k : Nat) (s_0 : (List aF)) (eZ : Int) : Option Int := run C k 194 (.int .i64) [.val (.list bL) s_0, .oF 189 [.ro (.int .i64) eZ]]
noncomputable def ay.l0 (k m : Nat) (s_0 : (List aF)) (jA : Int) (dS : Int) (gH : Int) : Option Int := bR C k 194 (.int .i64) [0, 0] [.r, .l, .r, .b] [] [0, 1, 7, 8] m ⟨[.one (.cell (.list false bL s_0)), .one (.cell (.oF 189 [.ro (.int .i64) jA])), .one (.cell (.int .i64 dS)), .one (.cell (.int .i64 gH))], []⟩
noncomputable def iX (k : Nat) (Om : aF) (a_1 : Int) : Option Bool := run C k 189 .bool [.val bL Om, .rp (.int .i64) a_1]
theorem qd (k : Nat) (aB : (List bF)) : aQ (k + 1) aB =
 aQ.l0 k k aB aB ((List.length aB : Nat) : Int) 0 [] := by kernel_rfl
theorem aQ.aA (k m : Nat) (aB : (List bF)) (dS : (List bF)) (gH : Int) (mh : Int) (s0 : (List Int)) : aQ.l0 k (m + 1) aB dS gH mh s0 =
 if (mh : Int) < gH then
 if 0 <= mh then
 if mh < ((List.length dS : Nat) : Int) then
 (aT k (rd dx dS mh).2.1 21 (rd dx dS mh).2.2.1).bind fun r1 =>
 if ¬ (r1 = true) then
 some false
 else if LT.lt (α := Int) 108 (rd dx dS mh).2.2.1 then
 some false
 else (aW k (rd dx dS mh).2.2.2.1 1 4).bind fun r2 =>
 if ¬ (r2 = true) then
 some false
 else if (List.length s0 + List.length ([(rd dx dS mh).1] : (List Int))) * 8 <= 211106232532992 then
 aQ.l0 k m aB dS gH (IntKind.wrap .i64 (mh + 1)) (s0 ++ ([(rd dx dS mh).1] : (List Int))) else none else none else none
 else if (((List.length aB : Nat) : Int) : Int) <= 8 then
 (aW k s0 1 99).bind fun r3 =>
 some (decide (r3 = true))
 else some false := by kernel_rfl
theorem ug (k : Nat) (aB : (List aF)) : aO (k + 1) aB =
 aO.l0 k k aB aB ((List.length aB : Nat) : Int) 0 := by kernel_rfl
theorem aO.aA (k m : Nat) (aB : (List aF)) (oN : (List aF)) (tV : Int) (dS : Int) : aO.l0 k (m + 1) aB oN tV dS =
 if (dS : Int) < tV then
 if 0 <= dS then
 if dS < ((List.length oN : Nat) : Int) then
 (aT k (rd bL oN dS).1 0 2000).bind fun r1 =>
 if ¬ (r1 = true) then
 some false
 else (aT k (rd bL oN dS).2.1 1 96).bind fun r2 =>
 if ¬ (r2 = true) then
 some false
 else (aT k (rd bL oN dS).2.2.1 21 108).bind fun r3 =>
 if ¬ (r3 = true) then
 some false
 else (aT k (rd bL oN dS).2.2.2.1 1 4).bind fun r4 =>
 if ¬ (r4 = true) then
 some false
 else if (0 : Int) < dS then
 if 0 <= (IntKind.wrap .i64 (dS - 1)) then
 if (IntKind.wrap .i64 (dS - 1)) < ((List.length aB : Nat) : Int) then
 (iZ k (rd bL aB (IntKind.wrap .i64 (dS - 1))) (rd bL oN dS)).bind fun r5 =>
 if (0 : Int) <= r5 then
 some false
 else aO.l0 k m aB oN tV (IntKind.wrap .i64 (dS + 1)) else none else none
 else aO.l0 k m aB oN tV (IntKind.wrap .i64 (dS + 1)) else none else none
 else some (decide ((((List.length aB : Nat) : Int) : Int) <= 40)) := by kernel_rfl
theorem mQ (k : Nat) (UF : Int) (dU : Int) (bX : Int) : aT (k + 1) UF dU bX =
 if (dU : Int) <= UF then
 some (decide ((UF : Int) <= bX))
 else some false := by kernel_rfl
theorem jI (k : Nat) (s_0 : (List Int)) (v_1 : Int) : cK (k + 1) s_0 v_1 =
 (aC k s_0 v_1).bind fun r1 =>
 some (decide ((0 : Int) <= r1)) := by kernel_rfl
theorem jJ (k : Nat) (p_0 : bF) (l_1 : (List aF)) (kR : Int) : jT (k + 1) p_0 l_1 kR =
 (cK k p_0.2.2.2.1 kR).bind fun r1 =>
 if r1 = true then
 (aO k l_1).bind fun r2 =>
 if r2 = true then
 (mG k l_1 kR).bind fun r3 =>
 (bA k r3 p_0.2.1 p_0.2.2.1).bind fun r4 =>
 some (decide (r4 = true))
 else some false
 else some false := by kernel_rfl
theorem qI (k : Nat) (aB : (List Int)) (dU : Int) (bX : Int) : aW (k + 1) aB dU bX =
 aW.l0 k k aB dU bX aB ((List.length aB : Nat) : Int) 0 := by kernel_rfl
theorem aW.aA (k m : Nat) (aB : (List Int)) (dU : Int) (bX : Int) (mh : (List Int)) (jH : Int) (iR : Int) : aW.l0 k (m + 1) aB dU bX mh jH iR =
 if (iR : Int) < jH then
 if 0 <= iR then
 if iR < ((List.length mh : Nat) : Int) then
 (aT k (rd (.int .i64) mh iR) dU bX).bind fun r1 =>
 if ¬ (r1 = true) then
 some false
 else if (0 : Int) < iR then
 if 0 <= (IntKind.wrap .i64 (iR - 1)) then
 if (IntKind.wrap .i64 (iR - 1)) < ((List.length aB : Nat) : Int) then
 if LE.le (α := Int) (rd (.int .i64) mh iR) (rd (.int .i64) aB (IntKind.wrap .i64 (iR - 1))) then
 some false
 else aW.l0 k m aB dU bX mh jH (IntKind.wrap .i64 (iR + 1)) else none else none
 else aW.l0 k m aB dU bX mh jH (IntKind.wrap .i64 (iR + 1)) else none else none
 else some true := by kernel_rfl
theorem qg (k : Nat) (a_0 : aF) (b_1 : aF) : iZ (k + 1) a_0 b_1 =
 (cmp_Compare_int k a_0.1 b_1.1).bind fun r1 =>
 (cmp_Compare_int k a_0.2.2.2.1 b_1.2.2.2.1).bind fun r2 =>
 (cmp_Compare_int k a_0.2.2.1 b_1.2.2.1).bind fun r3 =>
 (bP k ([r1, r2, r3])).bind fun r4 =>
 some r4 := by kernel_rfl
theorem ji (k : Nat) (s_0 : (List Int)) (v_1 : Int) : aC (k + 1) s_0 v_1 =
 aC.l0 k k s_0 v_1 ((List.length s_0 : Nat) : Int) 0 := by kernel_rfl
theorem aC.aA (k m : Nat) (s_0 : (List Int)) (v_1 : Int) (dS : Int) (gH : Int) : aC.l0 k (m + 1) s_0 v_1 dS gH =
 if (gH : Int) < dS then
 if 0 <= gH then
 if gH < ((List.length s_0 : Nat) : Int) then
 if Eq (α := Int) v_1 (rd (.int .i64) s_0 gH) then
 some gH
 else aC.l0 k m s_0 v_1 dS (IntKind.wrap .i64 (gH + 1)) else none else none
 else some (-1) := by kernel_rfl
theorem uh (k : Nat) (aB : (List aF)) (eX : Int) : mG (k + 1) aB eX =
 (bH k aB).bind fun r1 =>
 (aj k r1 eX).bind fun r2 =>
 some r2 := by kernel_rfl
theorem qJ (k : Nat) (aB : (List aF)) (dU : Int) (bX : Int) : bA (k + 1) aB dU bX =
 bA.l0 k k aB dU bX aB ((List.length aB : Nat) : Int) 0 := by kernel_rfl
theorem bA.aA (k m : Nat) (aB : (List aF)) (dU : Int) (bX : Int) (mh : (List aF)) (jH : Int) (iR : Int) : bA.l0 k (m + 1) aB dU bX mh jH iR =
 if (iR : Int) < jH then
 if 0 <= iR then
 if iR < ((List.length mh : Nat) : Int) then
 (aT k (rd bL mh iR).2.2.1 dU bX).bind fun r1 =>
 if ¬ (r1 = true) then
 some false
 else bA.l0 k m aB dU bX mh jH (IntKind.wrap .i64 (iR + 1)) else none else none
 else (aO k aB).bind fun r2 =>
 some (decide (r2 = true)) := by kernel_rfl
theorem iK (k : Nat) (x_0 : Int) (y_1 : Int) : cmp_Compare_int (k + 1) x_0 y_1 =
 (cmp_isNaN_int k x_0).bind fun r1 =>
 (cmp_isNaN_int k y_1).bind fun r2 =>
 if r1 = true then
 if r2 = true then
 some 0
 else some (-1)
 else if r2 = true then
 some 1
 else if (x_0 : Int) < y_1 then
 some (-1)
 else if (y_1 : Int) < x_0 then
 some 1
 else some 0 := by kernel_rfl
theorem sN (k : Nat) (vM : (List Int)) : bP (k + 1) vM =
 bP.l0 k k 0 vM ((List.length vM : Nat) : Int) 0 := by kernel_rfl
theorem bP.aA (k m : Nat) (rQ : Int) (tV : (List Int)) (dS : Int) (gH : Int) : bP.l0 k (m + 1) rQ tV dS gH =
 if (gH : Int) < dS then
 if 0 <= gH then
 if gH < ((List.length tV : Nat) : Int) then
 if Ne (α := Int) (rd (.int .i64) tV gH) rQ then
 some (rd (.int .i64) tV gH)
 else bP.l0 k m rQ tV dS (IntKind.wrap .i64 (gH + 1)) else none else none
 else some rQ := by kernel_rfl
theorem kY (k : Nat) (aB : (List aF)) : bH (k + 1) aB =
 if (List.length ([] : (List aF)) + List.length aB) * 32 <= 211106232532992 then
 some (([] : (List aF)) ++ aB) else none := by kernel_rfl
theorem iC (k : Nat) (s_0 : (List aF)) (eZ : Int) : aj (k + 1) s_0 eZ =
 (ay k s_0 eZ).bind fun r1 =>
 if (r1 : Int) = (-1) then
 some s_0
 else aj.l0 k k eZ r1 (IntKind.wrap .i64 (r1 + 1)) s_0 := by kernel_rfl
theorem aj.aA (k m : Nat) (om : Int) (kF : Int) (JU : Int) (s0 : (List aF)) : aj.l0 k (m + 1) om kF JU s0 =
 if (JU : Int) < ((List.length s0 : Nat) : Int) then
 if 0 <= JU then
 if JU < ((List.length s0 : Nat) : Int) then
 (iX k (rd bL s0 JU) om).bind fun r2 =>
 if ¬ (r2 = true) then
 if 0 <= kF then
 if kF < ((List.length s0 : Nat) : Int) then
 aj.l0 k m om (IntKind.wrap .i64 (kF + 1)) (IntKind.wrap .i64 (JU + 1)) (List.set s0 (Int.toNat kF) (rd bL s0 JU)) else none else none
 else aj.l0 k m om kF (IntKind.wrap .i64 (JU + 1)) s0 else none else none
 else if 0 <= kF then
 if kF <= ((List.length s0 : Nat) : Int) then
 if 0 <= kF then
 if kF <= ((List.length (List.take (Int.toNat kF) s0 ++ List.replicate ((Int.toNat ((List.length s0 : Nat) : Int)) - (Int.toNat kF)) (Ty.dflt bL) ++ List.drop ((Int.toNat kF) + ((Int.toNat ((List.length s0 : Nat) : Int)) - (Int.toNat kF))) s0) : Nat) : Int) then
 some (List.take ((Int.toNat kF) - (Int.toNat 0)) (List.drop (Int.toNat 0) (List.take (Int.toNat kF) s0 ++ List.replicate ((Int.toNat ((List.length s0 : Nat) : Int)) - (Int.toNat kF)) (Ty.dflt bL) ++ List.drop ((Int.toNat kF) + ((Int.toNat ((List.length s0 : Nat) : Int)) - (Int.toNat kF))) s0))) else none else none else none else none := by kernel_rfl
theorem rR (k : Nat) (x_0 : Int) : cmp_isNaN_int (k + 1) x_0 =
 some (decide ((x_0 : Int) ≠ x_0)) := by kernel_rfl
theorem iL (k : Nat) (s_0 : (List aF)) (eZ : Int) : ay (k + 1) s_0 eZ =
 ay.l0 k k s_0 eZ ((List.length s_0 : Nat) : Int) 0 := by kernel_rfl
theorem ay.aA (k m : Nat) (s_0 : (List aF)) (jA : Int) (dS : Int) (gH : Int) : ay.l0 k (m + 1) s_0 jA dS gH =
 if (gH : Int) < dS then
 if 0 <= gH then
 if gH < ((List.length s_0 : Nat) : Int) then
 (iX k (rd bL s_0 gH) jA).bind fun r1 =>
 if r1 = true then
 some gH
 else ay.l0 k m s_0 jA dS (IntKind.wrap .i64 (gH + 1)) else none else none
 else some (-1) := by kernel_rfl
theorem qK (k : Nat) (Om : aF) (a_1 : Int) : iX (k + 1) Om a_1 =
 some (decide ((Om.2.2.2.1 : Int) ≠ a_1)) := by kernel_rfl
end Go.fZ
