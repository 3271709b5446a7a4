/- The functions that the law FnExactWriteAll reaches, as equations; printed by pe.py. No condition. -/
import Derived.Test.YtkfnhbdloidfmaaEv
import Derived.Test.YtkfnhbdloidfmaaProg
import Derived.KernelRfl
set_option linter.unusedVariables false
open Go Go.Flat
namespace Go.QFnExactWriteAll
abbrev T44 : Ty := .pair (.int .i64) (.pair (.list (.int .i64)) .unit)
abbrev DT44 := Int × ((List Int) × Unit)
abbrev T107 : Ty := .pair (.int .i64) (.pair (.int .i64) T44)
abbrev DT107 := Int × (Int × DT44)
abbrev T71 : Ty := .pair (.int .i64) (.pair (.int .i64) .unit)
abbrev DT71 := Int × (Int × Unit)
abbrev T157 : Ty := .pair (.int .i64) T71
abbrev DT157 := Int × DT71
abbrev T135 : Ty := .pair (.int .i64) T157
abbrev DT135 := Int × DT157
abbrev T139 : Ty := .pair (.int .i64) T135
abbrev DT139 := Int × DT135
abbrev T141 : Ty := .pair (.int .i64) (.pair (.int .i64) (.pair T135 (.pair T71 (.pair T107 (.pair T139 .unit)))))
abbrev DT141 := Int × (Int × (DT135 × (DT71 × (DT107 × (DT139 × Unit)))))
abbrev T77 : Ty := .pair (.list T135) (.pair T71 (.pair (.list T71) (.pair (.dlist T107) (.pair (.list (.int .i64)) (.pair (.list T139) (.pair (.list T71) T71))))))
abbrev DT77 := (List DT135) × (DT71 × ((List DT71) × ((List DT107) × ((List Int) × ((List DT139) × ((List DT71) × DT71))))))
abbrev T181 : Ty := .pair (.list (.int .u8)) T71
abbrev DT181 := (List Int) × DT71
noncomputable def C : Cfg := {
  P := Go.Proofs.Try.prog,
  tt := [(1, none), (2, some (.int .i64)), (3, some (.int .i64)), (4, some .bool), (5, some (.int .u8)), (6, some (.int .u8)), (9, some .str), (10, some .str), (11, some .str), (12, some (.int .u64)), (15, none), (16, none), (17, none), (21, some (.int .i32)), (22, some (.dlist T107)), (23, none), (24, none), (25, none), (26, none), (27, some (.list (.int .u8))), (28, none), (29, some (.dlist (.list (.int .i64)))), (30, some (.list (.int .i64))), (32, none), (34, none), (35, none), (36, none), (37, none), (38, some (.dlist T44)), (40, none), (41, none), (42, none), (43, none), (44, some T44), (45, some T44), (47, none), (49, none), (50, none), (51, none), (52, some (.dlist T44)), (53, none), (54, none), (55, none), (56, none), (57, none), (58, none), (59, some (.list T135)), (60, none), (61, some (.dlist T141)), (62, none), (63, some (.list T135)), (64, none), (65, none), (66, none), (67, none), (68, none), (69, none), (70, none), (71, some T71), (72, some T71), (73, some (.list T71)), (74, some (.dlist T107)), (75, some (.list T139)), (76, some (.list T71)), (77, some T77), (78, some T77), (79, none), (80, some (.list T157)), (82, none), (83, some T71), (84, some (.list T71)), (85, some (.list T139)), (86, some (.list T71)), (87, some T77), (88, some T77), (89, none), (90, none), (91, none), (92, none), (93, none), (94, none), (95, some (.list T71)), (96, none), (97, none), (98, none), (99, none), (101, none), (102, none), (103, none), (104, none), (105, none), (106, none), (107, some T107), (108, some T107), (109, none), (110, none), (111, none), (112, none), (113, none), (114, none), (115, none), (116, none), (117, none), (118, none), (119, none), (120, none), (121, none), (122, none), (123, none), (124, none), (125, none), (126, none), (127, none), (128, none), (129, none), (130, none), (131, some T44), (132, none), (133, none), (134, none), (135, some T135), (136, some T135), (137, some T71), (138, some T71), (139, some T139), (140, some T139), (141, some T141), (142, some T141), (143, none), (144, some T135), (145, none), (146, none), (147, none), (148, none), (149, none), (150, none), (151, none), (152, none), (153, none), (154, none), (155, none), (156, none), (157, some T157), (158, some T157), (159, none), (160, none), (161, none), (162, none), (163, none), (164, none), (165, none), (166, none), (167, some T71), (168, some T71), (170, none), (171, none), (172, none), (173, some T107), (174, none), (175, none), (176, none), (177, some (.dlist (.list T157))), (179, none), (180, none), (181, some T181), (182, some T181), (183, none), (184, none), (185, none), (186, none), (187, none), (188, none), (189, none), (190, none), (191, none), (192, none), (193, some T71), (194, none), (195, some T139), (196, some T71), (197, some T71), (198, none), (199, some T71), (200, none), (201, none), (202, none), (203, none), (204, some (.int .u64)), (205, none), (206, none), (207, none), (208, none), (209, none), (210, none), (211, none), (212, none), (213, none), (214, none), (215, none), (217, none), (218, none), (219, none), (220, none), (221, none), (222, some (.int .i64)), (224, none), (225, none), (226, none), (228, none), (229, none), (230, some (.int .u32)), (231, none), (232, some (.int .u64)), (233, none), (234, none), (235, none), (236, none), (237, none), (238, none), (239, none), (240, none), (241, none), (242, none), (243, none), (244, none), (245, some (.int .u64)), (246, none), (247, none), (248, none), (249, none), (250, none), (251, none), (252, none), (253, none), (254, none), (256, none), (257, none), (258, none), (259, none), (260, none), (261, none), (262, none), (263, none), (264, none), (265, none), (271, none), (272, some (.int .u8)), (273, some (.int .u8)), (274, none), (275, none), (276, some (.int .i32)), (277, some (.int .i32))],
  vars := [(37, [0, 1, 5]), (40, [0, 1, 5]), (41, [0, 1, 5]), (43, [0, 3, 4]), (44, [0, 3, 4]), (45, [3, 7, 8, 9]), (46, [0, 1, 5]), (47, [0, 1, 5]), (48, [0, 1, 5]), (49, [0, 1, 5]), (50, [0, 1, 5])],
  sigs := [(40, { lend := some 0 }), (48, { lend := some 0 }), (49, { lend := some 0 })] }
noncomputable def laws_FnExactWriteAll (k : Nat) (aL_0 : (List DT135)) : Option Bool := run C k 7 .bool [.val (.list T135) aL_0]
noncomputable def laws_szEventS (k : Nat) (a_0 : (List DT135)) (left_1 : Int) : Option Int := run C k 42 (.int .i64) [.val (.list T135) a_0, .val (.int .i64) left_1]
noncomputable def laws_toEventS (k : Nat) (a_0 : (List DT135)) : Option (List DT135) := run C k 44 (.list T135) [.val (.list T135) a_0]
noncomputable def laws_toEventS.l0 (k m : Nat) (a_0 : (List DT135)) (i_4 : Int) (s0 : (List DT135)) : Option (List DT135) := loopRun C k 44 (.list T135) [0] [.r, .r, .l, .r, .b] [] [0, 3, 4] m ⟨[.one (.cell (.list false T135 a_0)), .one (.cell (.ref 1)), .one (.cell (.int .i64 i_4))], [.arr T135 s0 .open]⟩
noncomputable def spec_WriteAll (k : Nat) (l_0 : (List DT135)) : Option (List DT141) := run C k 43 (.dlist T141) [.val (.list T135) l_0]
noncomputable def spec_WriteAll.l0 (k m : Nat) (l_0 : (List DT135)) (i_4 : Int) (s0 : (List DT141)) : Option (List DT141) := loopRun C k 43 (.dlist T141) [0] [.r, .r, .l, .r, .b] [] [0, 3, 4] m ⟨[.one (.cell (.list false T135 l_0)), .one (.cell (.dref 1)), .one (.cell (.int .i64 i_4))], [.deep T141 s0 none]⟩
noncomputable def impl_WriteAll (k : Nat) (l_0 : (List DT135)) : Option (List DT141) := run C k 45 (.dlist T141) [.val (.list T135) l_0]
noncomputable def impl_WriteAll.l0 (k m : Nat) (t_7 : (List DT135)) (t_8 : Int) (t_9 : Int) (s0 : (List DT141)) : Option (List DT141) := loopRun C k 45 (.dlist T141) [0] [.r, .r, .l, .r, .b] [] [3, 7, 8, 9] m ⟨[.one (.cell (.dref 1)), .one (.cell (.list false T135 t_7)), .one (.cell (.int .i64 t_8)), .one (.cell (.int .i64 t_9))], [.deep T141 s0 none]⟩
noncomputable def laws_eqHappeningS (k : Nat) (a_0 : (List DT141)) (b_1 : (List DT141)) : Option Bool := run C k 46 .bool [.val (.dlist T141) a_0, .val (.dlist T141) b_1]
noncomputable def laws_eqHappeningS.l0 (k m : Nat) (a_0 : (List DT141)) (b_1 : (List DT141)) (i_5 : Int) : Option Bool := loopRun C k 46 .bool [0, 0] [.r, .r, .l, .r, .b] [] [0, 1, 5] m ⟨[.one (.cell (.list false T141 a_0)), .one (.cell (.list false T141 b_1)), .one (.cell (.int .i64 i_5))], []⟩
noncomputable def laws_eqEventS (k : Nat) (a_0 : (List DT135)) (b_1 : (List DT135)) : Option Bool := run C k 47 .bool [.val (.list T135) a_0, .val (.list T135) b_1]
noncomputable def laws_eqEventS.l0 (k m : Nat) (a_0 : (List DT135)) (b_1 : (List DT135)) (i_5 : Int) : Option Bool := loopRun C k 47 .bool [0, 0] [.r, .r, .l, .r, .b] [] [0, 1, 5] m ⟨[.one (.cell (.list false T135 a_0)), .one (.cell (.list false T135 b_1)), .one (.cell (.int .i64 i_5))], []⟩
noncomputable def laws_markEventS (k : Nat) (a_0 : (List DT135)) (k_1 : Int) : Option (Int × (List DT135)) := run C k 48 (.pair (.int .i64) (.list T135)) [.lend (.list T135) a_0, .val (.int .i64) k_1]
noncomputable def laws_markEventS.l0 (k m : Nat) (k_1 : Int) (i_5 : Int) (s0 : (List DT135)) : Option (Int × (List DT135)) := loopRunL C k 48 (.pair (.int .i64) (.list T135)) 0 (.list T135) 2 [.r, .l, .r, .b] [] [0, 1, 5] m ⟨[.one (.cell (.ref 1)), .one (.cell (.int .i64 k_1)), .one (.cell (.int .i64 i_5))], [.arr T135 s0 (.pinned 0)]⟩
noncomputable def laws_markHappeningS (k : Nat) (a_0 : (List DT141)) (k_1 : Int) : Option (Int × (List DT141)) := run C k 49 (.pair (.int .i64) (.dlist T141)) [.lend (.dlist T141) a_0, .val (.int .i64) k_1]
noncomputable def laws_markHappeningS.l0 (k m : Nat) (k_1 : Int) (i_5 : Int) (s0 : (List DT141)) : Option (Int × (List DT141)) := loopRunL C k 49 (.pair (.int .i64) (.dlist T141)) 0 (.dlist T141) 2 [.r, .l, .r, .b] [] [0, 1, 5] m ⟨[.one (.cell (.dref 1)), .one (.cell (.int .i64 k_1)), .one (.cell (.int .i64 i_5))], [.deep T141 s0 (some 0)]⟩
noncomputable def laws_heldHappeningS (k : Nat) (a_0 : (List DT141)) (k_1 : Int) : Option Int := run C k 50 (.int .i64) [.val (.dlist T141) a_0, .val (.int .i64) k_1]
noncomputable def laws_heldHappeningS.l0 (k m : Nat) (a_0 : (List DT141)) (k_1 : Int) (i_5 : Int) : Option Int := loopRun C k 50 (.int .i64) [0, 0] [.r, .l, .r, .b] [] [0, 1, 5] m ⟨[.one (.cell (.list false T141 a_0)), .one (.cell (.int .i64 k_1)), .one (.cell (.int .i64 i_5))], []⟩
noncomputable def laws_toEvent (k : Nat) (a_0 : DT135) : Option DT135 := run C k 103 T135 [.val T135 a_0]
noncomputable def laws_eqHappening (k : Nat) (a_0 : DT141) (b_1 : DT141) : Option Bool := run C k 104 .bool [.val T141 a_0, .val T141 b_1]
noncomputable def laws_eqEvent (k : Nat) (a_0 : DT135) (b_1 : DT135) : Option Bool := run C k 105 .bool [.val T135 a_0, .val T135 b_1]
noncomputable def laws_markIntS (k : Nat) (a_0 : (List Int)) (k_1 : Int) : Option (Int × (List Int)) := run C k 40 (.pair (.int .i64) (.list (.int .i64))) [.lend (.list (.int .i64)) a_0, .val (.int .i64) k_1]
noncomputable def laws_markIntS.l0 (k m : Nat) (k_1 : Int) (i_5 : Int) (s0 : (List Int)) : Option (Int × (List Int)) := loopRunL C k 40 (.pair (.int .i64) (.list (.int .i64))) 0 (.list (.int .i64)) 2 [.r, .l, .r, .b] [] [0, 1, 5] m ⟨[.one (.cell (.ref 1)), .one (.cell (.int .i64 k_1)), .one (.cell (.int .i64 i_5))], [.arr (.int .i64) s0 (.pinned 0)]⟩
noncomputable def laws_heldIntS (k : Nat) (a_0 : (List Int)) (k_1 : Int) : Option Int := run C k 41 (.int .i64) [.val (.list (.int .i64)) a_0, .val (.int .i64) k_1]
noncomputable def laws_heldIntS.l0 (k m : Nat) (a_0 : (List Int)) (k_1 : Int) (i_5 : Int) : Option Int := loopRun C k 41 (.int .i64) [0, 0] [.r, .l, .r, .b] [] [0, 1, 5] m ⟨[.one (.cell (.list false (.int .i64) a_0)), .one (.cell (.int .i64 k_1)), .one (.cell (.int .i64 i_5))], []⟩
noncomputable def laws_eqTempo (k : Nat) (a_0 : DT71) (b_1 : DT71) : Option Bool := run C k 156 .bool [.val T71 a_0, .val T71 b_1]
noncomputable def laws_eqPlayer (k : Nat) (a_0 : DT107) (b_1 : DT107) : Option Bool := run C k 75 .bool [.val T107 a_0, .val T107 b_1]
noncomputable def laws_eqMark (k : Nat) (a_0 : DT139) (b_1 : DT139) : Option Bool := run C k 157 .bool [.val T139 a_0, .val T139 b_1]
noncomputable def laws_eqIntS (k : Nat) (a_0 : (List Int)) (b_1 : (List Int)) : Option Bool := run C k 37 .bool [.val (.list (.int .i64)) a_0, .val (.list (.int .i64)) b_1]
noncomputable def laws_eqIntS.l0 (k m : Nat) (a_0 : (List Int)) (b_1 : (List Int)) (i_5 : Int) : Option Bool := loopRun C k 37 .bool [0, 0] [.r, .r, .l, .r, .b] [] [0, 1, 5] m ⟨[.one (.cell (.list false (.int .i64) a_0)), .one (.cell (.list false (.int .i64) b_1)), .one (.cell (.int .i64 i_5))], []⟩
theorem laws_FnExactWriteAll_eq (k : Nat) (aL_0 : (List DT135)) : laws_FnExactWriteAll (k + 1) aL_0 =
 (laws_szEventS k aL_0 1048576).bind fun r1 =>
 if (r1 : Int) < 0 then
 some true
 else (laws_toEventS k aL_0).bind fun r2 =>
 (spec_WriteAll k r2).bind fun r3 =>
 (laws_toEventS k aL_0).bind fun r4 =>
 (impl_WriteAll k r4).bind fun r5 =>
 (laws_eqHappeningS k r5 r3).bind fun r6 =>
 if ¬ (r6 = true) then
 some false
 else (laws_toEventS k aL_0).bind fun r7 =>
 (laws_eqEventS k r4 r7).bind fun r8 =>
 if ¬ (r8 = true) then
 some false
 else (laws_markEventS k r4 1).bind fun r9 =>
 if (r9.1 : Int) < 0 then
 some false
 else (laws_eqHappeningS k r5 r3).bind fun r10 =>
 if ¬ (r10 = true) then
 some false
 else (laws_markHappeningS k r5 1).bind fun r11 =>
 (laws_heldHappeningS k r11.2 1).bind fun r12 =>
 if (r12 : Int) < 0 then
 some false
 else if (r12 : Int) ≠ r11.1 then
 some false
 else (laws_toEventS k aL_0).bind fun r13 =>
 (impl_WriteAll k r13).bind fun r14 =>
 (laws_eqHappeningS k r14 r3).bind fun r15 =>
 if ¬ (r15 = true) then
 some false
 else (laws_heldHappeningS k r11.2 1).bind fun r16 =>
 if (r16 : Int) < 0 then
 some false
 else if (r16 : Int) ≠ r11.1 then
 some false
 else some true := by kernel_rfl
theorem laws_szEventS_eq (k : Nat) (a_0 : (List DT135)) (left_1 : Int) : laws_szEventS (k + 1) a_0 left_1 =
 if ((IntKind.wrap .i64 (left_1 - ((List.length a_0 : Nat) : Int))) : Int) < 0 then
 some (-1)
 else some (IntKind.wrap .i64 (left_1 - ((List.length a_0 : Nat) : Int))) := by kernel_rfl
theorem laws_toEventS_eq (k : Nat) (a_0 : (List DT135)) : laws_toEventS (k + 1) a_0 =
 if 0 ≤ ((List.length a_0 : Nat) : Int) then
 if ((List.length a_0 : Nat) : Int) ≤ ((List.length a_0 : Nat) : Int) then
 if ((List.length a_0 : Nat) : Int) * 32 ≤ 211106232532992 then
 laws_toEventS.l0 k k a_0 0 (List.replicate (Int.toNat ((List.length a_0 : Nat) : Int)) (Ty.dflt T135)) else none else none else none := by kernel_rfl
theorem laws_toEventS.l0_eq (k m : Nat) (a_0 : (List DT135)) (i_4 : Int) (s0 : (List DT135)) : laws_toEventS.l0 k (m + 1) a_0 i_4 s0 =
 if (i_4 : Int) < ((List.length a_0 : Nat) : Int) then
 if 0 ≤ i_4 then
 if i_4 < ((List.length a_0 : Nat) : Int) then
 (laws_toEvent k (rd T135 a_0 i_4)).bind fun r1 =>
 if 0 ≤ i_4 then
 if i_4 < ((List.length s0 : Nat) : Int) then
 laws_toEventS.l0 k m a_0 (IntKind.wrap .i64 (i_4 + 1)) (List.set s0 (Int.toNat i_4) r1) else none else none else none else none
 else some s0 := by kernel_rfl
theorem spec_WriteAll_eq (k : Nat) (l_0 : (List DT135)) : spec_WriteAll (k + 1) l_0 =
 spec_WriteAll.l0 k k l_0 0 [] := by kernel_rfl
theorem spec_WriteAll.l0_eq (k m : Nat) (l_0 : (List DT135)) (i_4 : Int) (s0 : (List DT141)) : spec_WriteAll.l0 k (m + 1) l_0 i_4 s0 =
 if (i_4 : Int) < ((List.length l_0 : Nat) : Int) then
 if 0 ≤ i_4 then
 if i_4 < ((List.length l_0 : Nat) : Int) then
 if (List.length s0 + List.length ([(1, (0, ((rd T135 l_0 i_4), ((0, (0, ())), ((0, (0, (0, ([], ())))), ((0, (0, (0, (0, (0, ()))))), ()))))))] : (List DT141))) * 152 ≤ 211106232532992 then
 spec_WriteAll.l0 k m l_0 (IntKind.wrap .i64 (i_4 + 1)) (s0 ++ ([(1, (0, ((rd T135 l_0 i_4), ((0, (0, ())), ((0, (0, (0, ([], ())))), ((0, (0, (0, (0, (0, ()))))), ()))))))] : (List DT141))) else none else none else none
 else some s0 := by kernel_rfl
theorem impl_WriteAll_eq (k : Nat) (l_0 : (List DT135)) : impl_WriteAll (k + 1) l_0 =
 impl_WriteAll.l0 k k l_0 ((List.length l_0 : Nat) : Int) 0 [] := by kernel_rfl
theorem impl_WriteAll.l0_eq (k m : Nat) (t_7 : (List DT135)) (t_8 : Int) (t_9 : Int) (s0 : (List DT141)) : impl_WriteAll.l0 k (m + 1) t_7 t_8 t_9 s0 =
 if (t_9 : Int) < t_8 then
 if 0 ≤ t_9 then
 if t_9 < ((List.length t_7 : Nat) : Int) then
 if (List.length s0 + List.length ([(1, (0, ((rd T135 t_7 t_9), ((0, (0, ())), ((0, (0, (0, ([], ())))), ((0, (0, (0, (0, (0, ()))))), ()))))))] : (List DT141))) * 152 ≤ 211106232532992 then
 impl_WriteAll.l0 k m t_7 t_8 (IntKind.wrap .i64 (t_9 + 1)) (s0 ++ ([(1, (0, ((rd T135 t_7 t_9), ((0, (0, ())), ((0, (0, (0, ([], ())))), ((0, (0, (0, (0, (0, ()))))), ()))))))] : (List DT141))) else none else none else none
 else some s0 := by kernel_rfl
theorem laws_eqHappeningS_eq (k : Nat) (a_0 : (List DT141)) (b_1 : (List DT141)) : laws_eqHappeningS (k + 1) a_0 b_1 =
 if (((List.length a_0 : Nat) : Int) : Int) ≠ ((List.length b_1 : Nat) : Int) then
 some false
 else laws_eqHappeningS.l0 k k a_0 b_1 0 := by kernel_rfl
theorem laws_eqHappeningS.l0_eq (k m : Nat) (a_0 : (List DT141)) (b_1 : (List DT141)) (i_5 : Int) : laws_eqHappeningS.l0 k (m + 1) a_0 b_1 i_5 =
 if (i_5 : Int) < ((List.length a_0 : Nat) : Int) then
 if 0 ≤ i_5 then
 if i_5 < ((List.length a_0 : Nat) : Int) then
 if 0 ≤ i_5 then
 if i_5 < ((List.length b_1 : Nat) : Int) then
 (laws_eqHappening k (rd T141 a_0 i_5) (rd T141 b_1 i_5)).bind fun r1 =>
 if ¬ (r1 = true) then
 some false
 else laws_eqHappeningS.l0 k m a_0 b_1 (IntKind.wrap .i64 (i_5 + 1)) else none else none else none else none
 else some true := by kernel_rfl
theorem laws_eqEventS_eq (k : Nat) (a_0 : (List DT135)) (b_1 : (List DT135)) : laws_eqEventS (k + 1) a_0 b_1 =
 if (((List.length a_0 : Nat) : Int) : Int) ≠ ((List.length b_1 : Nat) : Int) then
 some false
 else laws_eqEventS.l0 k k a_0 b_1 0 := by kernel_rfl
theorem laws_eqEventS.l0_eq (k m : Nat) (a_0 : (List DT135)) (b_1 : (List DT135)) (i_5 : Int) : laws_eqEventS.l0 k (m + 1) a_0 b_1 i_5 =
 if (i_5 : Int) < ((List.length a_0 : Nat) : Int) then
 if 0 ≤ i_5 then
 if i_5 < ((List.length a_0 : Nat) : Int) then
 if 0 ≤ i_5 then
 if i_5 < ((List.length b_1 : Nat) : Int) then
 (laws_eqEvent k (rd T135 a_0 i_5) (rd T135 b_1 i_5)).bind fun r1 =>
 if ¬ (r1 = true) then
 some false
 else laws_eqEventS.l0 k m a_0 b_1 (IntKind.wrap .i64 (i_5 + 1)) else none else none else none else none
 else some true := by kernel_rfl
theorem laws_markEventS_eq (k : Nat) (a_0 : (List DT135)) (k_1 : Int) : laws_markEventS (k + 1) a_0 k_1 =
 laws_markEventS.l0 k k k_1 0 a_0 := by kernel_rfl
theorem laws_markEventS.l0_eq (k m : Nat) (k_1 : Int) (i_5 : Int) (s0 : (List DT135)) : laws_markEventS.l0 k (m + 1) k_1 i_5 s0 =
 if (i_5 : Int) < ((List.length s0 : Nat) : Int) then
 if 0 ≤ i_5 then
 if i_5 < ((List.length s0 : Nat) : Int) then
 if 0 ≤ i_5 then
 if i_5 < ((List.length (setAt T135 s0 i_5 (fun yy => (k_1, yy.2))) : Nat) : Int) then
 if 0 ≤ i_5 then
 if i_5 < ((List.length (setAt T135 (setAt T135 s0 i_5 (fun yy => (k_1, yy.2))) i_5 (fun yy => (yy.1, (IntKind.wrap .i64 (k_1 + 1), yy.2.2)))) : Nat) : Int) then
 if 0 ≤ i_5 then
 if i_5 < ((List.length (setAt T135 (setAt T135 (setAt T135 s0 i_5 (fun yy => (k_1, yy.2))) i_5 (fun yy => (yy.1, (IntKind.wrap .i64 (k_1 + 1), yy.2.2)))) i_5 (fun yy => (yy.1, (yy.2.1, (IntKind.wrap .i64 ((IntKind.wrap .i64 (k_1 + 1)) + 1), yy.2.2.2))))) : Nat) : Int) then
 laws_markEventS.l0 k m (IntKind.wrap .i64 ((IntKind.wrap .i64 ((IntKind.wrap .i64 ((IntKind.wrap .i64 (k_1 + 1)) + 1)) + 1)) + 1)) (IntKind.wrap .i64 (i_5 + 1)) (setAt T135 (setAt T135 (setAt T135 (setAt T135 s0 i_5 (fun yy => (k_1, yy.2))) i_5 (fun yy => (yy.1, (IntKind.wrap .i64 (k_1 + 1), yy.2.2)))) i_5 (fun yy => (yy.1, (yy.2.1, (IntKind.wrap .i64 ((IntKind.wrap .i64 (k_1 + 1)) + 1), yy.2.2.2))))) i_5 (fun yy => (yy.1, (yy.2.1, (yy.2.2.1, (IntKind.wrap .i64 ((IntKind.wrap .i64 ((IntKind.wrap .i64 (k_1 + 1)) + 1)) + 1), ())))))) else none else none else none else none else none else none else none else none
 else some (k_1, s0) := by kernel_rfl
theorem laws_markHappeningS_eq (k : Nat) (a_0 : (List DT141)) (k_1 : Int) : laws_markHappeningS (k + 1) a_0 k_1 =
 laws_markHappeningS.l0 k k k_1 0 a_0 := by kernel_rfl
theorem laws_markHappeningS.l0_eq (k m : Nat) (k_1 : Int) (i_5 : Int) (s0 : (List DT141)) : laws_markHappeningS.l0 k (m + 1) k_1 i_5 s0 =
 if (i_5 : Int) < ((List.length s0 : Nat) : Int) then
 if 0 ≤ i_5 then
 if i_5 < ((List.length s0 : Nat) : Int) then
 if 0 ≤ i_5 then
 if i_5 < ((List.length (setAt T141 s0 i_5 (fun yy => (k_1, yy.2))) : Nat) : Int) then
 if 0 ≤ i_5 then
 if i_5 < ((List.length (setAt T141 (setAt T141 s0 i_5 (fun yy => (k_1, yy.2))) i_5 (fun yy => (yy.1, (IntKind.wrap .i64 (k_1 + 1), yy.2.2)))) : Nat) : Int) then
 if 0 ≤ i_5 then
 if i_5 < ((List.length (setAt T141 (setAt T141 (setAt T141 s0 i_5 (fun yy => (k_1, yy.2))) i_5 (fun yy => (yy.1, (IntKind.wrap .i64 (k_1 + 1), yy.2.2)))) i_5 (fun yy => (yy.1, (yy.2.1, ((IntKind.wrap .i64 ((IntKind.wrap .i64 (k_1 + 1)) + 1), yy.2.2.1.2), yy.2.2.2))))) : Nat) : Int) then
 if 0 ≤ i_5 then
 if i_5 < ((List.length (setAt T141 (setAt T141 (setAt T141 (setAt T141 s0 i_5 (fun yy => (k_1, yy.2))) i_5 (fun yy => (yy.1, (IntKind.wrap .i64 (k_1 + 1), yy.2.2)))) i_5 (fun yy => (yy.1, (yy.2.1, ((IntKind.wrap .i64 ((IntKind.wrap .i64 (k_1 + 1)) + 1), yy.2.2.1.2), yy.2.2.2))))) i_5 (fun yy => (yy.1, (yy.2.1, ((yy.2.2.1.1, (IntKind.wrap .i64 ((IntKind.wrap .i64 ((IntKind.wrap .i64 (k_1 + 1)) + 1)) + 1), yy.2.2.1.2.2)), yy.2.2.2))))) : Nat) : Int) then
 if 0 ≤ i_5 then
 if i_5 < ((List.length (setAt T141 (setAt T141 (setAt T141 (setAt T141 (setAt T141 s0 i_5 (fun yy => (k_1, yy.2))) i_5 (fun yy => (yy.1, (IntKind.wrap .i64 (k_1 + 1), yy.2.2)))) i_5 (fun yy => (yy.1, (yy.2.1, ((IntKind.wrap .i64 ((IntKind.wrap .i64 (k_1 + 1)) + 1), yy.2.2.1.2), yy.2.2.2))))) i_5 (fun yy => (yy.1, (yy.2.1, ((yy.2.2.1.1, (IntKind.wrap .i64 ((IntKind.wrap .i64 ((IntKind.wrap .i64 (k_1 + 1)) + 1)) + 1), yy.2.2.1.2.2)), yy.2.2.2))))) i_5 (fun yy => (yy.1, (yy.2.1, ((yy.2.2.1.1, (yy.2.2.1.2.1, (IntKind.wrap .i64 ((IntKind.wrap .i64 ((IntKind.wrap .i64 ((IntKind.wrap .i64 (k_1 + 1)) + 1)) + 1)) + 1), yy.2.2.1.2.2.2))), yy.2.2.2))))) : Nat) : Int) then
 if 0 ≤ i_5 then
 if i_5 < ((List.length (setAt T141 (setAt T141 (setAt T141 (setAt T141 (setAt T141 (setAt T141 s0 i_5 (fun yy => (k_1, yy.2))) i_5 (fun yy => (yy.1, (IntKind.wrap .i64 (k_1 + 1), yy.2.2)))) i_5 (fun yy => (yy.1, (yy.2.1, ((IntKind.wrap .i64 ((IntKind.wrap .i64 (k_1 + 1)) + 1), yy.2.2.1.2), yy.2.2.2))))) i_5 (fun yy => (yy.1, (yy.2.1, ((yy.2.2.1.1, (IntKind.wrap .i64 ((IntKind.wrap .i64 ((IntKind.wrap .i64 (k_1 + 1)) + 1)) + 1), yy.2.2.1.2.2)), yy.2.2.2))))) i_5 (fun yy => (yy.1, (yy.2.1, ((yy.2.2.1.1, (yy.2.2.1.2.1, (IntKind.wrap .i64 ((IntKind.wrap .i64 ((IntKind.wrap .i64 ((IntKind.wrap .i64 (k_1 + 1)) + 1)) + 1)) + 1), yy.2.2.1.2.2.2))), yy.2.2.2))))) i_5 (fun yy => (yy.1, (yy.2.1, ((yy.2.2.1.1, (yy.2.2.1.2.1, (yy.2.2.1.2.2.1, (IntKind.wrap .i64 ((IntKind.wrap .i64 ((IntKind.wrap .i64 ((IntKind.wrap .i64 ((IntKind.wrap .i64 (k_1 + 1)) + 1)) + 1)) + 1)) + 1), yy.2.2.1.2.2.2.2)))), yy.2.2.2))))) : Nat) : Int) then
 if 0 ≤ i_5 then
 if i_5 < ((List.length (setAt T141 (setAt T141 (setAt T141 (setAt T141 (setAt T141 (setAt T141 (setAt T141 s0 i_5 (fun yy => (k_1, yy.2))) i_5 (fun yy => (yy.1, (IntKind.wrap .i64 (k_1 + 1), yy.2.2)))) i_5 (fun yy => (yy.1, (yy.2.1, ((IntKind.wrap .i64 ((IntKind.wrap .i64 (k_1 + 1)) + 1), yy.2.2.1.2), yy.2.2.2))))) i_5 (fun yy => (yy.1, (yy.2.1, ((yy.2.2.1.1, (IntKind.wrap .i64 ((IntKind.wrap .i64 ((IntKind.wrap .i64 (k_1 + 1)) + 1)) + 1), yy.2.2.1.2.2)), yy.2.2.2))))) i_5 (fun yy => (yy.1, (yy.2.1, ((yy.2.2.1.1, (yy.2.2.1.2.1, (IntKind.wrap .i64 ((IntKind.wrap .i64 ((IntKind.wrap .i64 ((IntKind.wrap .i64 (k_1 + 1)) + 1)) + 1)) + 1), yy.2.2.1.2.2.2))), yy.2.2.2))))) i_5 (fun yy => (yy.1, (yy.2.1, ((yy.2.2.1.1, (yy.2.2.1.2.1, (yy.2.2.1.2.2.1, (IntKind.wrap .i64 ((IntKind.wrap .i64 ((IntKind.wrap .i64 ((IntKind.wrap .i64 ((IntKind.wrap .i64 (k_1 + 1)) + 1)) + 1)) + 1)) + 1), yy.2.2.1.2.2.2.2)))), yy.2.2.2))))) i_5 (fun yy => (yy.1, (yy.2.1, (yy.2.2.1, ((IntKind.wrap .i64 ((IntKind.wrap .i64 ((IntKind.wrap .i64 ((IntKind.wrap .i64 ((IntKind.wrap .i64 ((IntKind.wrap .i64 (k_1 + 1)) + 1)) + 1)) + 1)) + 1)) + 1), yy.2.2.2.1.2), yy.2.2.2.2)))))) : Nat) : Int) then
 if 0 ≤ i_5 then
 if i_5 < ((List.length (setAt T141 (setAt T141 (setAt T141 (setAt T141 (setAt T141 (setAt T141 (setAt T141 (setAt T141 s0 i_5 (fun yy => (k_1, yy.2))) i_5 (fun yy => (yy.1, (IntKind.wrap .i64 (k_1 + 1), yy.2.2)))) i_5 (fun yy => (yy.1, (yy.2.1, ((IntKind.wrap .i64 ((IntKind.wrap .i64 (k_1 + 1)) + 1), yy.2.2.1.2), yy.2.2.2))))) i_5 (fun yy => (yy.1, (yy.2.1, ((yy.2.2.1.1, (IntKind.wrap .i64 ((IntKind.wrap .i64 ((IntKind.wrap .i64 (k_1 + 1)) + 1)) + 1), yy.2.2.1.2.2)), yy.2.2.2))))) i_5 (fun yy => (yy.1, (yy.2.1, ((yy.2.2.1.1, (yy.2.2.1.2.1, (IntKind.wrap .i64 ((IntKind.wrap .i64 ((IntKind.wrap .i64 ((IntKind.wrap .i64 (k_1 + 1)) + 1)) + 1)) + 1), yy.2.2.1.2.2.2))), yy.2.2.2))))) i_5 (fun yy => (yy.1, (yy.2.1, ((yy.2.2.1.1, (yy.2.2.1.2.1, (yy.2.2.1.2.2.1, (IntKind.wrap .i64 ((IntKind.wrap .i64 ((IntKind.wrap .i64 ((IntKind.wrap .i64 ((IntKind.wrap .i64 (k_1 + 1)) + 1)) + 1)) + 1)) + 1), yy.2.2.1.2.2.2.2)))), yy.2.2.2))))) i_5 (fun yy => (yy.1, (yy.2.1, (yy.2.2.1, ((IntKind.wrap .i64 ((IntKind.wrap .i64 ((IntKind.wrap .i64 ((IntKind.wrap .i64 ((IntKind.wrap .i64 ((IntKind.wrap .i64 (k_1 + 1)) + 1)) + 1)) + 1)) + 1)) + 1), yy.2.2.2.1.2), yy.2.2.2.2)))))) i_5 (fun yy => (yy.1, (yy.2.1, (yy.2.2.1, ((yy.2.2.2.1.1, (IntKind.wrap .i64 ((IntKind.wrap .i64 ((IntKind.wrap .i64 ((IntKind.wrap .i64 ((IntKind.wrap .i64 ((IntKind.wrap .i64 ((IntKind.wrap .i64 (k_1 + 1)) + 1)) + 1)) + 1)) + 1)) + 1)) + 1), yy.2.2.2.1.2.2)), yy.2.2.2.2)))))) : Nat) : Int) then
 if 0 ≤ i_5 then
 if i_5 < ((List.length (setAt T141 (setAt T141 (setAt T141 (setAt T141 (setAt T141 (setAt T141 (setAt T141 (setAt T141 (setAt T141 s0 i_5 (fun yy => (k_1, yy.2))) i_5 (fun yy => (yy.1, (IntKind.wrap .i64 (k_1 + 1), yy.2.2)))) i_5 (fun yy => (yy.1, (yy.2.1, ((IntKind.wrap .i64 ((IntKind.wrap .i64 (k_1 + 1)) + 1), yy.2.2.1.2), yy.2.2.2))))) i_5 (fun yy => (yy.1, (yy.2.1, ((yy.2.2.1.1, (IntKind.wrap .i64 ((IntKind.wrap .i64 ((IntKind.wrap .i64 (k_1 + 1)) + 1)) + 1), yy.2.2.1.2.2)), yy.2.2.2))))) i_5 (fun yy => (yy.1, (yy.2.1, ((yy.2.2.1.1, (yy.2.2.1.2.1, (IntKind.wrap .i64 ((IntKind.wrap .i64 ((IntKind.wrap .i64 ((IntKind.wrap .i64 (k_1 + 1)) + 1)) + 1)) + 1), yy.2.2.1.2.2.2))), yy.2.2.2))))) i_5 (fun yy => (yy.1, (yy.2.1, ((yy.2.2.1.1, (yy.2.2.1.2.1, (yy.2.2.1.2.2.1, (IntKind.wrap .i64 ((IntKind.wrap .i64 ((IntKind.wrap .i64 ((IntKind.wrap .i64 ((IntKind.wrap .i64 (k_1 + 1)) + 1)) + 1)) + 1)) + 1), yy.2.2.1.2.2.2.2)))), yy.2.2.2))))) i_5 (fun yy => (yy.1, (yy.2.1, (yy.2.2.1, ((IntKind.wrap .i64 ((IntKind.wrap .i64 ((IntKind.wrap .i64 ((IntKind.wrap .i64 ((IntKind.wrap .i64 ((IntKind.wrap .i64 (k_1 + 1)) + 1)) + 1)) + 1)) + 1)) + 1), yy.2.2.2.1.2), yy.2.2.2.2)))))) i_5 (fun yy => (yy.1, (yy.2.1, (yy.2.2.1, ((yy.2.2.2.1.1, (IntKind.wrap .i64 ((IntKind.wrap .i64 ((IntKind.wrap .i64 ((IntKind.wrap .i64 ((IntKind.wrap .i64 ((IntKind.wrap .i64 ((IntKind.wrap .i64 (k_1 + 1)) + 1)) + 1)) + 1)) + 1)) + 1)) + 1), yy.2.2.2.1.2.2)), yy.2.2.2.2)))))) i_5 (fun yy => (yy.1, (yy.2.1, (yy.2.2.1, (yy.2.2.2.1, ((IntKind.wrap .i64 ((IntKind.wrap .i64 ((IntKind.wrap .i64 ((IntKind.wrap .i64 ((IntKind.wrap .i64 ((IntKind.wrap .i64 ((IntKind.wrap .i64 ((IntKind.wrap .i64 (k_1 + 1)) + 1)) + 1)) + 1)) + 1)) + 1)) + 1)) + 1), yy.2.2.2.2.1.2), yy.2.2.2.2.2))))))) : Nat) : Int) then
 if 0 ≤ i_5 then
 if i_5 < ((List.length (setAt T141 (setAt T141 (setAt T141 (setAt T141 (setAt T141 (setAt T141 (setAt T141 (setAt T141 (setAt T141 (setAt T141 s0 i_5 (fun yy => (k_1, yy.2))) i_5 (fun yy => (yy.1, (IntKind.wrap .i64 (k_1 + 1), yy.2.2)))) i_5 (fun yy => (yy.1, (yy.2.1, ((IntKind.wrap .i64 ((IntKind.wrap .i64 (k_1 + 1)) + 1), yy.2.2.1.2), yy.2.2.2))))) i_5 (fun yy => (yy.1, (yy.2.1, ((yy.2.2.1.1, (IntKind.wrap .i64 ((IntKind.wrap .i64 ((IntKind.wrap .i64 (k_1 + 1)) + 1)) + 1), yy.2.2.1.2.2)), yy.2.2.2))))) i_5 (fun yy => (yy.1, (yy.2.1, ((yy.2.2.1.1, (yy.2.2.1.2.1, (IntKind.wrap .i64 ((IntKind.wrap .i64 ((IntKind.wrap .i64 ((IntKind.wrap .i64 (k_1 + 1)) + 1)) + 1)) + 1), yy.2.2.1.2.2.2))), yy.2.2.2))))) i_5 (fun yy => (yy.1, (yy.2.1, ((yy.2.2.1.1, (yy.2.2.1.2.1, (yy.2.2.1.2.2.1, (IntKind.wrap .i64 ((IntKind.wrap .i64 ((IntKind.wrap .i64 ((IntKind.wrap .i64 ((IntKind.wrap .i64 (k_1 + 1)) + 1)) + 1)) + 1)) + 1), yy.2.2.1.2.2.2.2)))), yy.2.2.2))))) i_5 (fun yy => (yy.1, (yy.2.1, (yy.2.2.1, ((IntKind.wrap .i64 ((IntKind.wrap .i64 ((IntKind.wrap .i64 ((IntKind.wrap .i64 ((IntKind.wrap .i64 ((IntKind.wrap .i64 (k_1 + 1)) + 1)) + 1)) + 1)) + 1)) + 1), yy.2.2.2.1.2), yy.2.2.2.2)))))) i_5 (fun yy => (yy.1, (yy.2.1, (yy.2.2.1, ((yy.2.2.2.1.1, (IntKind.wrap .i64 ((IntKind.wrap .i64 ((IntKind.wrap .i64 ((IntKind.wrap .i64 ((IntKind.wrap .i64 ((IntKind.wrap .i64 ((IntKind.wrap .i64 (k_1 + 1)) + 1)) + 1)) + 1)) + 1)) + 1)) + 1), yy.2.2.2.1.2.2)), yy.2.2.2.2)))))) i_5 (fun yy => (yy.1, (yy.2.1, (yy.2.2.1, (yy.2.2.2.1, ((IntKind.wrap .i64 ((IntKind.wrap .i64 ((IntKind.wrap .i64 ((IntKind.wrap .i64 ((IntKind.wrap .i64 ((IntKind.wrap .i64 ((IntKind.wrap .i64 ((IntKind.wrap .i64 (k_1 + 1)) + 1)) + 1)) + 1)) + 1)) + 1)) + 1)) + 1), yy.2.2.2.2.1.2), yy.2.2.2.2.2))))))) i_5 (fun yy => (yy.1, (yy.2.1, (yy.2.2.1, (yy.2.2.2.1, ((yy.2.2.2.2.1.1, (IntKind.wrap .i64 ((IntKind.wrap .i64 ((IntKind.wrap .i64 ((IntKind.wrap .i64 ((IntKind.wrap .i64 ((IntKind.wrap .i64 ((IntKind.wrap .i64 ((IntKind.wrap .i64 ((IntKind.wrap .i64 (k_1 + 1)) + 1)) + 1)) + 1)) + 1)) + 1)) + 1)) + 1)) + 1), yy.2.2.2.2.1.2.2)), yy.2.2.2.2.2))))))) : Nat) : Int) then
 if 0 ≤ i_5 then
 if i_5 < ((List.length (setAt T141 (setAt T141 (setAt T141 (setAt T141 (setAt T141 (setAt T141 (setAt T141 (setAt T141 (setAt T141 (setAt T141 (setAt T141 s0 i_5 (fun yy => (k_1, yy.2))) i_5 (fun yy => (yy.1, (IntKind.wrap .i64 (k_1 + 1), yy.2.2)))) i_5 (fun yy => (yy.1, (yy.2.1, ((IntKind.wrap .i64 ((IntKind.wrap .i64 (k_1 + 1)) + 1), yy.2.2.1.2), yy.2.2.2))))) i_5 (fun yy => (yy.1, (yy.2.1, ((yy.2.2.1.1, (IntKind.wrap .i64 ((IntKind.wrap .i64 ((IntKind.wrap .i64 (k_1 + 1)) + 1)) + 1), yy.2.2.1.2.2)), yy.2.2.2))))) i_5 (fun yy => (yy.1, (yy.2.1, ((yy.2.2.1.1, (yy.2.2.1.2.1, (IntKind.wrap .i64 ((IntKind.wrap .i64 ((IntKind.wrap .i64 ((IntKind.wrap .i64 (k_1 + 1)) + 1)) + 1)) + 1), yy.2.2.1.2.2.2))), yy.2.2.2))))) i_5 (fun yy => (yy.1, (yy.2.1, ((yy.2.2.1.1, (yy.2.2.1.2.1, (yy.2.2.1.2.2.1, (IntKind.wrap .i64 ((IntKind.wrap .i64 ((IntKind.wrap .i64 ((IntKind.wrap .i64 ((IntKind.wrap .i64 (k_1 + 1)) + 1)) + 1)) + 1)) + 1), yy.2.2.1.2.2.2.2)))), yy.2.2.2))))) i_5 (fun yy => (yy.1, (yy.2.1, (yy.2.2.1, ((IntKind.wrap .i64 ((IntKind.wrap .i64 ((IntKind.wrap .i64 ((IntKind.wrap .i64 ((IntKind.wrap .i64 ((IntKind.wrap .i64 (k_1 + 1)) + 1)) + 1)) + 1)) + 1)) + 1), yy.2.2.2.1.2), yy.2.2.2.2)))))) i_5 (fun yy => (yy.1, (yy.2.1, (yy.2.2.1, ((yy.2.2.2.1.1, (IntKind.wrap .i64 ((IntKind.wrap .i64 ((IntKind.wrap .i64 ((IntKind.wrap .i64 ((IntKind.wrap .i64 ((IntKind.wrap .i64 ((IntKind.wrap .i64 (k_1 + 1)) + 1)) + 1)) + 1)) + 1)) + 1)) + 1), yy.2.2.2.1.2.2)), yy.2.2.2.2)))))) i_5 (fun yy => (yy.1, (yy.2.1, (yy.2.2.1, (yy.2.2.2.1, ((IntKind.wrap .i64 ((IntKind.wrap .i64 ((IntKind.wrap .i64 ((IntKind.wrap .i64 ((IntKind.wrap .i64 ((IntKind.wrap .i64 ((IntKind.wrap .i64 ((IntKind.wrap .i64 (k_1 + 1)) + 1)) + 1)) + 1)) + 1)) + 1)) + 1)) + 1), yy.2.2.2.2.1.2), yy.2.2.2.2.2))))))) i_5 (fun yy => (yy.1, (yy.2.1, (yy.2.2.1, (yy.2.2.2.1, ((yy.2.2.2.2.1.1, (IntKind.wrap .i64 ((IntKind.wrap .i64 ((IntKind.wrap .i64 ((IntKind.wrap .i64 ((IntKind.wrap .i64 ((IntKind.wrap .i64 ((IntKind.wrap .i64 ((IntKind.wrap .i64 ((IntKind.wrap .i64 (k_1 + 1)) + 1)) + 1)) + 1)) + 1)) + 1)) + 1)) + 1)) + 1), yy.2.2.2.2.1.2.2)), yy.2.2.2.2.2))))))) i_5 (fun yy => (yy.1, (yy.2.1, (yy.2.2.1, (yy.2.2.2.1, ((yy.2.2.2.2.1.1, (yy.2.2.2.2.1.2.1, (IntKind.wrap .i64 ((IntKind.wrap .i64 ((IntKind.wrap .i64 ((IntKind.wrap .i64 ((IntKind.wrap .i64 ((IntKind.wrap .i64 ((IntKind.wrap .i64 ((IntKind.wrap .i64 ((IntKind.wrap .i64 ((IntKind.wrap .i64 (k_1 + 1)) + 1)) + 1)) + 1)) + 1)) + 1)) + 1)) + 1)) + 1)) + 1), yy.2.2.2.2.1.2.2.2))), yy.2.2.2.2.2))))))) : Nat) : Int) then
 (laws_markIntS k (rd T141 (setAt T141 (setAt T141 (setAt T141 (setAt T141 (setAt T141 (setAt T141 (setAt T141 (setAt T141 (setAt T141 (setAt T141 (setAt T141 s0 i_5 (fun yy => (k_1, yy.2))) i_5 (fun yy => (yy.1, (IntKind.wrap .i64 (k_1 + 1), yy.2.2)))) i_5 (fun yy => (yy.1, (yy.2.1, ((IntKind.wrap .i64 ((IntKind.wrap .i64 (k_1 + 1)) + 1), yy.2.2.1.2), yy.2.2.2))))) i_5 (fun yy => (yy.1, (yy.2.1, ((yy.2.2.1.1, (IntKind.wrap .i64 ((IntKind.wrap .i64 ((IntKind.wrap .i64 (k_1 + 1)) + 1)) + 1), yy.2.2.1.2.2)), yy.2.2.2))))) i_5 (fun yy => (yy.1, (yy.2.1, ((yy.2.2.1.1, (yy.2.2.1.2.1, (IntKind.wrap .i64 ((IntKind.wrap .i64 ((IntKind.wrap .i64 ((IntKind.wrap .i64 (k_1 + 1)) + 1)) + 1)) + 1), yy.2.2.1.2.2.2))), yy.2.2.2))))) i_5 (fun yy => (yy.1, (yy.2.1, ((yy.2.2.1.1, (yy.2.2.1.2.1, (yy.2.2.1.2.2.1, (IntKind.wrap .i64 ((IntKind.wrap .i64 ((IntKind.wrap .i64 ((IntKind.wrap .i64 ((IntKind.wrap .i64 (k_1 + 1)) + 1)) + 1)) + 1)) + 1), yy.2.2.1.2.2.2.2)))), yy.2.2.2))))) i_5 (fun yy => (yy.1, (yy.2.1, (yy.2.2.1, ((IntKind.wrap .i64 ((IntKind.wrap .i64 ((IntKind.wrap .i64 ((IntKind.wrap .i64 ((IntKind.wrap .i64 ((IntKind.wrap .i64 (k_1 + 1)) + 1)) + 1)) + 1)) + 1)) + 1), yy.2.2.2.1.2), yy.2.2.2.2)))))) i_5 (fun yy => (yy.1, (yy.2.1, (yy.2.2.1, ((yy.2.2.2.1.1, (IntKind.wrap .i64 ((IntKind.wrap .i64 ((IntKind.wrap .i64 ((IntKind.wrap .i64 ((IntKind.wrap .i64 ((IntKind.wrap .i64 ((IntKind.wrap .i64 (k_1 + 1)) + 1)) + 1)) + 1)) + 1)) + 1)) + 1), yy.2.2.2.1.2.2)), yy.2.2.2.2)))))) i_5 (fun yy => (yy.1, (yy.2.1, (yy.2.2.1, (yy.2.2.2.1, ((IntKind.wrap .i64 ((IntKind.wrap .i64 ((IntKind.wrap .i64 ((IntKind.wrap .i64 ((IntKind.wrap .i64 ((IntKind.wrap .i64 ((IntKind.wrap .i64 ((IntKind.wrap .i64 (k_1 + 1)) + 1)) + 1)) + 1)) + 1)) + 1)) + 1)) + 1), yy.2.2.2.2.1.2), yy.2.2.2.2.2))))))) i_5 (fun yy => (yy.1, (yy.2.1, (yy.2.2.1, (yy.2.2.2.1, ((yy.2.2.2.2.1.1, (IntKind.wrap .i64 ((IntKind.wrap .i64 ((IntKind.wrap .i64 ((IntKind.wrap .i64 ((IntKind.wrap .i64 ((IntKind.wrap .i64 ((IntKind.wrap .i64 ((IntKind.wrap .i64 ((IntKind.wrap .i64 (k_1 + 1)) + 1)) + 1)) + 1)) + 1)) + 1)) + 1)) + 1)) + 1), yy.2.2.2.2.1.2.2)), yy.2.2.2.2.2))))))) i_5 (fun yy => (yy.1, (yy.2.1, (yy.2.2.1, (yy.2.2.2.1, ((yy.2.2.2.2.1.1, (yy.2.2.2.2.1.2.1, (IntKind.wrap .i64 ((IntKind.wrap .i64 ((IntKind.wrap .i64 ((IntKind.wrap .i64 ((IntKind.wrap .i64 ((IntKind.wrap .i64 ((IntKind.wrap .i64 ((IntKind.wrap .i64 ((IntKind.wrap .i64 ((IntKind.wrap .i64 (k_1 + 1)) + 1)) + 1)) + 1)) + 1)) + 1)) + 1)) + 1)) + 1)) + 1), yy.2.2.2.2.1.2.2.2))), yy.2.2.2.2.2))))))) i_5).2.2.2.2.1.2.2.2.1 (IntKind.wrap .i64 ((IntKind.wrap .i64 ((IntKind.wrap .i64 ((IntKind.wrap .i64 ((IntKind.wrap .i64 ((IntKind.wrap .i64 ((IntKind.wrap .i64 ((IntKind.wrap .i64 ((IntKind.wrap .i64 ((IntKind.wrap .i64 ((IntKind.wrap .i64 (k_1 + 1)) + 1)) + 1)) + 1)) + 1)) + 1)) + 1)) + 1)) + 1)) + 1)) + 1))).bind fun r1 =>
 if 0 ≤ i_5 then
 if i_5 < ((List.length (setAt T141 (setAt T141 (setAt T141 (setAt T141 (setAt T141 (setAt T141 (setAt T141 (setAt T141 (setAt T141 (setAt T141 (setAt T141 (setAt T141 s0 i_5 (fun yy => (k_1, yy.2))) i_5 (fun yy => (yy.1, (IntKind.wrap .i64 (k_1 + 1), yy.2.2)))) i_5 (fun yy => (yy.1, (yy.2.1, ((IntKind.wrap .i64 ((IntKind.wrap .i64 (k_1 + 1)) + 1), yy.2.2.1.2), yy.2.2.2))))) i_5 (fun yy => (yy.1, (yy.2.1, ((yy.2.2.1.1, (IntKind.wrap .i64 ((IntKind.wrap .i64 ((IntKind.wrap .i64 (k_1 + 1)) + 1)) + 1), yy.2.2.1.2.2)), yy.2.2.2))))) i_5 (fun yy => (yy.1, (yy.2.1, ((yy.2.2.1.1, (yy.2.2.1.2.1, (IntKind.wrap .i64 ((IntKind.wrap .i64 ((IntKind.wrap .i64 ((IntKind.wrap .i64 (k_1 + 1)) + 1)) + 1)) + 1), yy.2.2.1.2.2.2))), yy.2.2.2))))) i_5 (fun yy => (yy.1, (yy.2.1, ((yy.2.2.1.1, (yy.2.2.1.2.1, (yy.2.2.1.2.2.1, (IntKind.wrap .i64 ((IntKind.wrap .i64 ((IntKind.wrap .i64 ((IntKind.wrap .i64 ((IntKind.wrap .i64 (k_1 + 1)) + 1)) + 1)) + 1)) + 1), yy.2.2.1.2.2.2.2)))), yy.2.2.2))))) i_5 (fun yy => (yy.1, (yy.2.1, (yy.2.2.1, ((IntKind.wrap .i64 ((IntKind.wrap .i64 ((IntKind.wrap .i64 ((IntKind.wrap .i64 ((IntKind.wrap .i64 ((IntKind.wrap .i64 (k_1 + 1)) + 1)) + 1)) + 1)) + 1)) + 1), yy.2.2.2.1.2), yy.2.2.2.2)))))) i_5 (fun yy => (yy.1, (yy.2.1, (yy.2.2.1, ((yy.2.2.2.1.1, (IntKind.wrap .i64 ((IntKind.wrap .i64 ((IntKind.wrap .i64 ((IntKind.wrap .i64 ((IntKind.wrap .i64 ((IntKind.wrap .i64 ((IntKind.wrap .i64 (k_1 + 1)) + 1)) + 1)) + 1)) + 1)) + 1)) + 1), yy.2.2.2.1.2.2)), yy.2.2.2.2)))))) i_5 (fun yy => (yy.1, (yy.2.1, (yy.2.2.1, (yy.2.2.2.1, ((IntKind.wrap .i64 ((IntKind.wrap .i64 ((IntKind.wrap .i64 ((IntKind.wrap .i64 ((IntKind.wrap .i64 ((IntKind.wrap .i64 ((IntKind.wrap .i64 ((IntKind.wrap .i64 (k_1 + 1)) + 1)) + 1)) + 1)) + 1)) + 1)) + 1)) + 1), yy.2.2.2.2.1.2), yy.2.2.2.2.2))))))) i_5 (fun yy => (yy.1, (yy.2.1, (yy.2.2.1, (yy.2.2.2.1, ((yy.2.2.2.2.1.1, (IntKind.wrap .i64 ((IntKind.wrap .i64 ((IntKind.wrap .i64 ((IntKind.wrap .i64 ((IntKind.wrap .i64 ((IntKind.wrap .i64 ((IntKind.wrap .i64 ((IntKind.wrap .i64 ((IntKind.wrap .i64 (k_1 + 1)) + 1)) + 1)) + 1)) + 1)) + 1)) + 1)) + 1)) + 1), yy.2.2.2.2.1.2.2)), yy.2.2.2.2.2))))))) i_5 (fun yy => (yy.1, (yy.2.1, (yy.2.2.1, (yy.2.2.2.1, ((yy.2.2.2.2.1.1, (yy.2.2.2.2.1.2.1, (IntKind.wrap .i64 ((IntKind.wrap .i64 ((IntKind.wrap .i64 ((IntKind.wrap .i64 ((IntKind.wrap .i64 ((IntKind.wrap .i64 ((IntKind.wrap .i64 ((IntKind.wrap .i64 ((IntKind.wrap .i64 ((IntKind.wrap .i64 (k_1 + 1)) + 1)) + 1)) + 1)) + 1)) + 1)) + 1)) + 1)) + 1)) + 1), yy.2.2.2.2.1.2.2.2))), yy.2.2.2.2.2))))))) i_5 (fun yy => (yy.1, (yy.2.1, (yy.2.2.1, (yy.2.2.2.1, ((yy.2.2.2.2.1.1, (yy.2.2.2.2.1.2.1, (yy.2.2.2.2.1.2.2.1, (r1.2, yy.2.2.2.2.1.2.2.2.2)))), yy.2.2.2.2.2))))))) : Nat) : Int) then
 if 0 ≤ i_5 then
 if i_5 < ((List.length (setAt T141 (setAt T141 (setAt T141 (setAt T141 (setAt T141 (setAt T141 (setAt T141 (setAt T141 (setAt T141 (setAt T141 (setAt T141 (setAt T141 (setAt T141 s0 i_5 (fun yy => (k_1, yy.2))) i_5 (fun yy => (yy.1, (IntKind.wrap .i64 (k_1 + 1), yy.2.2)))) i_5 (fun yy => (yy.1, (yy.2.1, ((IntKind.wrap .i64 ((IntKind.wrap .i64 (k_1 + 1)) + 1), yy.2.2.1.2), yy.2.2.2))))) i_5 (fun yy => (yy.1, (yy.2.1, ((yy.2.2.1.1, (IntKind.wrap .i64 ((IntKind.wrap .i64 ((IntKind.wrap .i64 (k_1 + 1)) + 1)) + 1), yy.2.2.1.2.2)), yy.2.2.2))))) i_5 (fun yy => (yy.1, (yy.2.1, ((yy.2.2.1.1, (yy.2.2.1.2.1, (IntKind.wrap .i64 ((IntKind.wrap .i64 ((IntKind.wrap .i64 ((IntKind.wrap .i64 (k_1 + 1)) + 1)) + 1)) + 1), yy.2.2.1.2.2.2))), yy.2.2.2))))) i_5 (fun yy => (yy.1, (yy.2.1, ((yy.2.2.1.1, (yy.2.2.1.2.1, (yy.2.2.1.2.2.1, (IntKind.wrap .i64 ((IntKind.wrap .i64 ((IntKind.wrap .i64 ((IntKind.wrap .i64 ((IntKind.wrap .i64 (k_1 + 1)) + 1)) + 1)) + 1)) + 1), yy.2.2.1.2.2.2.2)))), yy.2.2.2))))) i_5 (fun yy => (yy.1, (yy.2.1, (yy.2.2.1, ((IntKind.wrap .i64 ((IntKind.wrap .i64 ((IntKind.wrap .i64 ((IntKind.wrap .i64 ((IntKind.wrap .i64 ((IntKind.wrap .i64 (k_1 + 1)) + 1)) + 1)) + 1)) + 1)) + 1), yy.2.2.2.1.2), yy.2.2.2.2)))))) i_5 (fun yy => (yy.1, (yy.2.1, (yy.2.2.1, ((yy.2.2.2.1.1, (IntKind.wrap .i64 ((IntKind.wrap .i64 ((IntKind.wrap .i64 ((IntKind.wrap .i64 ((IntKind.wrap .i64 ((IntKind.wrap .i64 ((IntKind.wrap .i64 (k_1 + 1)) + 1)) + 1)) + 1)) + 1)) + 1)) + 1), yy.2.2.2.1.2.2)), yy.2.2.2.2)))))) i_5 (fun yy => (yy.1, (yy.2.1, (yy.2.2.1, (yy.2.2.2.1, ((IntKind.wrap .i64 ((IntKind.wrap .i64 ((IntKind.wrap .i64 ((IntKind.wrap .i64 ((IntKind.wrap .i64 ((IntKind.wrap .i64 ((IntKind.wrap .i64 ((IntKind.wrap .i64 (k_1 + 1)) + 1)) + 1)) + 1)) + 1)) + 1)) + 1)) + 1), yy.2.2.2.2.1.2), yy.2.2.2.2.2))))))) i_5 (fun yy => (yy.1, (yy.2.1, (yy.2.2.1, (yy.2.2.2.1, ((yy.2.2.2.2.1.1, (IntKind.wrap .i64 ((IntKind.wrap .i64 ((IntKind.wrap .i64 ((IntKind.wrap .i64 ((IntKind.wrap .i64 ((IntKind.wrap .i64 ((IntKind.wrap .i64 ((IntKind.wrap .i64 ((IntKind.wrap .i64 (k_1 + 1)) + 1)) + 1)) + 1)) + 1)) + 1)) + 1)) + 1)) + 1), yy.2.2.2.2.1.2.2)), yy.2.2.2.2.2))))))) i_5 (fun yy => (yy.1, (yy.2.1, (yy.2.2.1, (yy.2.2.2.1, ((yy.2.2.2.2.1.1, (yy.2.2.2.2.1.2.1, (IntKind.wrap .i64 ((IntKind.wrap .i64 ((IntKind.wrap .i64 ((IntKind.wrap .i64 ((IntKind.wrap .i64 ((IntKind.wrap .i64 ((IntKind.wrap .i64 ((IntKind.wrap .i64 ((IntKind.wrap .i64 ((IntKind.wrap .i64 (k_1 + 1)) + 1)) + 1)) + 1)) + 1)) + 1)) + 1)) + 1)) + 1)) + 1), yy.2.2.2.2.1.2.2.2))), yy.2.2.2.2.2))))))) i_5 (fun yy => (yy.1, (yy.2.1, (yy.2.2.1, (yy.2.2.2.1, ((yy.2.2.2.2.1.1, (yy.2.2.2.2.1.2.1, (yy.2.2.2.2.1.2.2.1, (r1.2, yy.2.2.2.2.1.2.2.2.2)))), yy.2.2.2.2.2))))))) i_5 (fun yy => (yy.1, (yy.2.1, (yy.2.2.1, (yy.2.2.2.1, (yy.2.2.2.2.1, ((r1.1, yy.2.2.2.2.2.1.2), yy.2.2.2.2.2.2)))))))) : Nat) : Int) then
 if 0 ≤ i_5 then
 if i_5 < ((List.length (setAt T141 (setAt T141 (setAt T141 (setAt T141 (setAt T141 (setAt T141 (setAt T141 (setAt T141 (setAt T141 (setAt T141 (setAt T141 (setAt T141 (setAt T141 (setAt T141 s0 i_5 (fun yy => (k_1, yy.2))) i_5 (fun yy => (yy.1, (IntKind.wrap .i64 (k_1 + 1), yy.2.2)))) i_5 (fun yy => (yy.1, (yy.2.1, ((IntKind.wrap .i64 ((IntKind.wrap .i64 (k_1 + 1)) + 1), yy.2.2.1.2), yy.2.2.2))))) i_5 (fun yy => (yy.1, (yy.2.1, ((yy.2.2.1.1, (IntKind.wrap .i64 ((IntKind.wrap .i64 ((IntKind.wrap .i64 (k_1 + 1)) + 1)) + 1), yy.2.2.1.2.2)), yy.2.2.2))))) i_5 (fun yy => (yy.1, (yy.2.1, ((yy.2.2.1.1, (yy.2.2.1.2.1, (IntKind.wrap .i64 ((IntKind.wrap .i64 ((IntKind.wrap .i64 ((IntKind.wrap .i64 (k_1 + 1)) + 1)) + 1)) + 1), yy.2.2.1.2.2.2))), yy.2.2.2))))) i_5 (fun yy => (yy.1, (yy.2.1, ((yy.2.2.1.1, (yy.2.2.1.2.1, (yy.2.2.1.2.2.1, (IntKind.wrap .i64 ((IntKind.wrap .i64 ((IntKind.wrap .i64 ((IntKind.wrap .i64 ((IntKind.wrap .i64 (k_1 + 1)) + 1)) + 1)) + 1)) + 1), yy.2.2.1.2.2.2.2)))), yy.2.2.2))))) i_5 (fun yy => (yy.1, (yy.2.1, (yy.2.2.1, ((IntKind.wrap .i64 ((IntKind.wrap .i64 ((IntKind.wrap .i64 ((IntKind.wrap .i64 ((IntKind.wrap .i64 ((IntKind.wrap .i64 (k_1 + 1)) + 1)) + 1)) + 1)) + 1)) + 1), yy.2.2.2.1.2), yy.2.2.2.2)))))) i_5 (fun yy => (yy.1, (yy.2.1, (yy.2.2.1, ((yy.2.2.2.1.1, (IntKind.wrap .i64 ((IntKind.wrap .i64 ((IntKind.wrap .i64 ((IntKind.wrap .i64 ((IntKind.wrap .i64 ((IntKind.wrap .i64 ((IntKind.wrap .i64 (k_1 + 1)) + 1)) + 1)) + 1)) + 1)) + 1)) + 1), yy.2.2.2.1.2.2)), yy.2.2.2.2)))))) i_5 (fun yy => (yy.1, (yy.2.1, (yy.2.2.1, (yy.2.2.2.1, ((IntKind.wrap .i64 ((IntKind.wrap .i64 ((IntKind.wrap .i64 ((IntKind.wrap .i64 ((IntKind.wrap .i64 ((IntKind.wrap .i64 ((IntKind.wrap .i64 ((IntKind.wrap .i64 (k_1 + 1)) + 1)) + 1)) + 1)) + 1)) + 1)) + 1)) + 1), yy.2.2.2.2.1.2), yy.2.2.2.2.2))))))) i_5 (fun yy => (yy.1, (yy.2.1, (yy.2.2.1, (yy.2.2.2.1, ((yy.2.2.2.2.1.1, (IntKind.wrap .i64 ((IntKind.wrap .i64 ((IntKind.wrap .i64 ((IntKind.wrap .i64 ((IntKind.wrap .i64 ((IntKind.wrap .i64 ((IntKind.wrap .i64 ((IntKind.wrap .i64 ((IntKind.wrap .i64 (k_1 + 1)) + 1)) + 1)) + 1)) + 1)) + 1)) + 1)) + 1)) + 1), yy.2.2.2.2.1.2.2)), yy.2.2.2.2.2))))))) i_5 (fun yy => (yy.1, (yy.2.1, (yy.2.2.1, (yy.2.2.2.1, ((yy.2.2.2.2.1.1, (yy.2.2.2.2.1.2.1, (IntKind.wrap .i64 ((IntKind.wrap .i64 ((IntKind.wrap .i64 ((IntKind.wrap .i64 ((IntKind.wrap .i64 ((IntKind.wrap .i64 ((IntKind.wrap .i64 ((IntKind.wrap .i64 ((IntKind.wrap .i64 ((IntKind.wrap .i64 (k_1 + 1)) + 1)) + 1)) + 1)) + 1)) + 1)) + 1)) + 1)) + 1)) + 1), yy.2.2.2.2.1.2.2.2))), yy.2.2.2.2.2))))))) i_5 (fun yy => (yy.1, (yy.2.1, (yy.2.2.1, (yy.2.2.2.1, ((yy.2.2.2.2.1.1, (yy.2.2.2.2.1.2.1, (yy.2.2.2.2.1.2.2.1, (r1.2, yy.2.2.2.2.1.2.2.2.2)))), yy.2.2.2.2.2))))))) i_5 (fun yy => (yy.1, (yy.2.1, (yy.2.2.1, (yy.2.2.2.1, (yy.2.2.2.2.1, ((r1.1, yy.2.2.2.2.2.1.2), yy.2.2.2.2.2.2)))))))) i_5 (fun yy => (yy.1, (yy.2.1, (yy.2.2.1, (yy.2.2.2.1, (yy.2.2.2.2.1, ((yy.2.2.2.2.2.1.1, (IntKind.wrap .i64 (r1.1 + 1), yy.2.2.2.2.2.1.2.2)), yy.2.2.2.2.2.2)))))))) : Nat) : Int) then
 if 0 ≤ i_5 then
 if i_5 < ((List.length (setAt T141 (setAt T141 (setAt T141 (setAt T141 (setAt T141 (setAt T141 (setAt T141 (setAt T141 (setAt T141 (setAt T141 (setAt T141 (setAt T141 (setAt T141 (setAt T141 (setAt T141 s0 i_5 (fun yy => (k_1, yy.2))) i_5 (fun yy => (yy.1, (IntKind.wrap .i64 (k_1 + 1), yy.2.2)))) i_5 (fun yy => (yy.1, (yy.2.1, ((IntKind.wrap .i64 ((IntKind.wrap .i64 (k_1 + 1)) + 1), yy.2.2.1.2), yy.2.2.2))))) i_5 (fun yy => (yy.1, (yy.2.1, ((yy.2.2.1.1, (IntKind.wrap .i64 ((IntKind.wrap .i64 ((IntKind.wrap .i64 (k_1 + 1)) + 1)) + 1), yy.2.2.1.2.2)), yy.2.2.2))))) i_5 (fun yy => (yy.1, (yy.2.1, ((yy.2.2.1.1, (yy.2.2.1.2.1, (IntKind.wrap .i64 ((IntKind.wrap .i64 ((IntKind.wrap .i64 ((IntKind.wrap .i64 (k_1 + 1)) + 1)) + 1)) + 1), yy.2.2.1.2.2.2))), yy.2.2.2))))) i_5 (fun yy => (yy.1, (yy.2.1, ((yy.2.2.1.1, (yy.2.2.1.2.1, (yy.2.2.1.2.2.1, (IntKind.wrap .i64 ((IntKind.wrap .i64 ((IntKind.wrap .i64 ((IntKind.wrap .i64 ((IntKind.wrap .i64 (k_1 + 1)) + 1)) + 1)) + 1)) + 1), yy.2.2.1.2.2.2.2)))), yy.2.2.2))))) i_5 (fun yy => (yy.1, (yy.2.1, (yy.2.2.1, ((IntKind.wrap .i64 ((IntKind.wrap .i64 ((IntKind.wrap .i64 ((IntKind.wrap .i64 ((IntKind.wrap .i64 ((IntKind.wrap .i64 (k_1 + 1)) + 1)) + 1)) + 1)) + 1)) + 1), yy.2.2.2.1.2), yy.2.2.2.2)))))) i_5 (fun yy => (yy.1, (yy.2.1, (yy.2.2.1, ((yy.2.2.2.1.1, (IntKind.wrap .i64 ((IntKind.wrap .i64 ((IntKind.wrap .i64 ((IntKind.wrap .i64 ((IntKind.wrap .i64 ((IntKind.wrap .i64 ((IntKind.wrap .i64 (k_1 + 1)) + 1)) + 1)) + 1)) + 1)) + 1)) + 1), yy.2.2.2.1.2.2)), yy.2.2.2.2)))))) i_5 (fun yy => (yy.1, (yy.2.1, (yy.2.2.1, (yy.2.2.2.1, ((IntKind.wrap .i64 ((IntKind.wrap .i64 ((IntKind.wrap .i64 ((IntKind.wrap .i64 ((IntKind.wrap .i64 ((IntKind.wrap .i64 ((IntKind.wrap .i64 ((IntKind.wrap .i64 (k_1 + 1)) + 1)) + 1)) + 1)) + 1)) + 1)) + 1)) + 1), yy.2.2.2.2.1.2), yy.2.2.2.2.2))))))) i_5 (fun yy => (yy.1, (yy.2.1, (yy.2.2.1, (yy.2.2.2.1, ((yy.2.2.2.2.1.1, (IntKind.wrap .i64 ((IntKind.wrap .i64 ((IntKind.wrap .i64 ((IntKind.wrap .i64 ((IntKind.wrap .i64 ((IntKind.wrap .i64 ((IntKind.wrap .i64 ((IntKind.wrap .i64 ((IntKind.wrap .i64 (k_1 + 1)) + 1)) + 1)) + 1)) + 1)) + 1)) + 1)) + 1)) + 1), yy.2.2.2.2.1.2.2)), yy.2.2.2.2.2))))))) i_5 (fun yy => (yy.1, (yy.2.1, (yy.2.2.1, (yy.2.2.2.1, ((yy.2.2.2.2.1.1, (yy.2.2.2.2.1.2.1, (IntKind.wrap .i64 ((IntKind.wrap .i64 ((IntKind.wrap .i64 ((IntKind.wrap .i64 ((IntKind.wrap .i64 ((IntKind.wrap .i64 ((IntKind.wrap .i64 ((IntKind.wrap .i64 ((IntKind.wrap .i64 ((IntKind.wrap .i64 (k_1 + 1)) + 1)) + 1)) + 1)) + 1)) + 1)) + 1)) + 1)) + 1)) + 1), yy.2.2.2.2.1.2.2.2))), yy.2.2.2.2.2))))))) i_5 (fun yy => (yy.1, (yy.2.1, (yy.2.2.1, (yy.2.2.2.1, ((yy.2.2.2.2.1.1, (yy.2.2.2.2.1.2.1, (yy.2.2.2.2.1.2.2.1, (r1.2, yy.2.2.2.2.1.2.2.2.2)))), yy.2.2.2.2.2))))))) i_5 (fun yy => (yy.1, (yy.2.1, (yy.2.2.1, (yy.2.2.2.1, (yy.2.2.2.2.1, ((r1.1, yy.2.2.2.2.2.1.2), yy.2.2.2.2.2.2)))))))) i_5 (fun yy => (yy.1, (yy.2.1, (yy.2.2.1, (yy.2.2.2.1, (yy.2.2.2.2.1, ((yy.2.2.2.2.2.1.1, (IntKind.wrap .i64 (r1.1 + 1), yy.2.2.2.2.2.1.2.2)), yy.2.2.2.2.2.2)))))))) i_5 (fun yy => (yy.1, (yy.2.1, (yy.2.2.1, (yy.2.2.2.1, (yy.2.2.2.2.1, ((yy.2.2.2.2.2.1.1, (yy.2.2.2.2.2.1.2.1, (IntKind.wrap .i64 ((IntKind.wrap .i64 (r1.1 + 1)) + 1), yy.2.2.2.2.2.1.2.2.2))), yy.2.2.2.2.2.2)))))))) : Nat) : Int) then
 if 0 ≤ i_5 then
 if i_5 < ((List.length (setAt T141 (setAt T141 (setAt T141 (setAt T141 (setAt T141 (setAt T141 (setAt T141 (setAt T141 (setAt T141 (setAt T141 (setAt T141 (setAt T141 (setAt T141 (setAt T141 (setAt T141 (setAt T141 s0 i_5 (fun yy => (k_1, yy.2))) i_5 (fun yy => (yy.1, (IntKind.wrap .i64 (k_1 + 1), yy.2.2)))) i_5 (fun yy => (yy.1, (yy.2.1, ((IntKind.wrap .i64 ((IntKind.wrap .i64 (k_1 + 1)) + 1), yy.2.2.1.2), yy.2.2.2))))) i_5 (fun yy => (yy.1, (yy.2.1, ((yy.2.2.1.1, (IntKind.wrap .i64 ((IntKind.wrap .i64 ((IntKind.wrap .i64 (k_1 + 1)) + 1)) + 1), yy.2.2.1.2.2)), yy.2.2.2))))) i_5 (fun yy => (yy.1, (yy.2.1, ((yy.2.2.1.1, (yy.2.2.1.2.1, (IntKind.wrap .i64 ((IntKind.wrap .i64 ((IntKind.wrap .i64 ((IntKind.wrap .i64 (k_1 + 1)) + 1)) + 1)) + 1), yy.2.2.1.2.2.2))), yy.2.2.2))))) i_5 (fun yy => (yy.1, (yy.2.1, ((yy.2.2.1.1, (yy.2.2.1.2.1, (yy.2.2.1.2.2.1, (IntKind.wrap .i64 ((IntKind.wrap .i64 ((IntKind.wrap .i64 ((IntKind.wrap .i64 ((IntKind.wrap .i64 (k_1 + 1)) + 1)) + 1)) + 1)) + 1), yy.2.2.1.2.2.2.2)))), yy.2.2.2))))) i_5 (fun yy => (yy.1, (yy.2.1, (yy.2.2.1, ((IntKind.wrap .i64 ((IntKind.wrap .i64 ((IntKind.wrap .i64 ((IntKind.wrap .i64 ((IntKind.wrap .i64 ((IntKind.wrap .i64 (k_1 + 1)) + 1)) + 1)) + 1)) + 1)) + 1), yy.2.2.2.1.2), yy.2.2.2.2)))))) i_5 (fun yy => (yy.1, (yy.2.1, (yy.2.2.1, ((yy.2.2.2.1.1, (IntKind.wrap .i64 ((IntKind.wrap .i64 ((IntKind.wrap .i64 ((IntKind.wrap .i64 ((IntKind.wrap .i64 ((IntKind.wrap .i64 ((IntKind.wrap .i64 (k_1 + 1)) + 1)) + 1)) + 1)) + 1)) + 1)) + 1), yy.2.2.2.1.2.2)), yy.2.2.2.2)))))) i_5 (fun yy => (yy.1, (yy.2.1, (yy.2.2.1, (yy.2.2.2.1, ((IntKind.wrap .i64 ((IntKind.wrap .i64 ((IntKind.wrap .i64 ((IntKind.wrap .i64 ((IntKind.wrap .i64 ((IntKind.wrap .i64 ((IntKind.wrap .i64 ((IntKind.wrap .i64 (k_1 + 1)) + 1)) + 1)) + 1)) + 1)) + 1)) + 1)) + 1), yy.2.2.2.2.1.2), yy.2.2.2.2.2))))))) i_5 (fun yy => (yy.1, (yy.2.1, (yy.2.2.1, (yy.2.2.2.1, ((yy.2.2.2.2.1.1, (IntKind.wrap .i64 ((IntKind.wrap .i64 ((IntKind.wrap .i64 ((IntKind.wrap .i64 ((IntKind.wrap .i64 ((IntKind.wrap .i64 ((IntKind.wrap .i64 ((IntKind.wrap .i64 ((IntKind.wrap .i64 (k_1 + 1)) + 1)) + 1)) + 1)) + 1)) + 1)) + 1)) + 1)) + 1), yy.2.2.2.2.1.2.2)), yy.2.2.2.2.2))))))) i_5 (fun yy => (yy.1, (yy.2.1, (yy.2.2.1, (yy.2.2.2.1, ((yy.2.2.2.2.1.1, (yy.2.2.2.2.1.2.1, (IntKind.wrap .i64 ((IntKind.wrap .i64 ((IntKind.wrap .i64 ((IntKind.wrap .i64 ((IntKind.wrap .i64 ((IntKind.wrap .i64 ((IntKind.wrap .i64 ((IntKind.wrap .i64 ((IntKind.wrap .i64 ((IntKind.wrap .i64 (k_1 + 1)) + 1)) + 1)) + 1)) + 1)) + 1)) + 1)) + 1)) + 1)) + 1), yy.2.2.2.2.1.2.2.2))), yy.2.2.2.2.2))))))) i_5 (fun yy => (yy.1, (yy.2.1, (yy.2.2.1, (yy.2.2.2.1, ((yy.2.2.2.2.1.1, (yy.2.2.2.2.1.2.1, (yy.2.2.2.2.1.2.2.1, (r1.2, yy.2.2.2.2.1.2.2.2.2)))), yy.2.2.2.2.2))))))) i_5 (fun yy => (yy.1, (yy.2.1, (yy.2.2.1, (yy.2.2.2.1, (yy.2.2.2.2.1, ((r1.1, yy.2.2.2.2.2.1.2), yy.2.2.2.2.2.2)))))))) i_5 (fun yy => (yy.1, (yy.2.1, (yy.2.2.1, (yy.2.2.2.1, (yy.2.2.2.2.1, ((yy.2.2.2.2.2.1.1, (IntKind.wrap .i64 (r1.1 + 1), yy.2.2.2.2.2.1.2.2)), yy.2.2.2.2.2.2)))))))) i_5 (fun yy => (yy.1, (yy.2.1, (yy.2.2.1, (yy.2.2.2.1, (yy.2.2.2.2.1, ((yy.2.2.2.2.2.1.1, (yy.2.2.2.2.2.1.2.1, (IntKind.wrap .i64 ((IntKind.wrap .i64 (r1.1 + 1)) + 1), yy.2.2.2.2.2.1.2.2.2))), yy.2.2.2.2.2.2)))))))) i_5 (fun yy => (yy.1, (yy.2.1, (yy.2.2.1, (yy.2.2.2.1, (yy.2.2.2.2.1, ((yy.2.2.2.2.2.1.1, (yy.2.2.2.2.2.1.2.1, (yy.2.2.2.2.2.1.2.2.1, (IntKind.wrap .i64 ((IntKind.wrap .i64 ((IntKind.wrap .i64 (r1.1 + 1)) + 1)) + 1), yy.2.2.2.2.2.1.2.2.2.2)))), yy.2.2.2.2.2.2)))))))) : Nat) : Int) then
 laws_markHappeningS.l0 k m (IntKind.wrap .i64 ((IntKind.wrap .i64 ((IntKind.wrap .i64 ((IntKind.wrap .i64 ((IntKind.wrap .i64 (r1.1 + 1)) + 1)) + 1)) + 1)) + 1)) (IntKind.wrap .i64 (i_5 + 1)) (setAt T141 (setAt T141 (setAt T141 (setAt T141 (setAt T141 (setAt T141 (setAt T141 (setAt T141 (setAt T141 (setAt T141 (setAt T141 (setAt T141 (setAt T141 (setAt T141 (setAt T141 (setAt T141 (setAt T141 s0 i_5 (fun yy => (k_1, yy.2))) i_5 (fun yy => (yy.1, (IntKind.wrap .i64 (k_1 + 1), yy.2.2)))) i_5 (fun yy => (yy.1, (yy.2.1, ((IntKind.wrap .i64 ((IntKind.wrap .i64 (k_1 + 1)) + 1), yy.2.2.1.2), yy.2.2.2))))) i_5 (fun yy => (yy.1, (yy.2.1, ((yy.2.2.1.1, (IntKind.wrap .i64 ((IntKind.wrap .i64 ((IntKind.wrap .i64 (k_1 + 1)) + 1)) + 1), yy.2.2.1.2.2)), yy.2.2.2))))) i_5 (fun yy => (yy.1, (yy.2.1, ((yy.2.2.1.1, (yy.2.2.1.2.1, (IntKind.wrap .i64 ((IntKind.wrap .i64 ((IntKind.wrap .i64 ((IntKind.wrap .i64 (k_1 + 1)) + 1)) + 1)) + 1), yy.2.2.1.2.2.2))), yy.2.2.2))))) i_5 (fun yy => (yy.1, (yy.2.1, ((yy.2.2.1.1, (yy.2.2.1.2.1, (yy.2.2.1.2.2.1, (IntKind.wrap .i64 ((IntKind.wrap .i64 ((IntKind.wrap .i64 ((IntKind.wrap .i64 ((IntKind.wrap .i64 (k_1 + 1)) + 1)) + 1)) + 1)) + 1), yy.2.2.1.2.2.2.2)))), yy.2.2.2))))) i_5 (fun yy => (yy.1, (yy.2.1, (yy.2.2.1, ((IntKind.wrap .i64 ((IntKind.wrap .i64 ((IntKind.wrap .i64 ((IntKind.wrap .i64 ((IntKind.wrap .i64 ((IntKind.wrap .i64 (k_1 + 1)) + 1)) + 1)) + 1)) + 1)) + 1), yy.2.2.2.1.2), yy.2.2.2.2)))))) i_5 (fun yy => (yy.1, (yy.2.1, (yy.2.2.1, ((yy.2.2.2.1.1, (IntKind.wrap .i64 ((IntKind.wrap .i64 ((IntKind.wrap .i64 ((IntKind.wrap .i64 ((IntKind.wrap .i64 ((IntKind.wrap .i64 ((IntKind.wrap .i64 (k_1 + 1)) + 1)) + 1)) + 1)) + 1)) + 1)) + 1), yy.2.2.2.1.2.2)), yy.2.2.2.2)))))) i_5 (fun yy => (yy.1, (yy.2.1, (yy.2.2.1, (yy.2.2.2.1, ((IntKind.wrap .i64 ((IntKind.wrap .i64 ((IntKind.wrap .i64 ((IntKind.wrap .i64 ((IntKind.wrap .i64 ((IntKind.wrap .i64 ((IntKind.wrap .i64 ((IntKind.wrap .i64 (k_1 + 1)) + 1)) + 1)) + 1)) + 1)) + 1)) + 1)) + 1), yy.2.2.2.2.1.2), yy.2.2.2.2.2))))))) i_5 (fun yy => (yy.1, (yy.2.1, (yy.2.2.1, (yy.2.2.2.1, ((yy.2.2.2.2.1.1, (IntKind.wrap .i64 ((IntKind.wrap .i64 ((IntKind.wrap .i64 ((IntKind.wrap .i64 ((IntKind.wrap .i64 ((IntKind.wrap .i64 ((IntKind.wrap .i64 ((IntKind.wrap .i64 ((IntKind.wrap .i64 (k_1 + 1)) + 1)) + 1)) + 1)) + 1)) + 1)) + 1)) + 1)) + 1), yy.2.2.2.2.1.2.2)), yy.2.2.2.2.2))))))) i_5 (fun yy => (yy.1, (yy.2.1, (yy.2.2.1, (yy.2.2.2.1, ((yy.2.2.2.2.1.1, (yy.2.2.2.2.1.2.1, (IntKind.wrap .i64 ((IntKind.wrap .i64 ((IntKind.wrap .i64 ((IntKind.wrap .i64 ((IntKind.wrap .i64 ((IntKind.wrap .i64 ((IntKind.wrap .i64 ((IntKind.wrap .i64 ((IntKind.wrap .i64 ((IntKind.wrap .i64 (k_1 + 1)) + 1)) + 1)) + 1)) + 1)) + 1)) + 1)) + 1)) + 1)) + 1), yy.2.2.2.2.1.2.2.2))), yy.2.2.2.2.2))))))) i_5 (fun yy => (yy.1, (yy.2.1, (yy.2.2.1, (yy.2.2.2.1, ((yy.2.2.2.2.1.1, (yy.2.2.2.2.1.2.1, (yy.2.2.2.2.1.2.2.1, (r1.2, yy.2.2.2.2.1.2.2.2.2)))), yy.2.2.2.2.2))))))) i_5 (fun yy => (yy.1, (yy.2.1, (yy.2.2.1, (yy.2.2.2.1, (yy.2.2.2.2.1, ((r1.1, yy.2.2.2.2.2.1.2), yy.2.2.2.2.2.2)))))))) i_5 (fun yy => (yy.1, (yy.2.1, (yy.2.2.1, (yy.2.2.2.1, (yy.2.2.2.2.1, ((yy.2.2.2.2.2.1.1, (IntKind.wrap .i64 (r1.1 + 1), yy.2.2.2.2.2.1.2.2)), yy.2.2.2.2.2.2)))))))) i_5 (fun yy => (yy.1, (yy.2.1, (yy.2.2.1, (yy.2.2.2.1, (yy.2.2.2.2.1, ((yy.2.2.2.2.2.1.1, (yy.2.2.2.2.2.1.2.1, (IntKind.wrap .i64 ((IntKind.wrap .i64 (r1.1 + 1)) + 1), yy.2.2.2.2.2.1.2.2.2))), yy.2.2.2.2.2.2)))))))) i_5 (fun yy => (yy.1, (yy.2.1, (yy.2.2.1, (yy.2.2.2.1, (yy.2.2.2.2.1, ((yy.2.2.2.2.2.1.1, (yy.2.2.2.2.2.1.2.1, (yy.2.2.2.2.2.1.2.2.1, (IntKind.wrap .i64 ((IntKind.wrap .i64 ((IntKind.wrap .i64 (r1.1 + 1)) + 1)) + 1), yy.2.2.2.2.2.1.2.2.2.2)))), yy.2.2.2.2.2.2)))))))) i_5 (fun yy => (yy.1, (yy.2.1, (yy.2.2.1, (yy.2.2.2.1, (yy.2.2.2.2.1, ((yy.2.2.2.2.2.1.1, (yy.2.2.2.2.2.1.2.1, (yy.2.2.2.2.2.1.2.2.1, (yy.2.2.2.2.2.1.2.2.2.1, (IntKind.wrap .i64 ((IntKind.wrap .i64 ((IntKind.wrap .i64 ((IntKind.wrap .i64 (r1.1 + 1)) + 1)) + 1)) + 1), yy.2.2.2.2.2.1.2.2.2.2.2))))), yy.2.2.2.2.2.2)))))))) else none else none else none else none else none else none else none else none else none else none else none else none else none else none else none else none else none else none else none else none else none else none else none else none else none else none else none else none else none else none else none else none else none else none
 else some (k_1, s0) := by kernel_rfl
theorem laws_heldHappeningS_eq (k : Nat) (a_0 : (List DT141)) (k_1 : Int) : laws_heldHappeningS (k + 1) a_0 k_1 =
 laws_heldHappeningS.l0 k k a_0 k_1 0 := by kernel_rfl
theorem laws_heldHappeningS.l0_eq (k m : Nat) (a_0 : (List DT141)) (k_1 : Int) (i_5 : Int) : laws_heldHappeningS.l0 k (m + 1) a_0 k_1 i_5 =
 if (i_5 : Int) < ((List.length a_0 : Nat) : Int) then
 if 0 ≤ i_5 then
 if i_5 < ((List.length a_0 : Nat) : Int) then
 if Ne (α := Int) (rd T141 a_0 i_5).1 k_1 then
 some (-1)
 else if 0 ≤ i_5 then
 if i_5 < ((List.length a_0 : Nat) : Int) then
 if Ne (α := Int) (rd T141 a_0 i_5).2.1 (IntKind.wrap .i64 (k_1 + 1)) then
 some (-1)
 else if 0 ≤ i_5 then
 if i_5 < ((List.length a_0 : Nat) : Int) then
 if Ne (α := Int) (rd T141 a_0 i_5).2.2.1.1 (IntKind.wrap .i64 ((IntKind.wrap .i64 (k_1 + 1)) + 1)) then
 some (-1)
 else if 0 ≤ i_5 then
 if i_5 < ((List.length a_0 : Nat) : Int) then
 if Ne (α := Int) (rd T141 a_0 i_5).2.2.1.2.1 (IntKind.wrap .i64 ((IntKind.wrap .i64 ((IntKind.wrap .i64 (k_1 + 1)) + 1)) + 1)) then
 some (-1)
 else if 0 ≤ i_5 then
 if i_5 < ((List.length a_0 : Nat) : Int) then
 if Ne (α := Int) (rd T141 a_0 i_5).2.2.1.2.2.1 (IntKind.wrap .i64 ((IntKind.wrap .i64 ((IntKind.wrap .i64 ((IntKind.wrap .i64 (k_1 + 1)) + 1)) + 1)) + 1)) then
 some (-1)
 else if 0 ≤ i_5 then
 if i_5 < ((List.length a_0 : Nat) : Int) then
 if Ne (α := Int) (rd T141 a_0 i_5).2.2.1.2.2.2.1 (IntKind.wrap .i64 ((IntKind.wrap .i64 ((IntKind.wrap .i64 ((IntKind.wrap .i64 ((IntKind.wrap .i64 (k_1 + 1)) + 1)) + 1)) + 1)) + 1)) then
 some (-1)
 else if 0 ≤ i_5 then
 if i_5 < ((List.length a_0 : Nat) : Int) then
 if Ne (α := Int) (rd T141 a_0 i_5).2.2.2.1.1 (IntKind.wrap .i64 ((IntKind.wrap .i64 ((IntKind.wrap .i64 ((IntKind.wrap .i64 ((IntKind.wrap .i64 ((IntKind.wrap .i64 (k_1 + 1)) + 1)) + 1)) + 1)) + 1)) + 1)) then
 some (-1)
 else if 0 ≤ i_5 then
 if i_5 < ((List.length a_0 : Nat) : Int) then
 if Ne (α := Int) (rd T141 a_0 i_5).2.2.2.1.2.1 (IntKind.wrap .i64 ((IntKind.wrap .i64 ((IntKind.wrap .i64 ((IntKind.wrap .i64 ((IntKind.wrap .i64 ((IntKind.wrap .i64 ((IntKind.wrap .i64 (k_1 + 1)) + 1)) + 1)) + 1)) + 1)) + 1)) + 1)) then
 some (-1)
 else if 0 ≤ i_5 then
 if i_5 < ((List.length a_0 : Nat) : Int) then
 if Ne (α := Int) (rd T141 a_0 i_5).2.2.2.2.1.1 (IntKind.wrap .i64 ((IntKind.wrap .i64 ((IntKind.wrap .i64 ((IntKind.wrap .i64 ((IntKind.wrap .i64 ((IntKind.wrap .i64 ((IntKind.wrap .i64 ((IntKind.wrap .i64 (k_1 + 1)) + 1)) + 1)) + 1)) + 1)) + 1)) + 1)) + 1)) then
 some (-1)
 else if 0 ≤ i_5 then
 if i_5 < ((List.length a_0 : Nat) : Int) then
 if Ne (α := Int) (rd T141 a_0 i_5).2.2.2.2.1.2.1 (IntKind.wrap .i64 ((IntKind.wrap .i64 ((IntKind.wrap .i64 ((IntKind.wrap .i64 ((IntKind.wrap .i64 ((IntKind.wrap .i64 ((IntKind.wrap .i64 ((IntKind.wrap .i64 ((IntKind.wrap .i64 (k_1 + 1)) + 1)) + 1)) + 1)) + 1)) + 1)) + 1)) + 1)) + 1)) then
 some (-1)
 else if 0 ≤ i_5 then
 if i_5 < ((List.length a_0 : Nat) : Int) then
 if Ne (α := Int) (rd T141 a_0 i_5).2.2.2.2.1.2.2.1 (IntKind.wrap .i64 ((IntKind.wrap .i64 ((IntKind.wrap .i64 ((IntKind.wrap .i64 ((IntKind.wrap .i64 ((IntKind.wrap .i64 ((IntKind.wrap .i64 ((IntKind.wrap .i64 ((IntKind.wrap .i64 ((IntKind.wrap .i64 (k_1 + 1)) + 1)) + 1)) + 1)) + 1)) + 1)) + 1)) + 1)) + 1)) + 1)) then
 some (-1)
 else if 0 ≤ i_5 then
 if i_5 < ((List.length a_0 : Nat) : Int) then
 (laws_heldIntS k (rd T141 a_0 i_5).2.2.2.2.1.2.2.2.1 (IntKind.wrap .i64 ((IntKind.wrap .i64 ((IntKind.wrap .i64 ((IntKind.wrap .i64 ((IntKind.wrap .i64 ((IntKind.wrap .i64 ((IntKind.wrap .i64 ((IntKind.wrap .i64 ((IntKind.wrap .i64 ((IntKind.wrap .i64 ((IntKind.wrap .i64 (k_1 + 1)) + 1)) + 1)) + 1)) + 1)) + 1)) + 1)) + 1)) + 1)) + 1)) + 1))).bind fun r1 =>
 if (r1 : Int) < 0 then
 some (-1)
 else if 0 ≤ i_5 then
 if i_5 < ((List.length a_0 : Nat) : Int) then
 if Ne (α := Int) (rd T141 a_0 i_5).2.2.2.2.2.1.1 r1 then
 some (-1)
 else if 0 ≤ i_5 then
 if i_5 < ((List.length a_0 : Nat) : Int) then
 if Ne (α := Int) (rd T141 a_0 i_5).2.2.2.2.2.1.2.1 (IntKind.wrap .i64 (r1 + 1)) then
 some (-1)
 else if 0 ≤ i_5 then
 if i_5 < ((List.length a_0 : Nat) : Int) then
 if Ne (α := Int) (rd T141 a_0 i_5).2.2.2.2.2.1.2.2.1 (IntKind.wrap .i64 ((IntKind.wrap .i64 (r1 + 1)) + 1)) then
 some (-1)
 else if 0 ≤ i_5 then
 if i_5 < ((List.length a_0 : Nat) : Int) then
 if Ne (α := Int) (rd T141 a_0 i_5).2.2.2.2.2.1.2.2.2.1 (IntKind.wrap .i64 ((IntKind.wrap .i64 ((IntKind.wrap .i64 (r1 + 1)) + 1)) + 1)) then
 some (-1)
 else if 0 ≤ i_5 then
 if i_5 < ((List.length a_0 : Nat) : Int) then
 if Ne (α := Int) (rd T141 a_0 i_5).2.2.2.2.2.1.2.2.2.2.1 (IntKind.wrap .i64 ((IntKind.wrap .i64 ((IntKind.wrap .i64 ((IntKind.wrap .i64 (r1 + 1)) + 1)) + 1)) + 1)) then
 some (-1)
 else laws_heldHappeningS.l0 k m a_0 (IntKind.wrap .i64 ((IntKind.wrap .i64 ((IntKind.wrap .i64 ((IntKind.wrap .i64 ((IntKind.wrap .i64 (r1 + 1)) + 1)) + 1)) + 1)) + 1)) (IntKind.wrap .i64 (i_5 + 1)) else none else none else none else none else none else none else none else none else none else none else none else none else none else none else none else none else none else none else none else none else none else none else none else none else none else none else none else none else none else none else none else none else none else none
 else some k_1 := by kernel_rfl
theorem laws_toEvent_eq (k : Nat) (a_0 : DT135) : laws_toEvent (k + 1) a_0 =
 some a_0 := by kernel_rfl
theorem laws_eqHappening_eq (k : Nat) (a_0 : DT141) (b_1 : DT141) : laws_eqHappening (k + 1) a_0 b_1 =
 if (a_0.1 : Int) ≠ b_1.1 then
 some false
 else if (a_0.2.1 : Int) ≠ b_1.2.1 then
 some false
 else (laws_eqEvent k a_0.2.2.1 b_1.2.2.1).bind fun r1 =>
 if ¬ (r1 = true) then
 some false
 else (laws_eqTempo k a_0.2.2.2.1 b_1.2.2.2.1).bind fun r2 =>
 if ¬ (r2 = true) then
 some false
 else (laws_eqPlayer k a_0.2.2.2.2.1 b_1.2.2.2.2.1).bind fun r3 =>
 if ¬ (r3 = true) then
 some false
 else (laws_eqMark k a_0.2.2.2.2.2.1 b_1.2.2.2.2.2.1).bind fun r4 =>
 if ¬ (r4 = true) then
 some false
 else some true := by kernel_rfl
theorem laws_eqEvent_eq (k : Nat) (a_0 : DT135) (b_1 : DT135) : laws_eqEvent (k + 1) a_0 b_1 =
 if (a_0.1 : Int) ≠ b_1.1 then
 some false
 else if (a_0.2.1 : Int) ≠ b_1.2.1 then
 some false
 else if (a_0.2.2.1 : Int) ≠ b_1.2.2.1 then
 some false
 else if (a_0.2.2.2.1 : Int) ≠ b_1.2.2.2.1 then
 some false
 else some true := by kernel_rfl
theorem laws_markIntS_eq (k : Nat) (a_0 : (List Int)) (k_1 : Int) : laws_markIntS (k + 1) a_0 k_1 =
 laws_markIntS.l0 k k k_1 0 a_0 := by kernel_rfl
theorem laws_markIntS.l0_eq (k m : Nat) (k_1 : Int) (i_5 : Int) (s0 : (List Int)) : laws_markIntS.l0 k (m + 1) k_1 i_5 s0 =
 if (i_5 : Int) < ((List.length s0 : Nat) : Int) then
 if 0 ≤ i_5 then
 if i_5 < ((List.length s0 : Nat) : Int) then
 laws_markIntS.l0 k m (IntKind.wrap .i64 (k_1 + 1)) (IntKind.wrap .i64 (i_5 + 1)) (List.set s0 (Int.toNat i_5) k_1) else none else none
 else some (k_1, s0) := by kernel_rfl
theorem laws_heldIntS_eq (k : Nat) (a_0 : (List Int)) (k_1 : Int) : laws_heldIntS (k + 1) a_0 k_1 =
 laws_heldIntS.l0 k k a_0 k_1 0 := by kernel_rfl
theorem laws_heldIntS.l0_eq (k m : Nat) (a_0 : (List Int)) (k_1 : Int) (i_5 : Int) : laws_heldIntS.l0 k (m + 1) a_0 k_1 i_5 =
 if (i_5 : Int) < ((List.length a_0 : Nat) : Int) then
 if 0 ≤ i_5 then
 if i_5 < ((List.length a_0 : Nat) : Int) then
 if Ne (α := Int) (rd (.int .i64) a_0 i_5) k_1 then
 some (-1)
 else laws_heldIntS.l0 k m a_0 (IntKind.wrap .i64 (k_1 + 1)) (IntKind.wrap .i64 (i_5 + 1)) else none else none
 else some k_1 := by kernel_rfl
theorem laws_eqTempo_eq (k : Nat) (a_0 : DT71) (b_1 : DT71) : laws_eqTempo (k + 1) a_0 b_1 =
 if (a_0.1 : Int) ≠ b_1.1 then
 some false
 else if (a_0.2.1 : Int) ≠ b_1.2.1 then
 some false
 else some true := by kernel_rfl
theorem laws_eqPlayer_eq (k : Nat) (a_0 : DT107) (b_1 : DT107) : laws_eqPlayer (k + 1) a_0 b_1 =
 if (a_0.1 : Int) ≠ b_1.1 then
 some false
 else if (a_0.2.1 : Int) ≠ b_1.2.1 then
 some false
 else if (a_0.2.2.1 : Int) ≠ b_1.2.2.1 then
 some false
 else (laws_eqIntS k a_0.2.2.2.1 b_1.2.2.2.1).bind fun r1 =>
 if ¬ (r1 = true) then
 some false
 else some true := by kernel_rfl
theorem laws_eqMark_eq (k : Nat) (a_0 : DT139) (b_1 : DT139) : laws_eqMark (k + 1) a_0 b_1 =
 if (a_0.1 : Int) ≠ b_1.1 then
 some false
 else if (a_0.2.1 : Int) ≠ b_1.2.1 then
 some false
 else if (a_0.2.2.1 : Int) ≠ b_1.2.2.1 then
 some false
 else if (a_0.2.2.2.1 : Int) ≠ b_1.2.2.2.1 then
 some false
 else if (a_0.2.2.2.2.1 : Int) ≠ b_1.2.2.2.2.1 then
 some false
 else some true := by kernel_rfl
theorem laws_eqIntS_eq (k : Nat) (a_0 : (List Int)) (b_1 : (List Int)) : laws_eqIntS (k + 1) a_0 b_1 =
 if (((List.length a_0 : Nat) : Int) : Int) ≠ ((List.length b_1 : Nat) : Int) then
 some false
 else laws_eqIntS.l0 k k a_0 b_1 0 := by kernel_rfl
theorem laws_eqIntS.l0_eq (k m : Nat) (a_0 : (List Int)) (b_1 : (List Int)) (i_5 : Int) : laws_eqIntS.l0 k (m + 1) a_0 b_1 i_5 =
 if (i_5 : Int) < ((List.length a_0 : Nat) : Int) then
 if 0 ≤ i_5 then
 if i_5 < ((List.length a_0 : Nat) : Int) then
 if 0 ≤ i_5 then
 if i_5 < ((List.length b_1 : Nat) : Int) then
 if Ne (α := Int) (rd (.int .i64) a_0 i_5) (rd (.int .i64) b_1 i_5) then
 some false
 else laws_eqIntS.l0 k m a_0 b_1 (IntKind.wrap .i64 (i_5 + 1)) else none else none else none else none
 else some true := by kernel_rfl
end Go.QFnExactWriteAll
