/- The functions that the law FnExactExamplePlayers reaches, as equations; printed by pe.py. No condition. -/
import Derived.Test.YtkfnhbdloidfmaaEv
import Derived.Test.YtkfnhbdloidfmaaProg
import Derived.KernelRfl
set_option linter.unusedVariables false
open Go Go.Flat
namespace Go.QFnExactExamplePlayers
abbrev T44 : Ty := .pair (.int .i64) (.pair (.list (.int .i64)) .unit)
abbrev DT44 := Int × ((List Int) × Unit)
abbrev T107 : Ty := .pair (.int .i64) (.pair (.int .i64) T44)
abbrev DT107 := Int × (Int × DT44)
abbrev T71 : Ty := .pair (.int .i64) (.pair (.int .i64) .unit)
abbrev DT71 := Int × (Int × Unit)
abbrev T157 : Ty := .pair (.int .i64) T71
abbrev DT157 := Int × DT71
abbrev T135 : Ty := .pair (.int .i64) T157
abbrev DT135 := Int × DT157
abbrev T139 : Ty := .pair (.int .i64) T135
abbrev DT139 := Int × DT135
abbrev T141 : Ty := .pair (.int .i64) (.pair (.int .i64) (.pair T135 (.pair T71 (.pair T107 (.pair T139 .unit)))))
abbrev DT141 := Int × (Int × (DT135 × (DT71 × (DT107 × (DT139 × Unit)))))
abbrev T77 : Ty := .pair (.list T135) (.pair T71 (.pair (.list T71) (.pair (.dlist T107) (.pair (.list (.int .i64)) (.pair (.list T139) (.pair (.list T71) T71))))))
abbrev DT77 := (List DT135) × (DT71 × ((List DT71) × ((List DT107) × ((List Int) × ((List DT139) × ((List DT71) × DT71))))))
abbrev T181 : Ty := .pair (.list (.int .u8)) T71
abbrev DT181 := (List Int) × DT71
noncomputable def C : Cfg := {
  P := Go.Proofs.Try.prog,
  tt := [(1, none), (2, some (.int .i64)), (3, some (.int .i64)), (4, some .bool), (5, some (.int .u8)), (6, some (.int .u8)), (9, some .str), (10, some .str), (11, some .str), (12, some (.int .u64)), (15, none), (16, none), (17, none), (21, some (.int .i32)), (22, some (.dlist T107)), (23, none), (24, none), (25, none), (26, none), (27, some (.list (.int .u8))), (28, none), (29, some (.dlist (.list (.int .i64)))), (30, some (.list (.int .i64))), (32, none), (34, none), (35, none), (36, none), (37, none), (38, some (.dlist T44)), (40, none), (41, none), (42, none), (43, none), (44, some T44), (45, some T44), (47, none), (49, none), (50, none), (51, none), (52, some (.dlist T44)), (53, none), (54, none), (55, none), (56, none), (57, none), (58, none), (59, some (.list T135)), (60, none), (61, some (.dlist T141)), (62, none), (63, some (.list T135)), (64, none), (65, none), (66, none), (67, none), (68, none), (69, none), (70, none), (71, some T71), (72, some T71), (73, some (.list T71)), (74, some (.dlist T107)), (75, some (.list T139)), (76, some (.list T71)), (77, some T77), (78, some T77), (79, none), (80, some (.list T157)), (82, none), (83, some T71), (84, some (.list T71)), (85, some (.list T139)), (86, some (.list T71)), (87, some T77), (88, some T77), (89, none), (90, none), (91, none), (92, none), (93, none), (94, none), (95, some (.list T71)), (96, none), (97, none), (98, none), (99, none), (101, none), (102, none), (103, none), (104, none), (105, none), (106, none), (107, some T107), (108, some T107), (109, none), (110, none), (111, none), (112, none), (113, none), (114, none), (115, none), (116, none), (117, none), (118, none), (119, none), (120, none), (121, none), (122, none), (123, none), (124, none), (125, none), (126, none), (127, none), (128, none), (129, none), (130, none), (131, some T44), (132, none), (133, none), (134, none), (135, some T135), (136, some T135), (137, some T71), (138, some T71), (139, some T139), (140, some T139), (141, some T141), (142, some T141), (143, none), (144, some T135), (145, none), (146, none), (147, none), (148, none), (149, none), (150, none), (151, none), (152, none), (153, none), (154, none), (155, none), (156, none), (157, some T157), (158, some T157), (159, none), (160, none), (161, none), (162, none), (163, none), (164, none), (165, none), (166, none), (167, some T71), (168, some T71), (170, none), (171, none), (172, none), (173, some T107), (174, none), (175, none), (176, none), (177, some (.dlist (.list T157))), (179, none), (180, none), (181, some T181), (182, some T181), (183, none), (184, none), (185, none), (186, none), (187, none), (188, none), (189, none), (190, none), (191, none), (192, none), (193, some T71), (194, none), (195, some T139), (196, some T71), (197, some T71), (198, none), (199, some T71), (200, none), (201, none), (202, none), (203, none), (204, some (.int .u64)), (205, none), (206, none), (207, none), (208, none), (209, none), (210, none), (211, none), (212, none), (213, none), (214, none), (215, none), (217, none), (218, none), (219, none), (220, none), (221, none), (222, some (.int .i64)), (224, none), (225, none), (226, none), (228, none), (229, none), (230, some (.int .u32)), (231, none), (232, some (.int .u64)), (233, none), (234, none), (235, none), (236, none), (237, none), (238, none), (239, none), (240, none), (241, none), (242, none), (243, none), (244, none), (245, some (.int .u64)), (246, none), (247, none), (248, none), (249, none), (250, none), (251, none), (252, none), (253, none), (254, none), (256, none), (257, none), (258, none), (259, none), (260, none), (261, none), (262, none), (263, none), (264, none), (265, none), (271, none), (272, some (.int .u8)), (273, some (.int .u8)), (274, none), (275, none), (276, some (.int .i32)), (277, some (.int .i32))],
  vars := [(15, [0, 1, 5]), (16, [0, 1, 5]), (17, [0, 1, 5]), (37, [0, 1, 5]), (40, [0, 1, 5]), (41, [0, 1, 5])],
  sigs := [(16, { lend := some 0 }), (40, { lend := some 0 })] }
noncomputable def laws_FnExactExamplePlayers (k : Nat) : Option Bool := run C k 3 .bool []
noncomputable def spec_ExamplePlayers (k : Nat) : Option (List DT107) := run C k 13 (.dlist T107) []
noncomputable def impl_ExamplePlayers (k : Nat) : Option (List DT107) := run C k 14 (.dlist T107) []
noncomputable def laws_eqPlayerS (k : Nat) (a_0 : (List DT107)) (b_1 : (List DT107)) : Option Bool := run C k 15 .bool [.val (.dlist T107) a_0, .val (.dlist T107) b_1]
noncomputable def laws_eqPlayerS.l0 (k m : Nat) (a_0 : (List DT107)) (b_1 : (List DT107)) (i_5 : Int) : Option Bool := loopRun C k 15 .bool [0, 0] [.r, .r, .l, .r, .b] [] [0, 1, 5] m ⟨[.one (.cell (.list false T107 a_0)), .one (.cell (.list false T107 b_1)), .one (.cell (.int .i64 i_5))], []⟩
noncomputable def laws_markPlayerS (k : Nat) (a_0 : (List DT107)) (k_1 : Int) : Option (Int × (List DT107)) := run C k 16 (.pair (.int .i64) (.dlist T107)) [.lend (.dlist T107) a_0, .val (.int .i64) k_1]
noncomputable def laws_markPlayerS.l0 (k m : Nat) (k_1 : Int) (i_5 : Int) (s0 : (List DT107)) : Option (Int × (List DT107)) := loopRunL C k 16 (.pair (.int .i64) (.dlist T107)) 0 (.dlist T107) 2 [.r, .l, .r, .b] [] [0, 1, 5] m ⟨[.one (.cell (.dref 1)), .one (.cell (.int .i64 k_1)), .one (.cell (.int .i64 i_5))], [.deep T107 s0 (some 0)]⟩
noncomputable def laws_heldPlayerS (k : Nat) (a_0 : (List DT107)) (k_1 : Int) : Option Int := run C k 17 (.int .i64) [.val (.dlist T107) a_0, .val (.int .i64) k_1]
noncomputable def laws_heldPlayerS.l0 (k m : Nat) (a_0 : (List DT107)) (k_1 : Int) (i_5 : Int) : Option Int := loopRun C k 17 (.int .i64) [0, 0] [.r, .l, .r, .b] [] [0, 1, 5] m ⟨[.one (.cell (.list false T107 a_0)), .one (.cell (.int .i64 k_1)), .one (.cell (.int .i64 i_5))], []⟩
noncomputable def laws_eqPlayer (k : Nat) (a_0 : DT107) (b_1 : DT107) : Option Bool := run C k 75 .bool [.val T107 a_0, .val T107 b_1]
noncomputable def laws_markIntS (k : Nat) (a_0 : (List Int)) (k_1 : Int) : Option (Int × (List Int)) := run C k 40 (.pair (.int .i64) (.list (.int .i64))) [.lend (.list (.int .i64)) a_0, .val (.int .i64) k_1]
noncomputable def laws_markIntS.l0 (k m : Nat) (k_1 : Int) (i_5 : Int) (s0 : (List Int)) : Option (Int × (List Int)) := loopRunL C k 40 (.pair (.int .i64) (.list (.int .i64))) 0 (.list (.int .i64)) 2 [.r, .l, .r, .b] [] [0, 1, 5] m ⟨[.one (.cell (.ref 1)), .one (.cell (.int .i64 k_1)), .one (.cell (.int .i64 i_5))], [.arr (.int .i64) s0 (.pinned 0)]⟩
noncomputable def laws_heldIntS (k : Nat) (a_0 : (List Int)) (k_1 : Int) : Option Int := run C k 41 (.int .i64) [.val (.list (.int .i64)) a_0, .val (.int .i64) k_1]
noncomputable def laws_heldIntS.l0 (k m : Nat) (a_0 : (List Int)) (k_1 : Int) (i_5 : Int) : Option Int := loopRun C k 41 (.int .i64) [0, 0] [.r, .l, .r, .b] [] [0, 1, 5] m ⟨[.one (.cell (.list false (.int .i64) a_0)), .one (.cell (.int .i64 k_1)), .one (.cell (.int .i64 i_5))], []⟩
noncomputable def laws_eqIntS (k : Nat) (a_0 : (List Int)) (b_1 : (List Int)) : Option Bool := run C k 37 .bool [.val (.list (.int .i64)) a_0, .val (.list (.int .i64)) b_1]
noncomputable def laws_eqIntS.l0 (k m : Nat) (a_0 : (List Int)) (b_1 : (List Int)) (i_5 : Int) : Option Bool := loopRun C k 37 .bool [0, 0] [.r, .r, .l, .r, .b] [] [0, 1, 5] m ⟨[.one (.cell (.list false (.int .i64) a_0)), .one (.cell (.list false (.int .i64) b_1)), .one (.cell (.int .i64 i_5))], []⟩
theorem laws_FnExactExamplePlayers_eq (k : Nat) : laws_FnExactExamplePlayers (k + 1) =
 (spec_ExamplePlayers k).bind fun r1 =>
 (impl_ExamplePlayers k).bind fun r2 =>
 (laws_eqPlayerS k r2 r1).bind fun r3 =>
 if ¬ (r3 = true) then
 some false
 else (laws_markPlayerS k r2 1).bind fun r4 =>
 (laws_heldPlayerS k r4.2 1).bind fun r5 =>
 if (r5 : Int) < 0 then
 some false
 else if (r5 : Int) ≠ r4.1 then
 some false
 else (impl_ExamplePlayers k).bind fun r6 =>
 (laws_eqPlayerS k r6 r1).bind fun r7 =>
 if ¬ (r7 = true) then
 some false
 else (laws_heldPlayerS k r4.2 1).bind fun r8 =>
 if (r8 : Int) < 0 then
 some false
 else if (r8 : Int) ≠ r4.1 then
 some false
 else some true := by kernel_rfl
theorem spec_ExamplePlayers_eq (k : Nat) : spec_ExamplePlayers (k + 1) =
 some ([(1, (55, (100, ([1], ())))), (2, (55, (100, ([1, 2], ())))), (3, (36, (72, ([2, 3], ())))), (4, (36, (84, ([1, 2, 3], ()))))]) := by kernel_rfl
theorem impl_ExamplePlayers_eq (k : Nat) : impl_ExamplePlayers (k + 1) =
 some ([(1, (55, (100, ([1], ())))), (2, (55, (100, ([1, 2], ())))), (3, (36, (72, ([2, 3], ())))), (4, (36, (84, ([1, 2, 3], ()))))]) := by kernel_rfl
theorem laws_eqPlayerS_eq (k : Nat) (a_0 : (List DT107)) (b_1 : (List DT107)) : laws_eqPlayerS (k + 1) a_0 b_1 =
 if (((List.length a_0 : Nat) : Int) : Int) ≠ ((List.length b_1 : Nat) : Int) then
 some false
 else laws_eqPlayerS.l0 k k a_0 b_1 0 := by kernel_rfl
theorem laws_eqPlayerS.l0_eq (k m : Nat) (a_0 : (List DT107)) (b_1 : (List DT107)) (i_5 : Int) : laws_eqPlayerS.l0 k (m + 1) a_0 b_1 i_5 =
 if (i_5 : Int) < ((List.length a_0 : Nat) : Int) then
 if 0 ≤ i_5 then
 if i_5 < ((List.length a_0 : Nat) : Int) then
 if 0 ≤ i_5 then
 if i_5 < ((List.length b_1 : Nat) : Int) then
 (laws_eqPlayer k (rd T107 a_0 i_5) (rd T107 b_1 i_5)).bind fun r1 =>
 if ¬ (r1 = true) then
 some false
 else laws_eqPlayerS.l0 k m a_0 b_1 (IntKind.wrap .i64 (i_5 + 1)) else none else none else none else none
 else some true := by kernel_rfl
theorem laws_markPlayerS_eq (k : Nat) (a_0 : (List DT107)) (k_1 : Int) : laws_markPlayerS (k + 1) a_0 k_1 =
 laws_markPlayerS.l0 k k k_1 0 a_0 := by kernel_rfl
theorem laws_markPlayerS.l0_eq (k m : Nat) (k_1 : Int) (i_5 : Int) (s0 : (List DT107)) : laws_markPlayerS.l0 k (m + 1) k_1 i_5 s0 =
 if (i_5 : Int) < ((List.length s0 : Nat) : Int) then
 if 0 ≤ i_5 then
 if i_5 < ((List.length s0 : Nat) : Int) then
 if 0 ≤ i_5 then
 if i_5 < ((List.length (setAt T107 s0 i_5 (fun yy => (k_1, yy.2))) : Nat) : Int) then
 if 0 ≤ i_5 then
 if i_5 < ((List.length (setAt T107 (setAt T107 s0 i_5 (fun yy => (k_1, yy.2))) i_5 (fun yy => (yy.1, (IntKind.wrap .i64 (k_1 + 1), yy.2.2)))) : Nat) : Int) then
 if 0 ≤ i_5 then
 if i_5 < ((List.length (setAt T107 (setAt T107 (setAt T107 s0 i_5 (fun yy => (k_1, yy.2))) i_5 (fun yy => (yy.1, (IntKind.wrap .i64 (k_1 + 1), yy.2.2)))) i_5 (fun yy => (yy.1, (yy.2.1, (IntKind.wrap .i64 ((IntKind.wrap .i64 (k_1 + 1)) + 1), yy.2.2.2))))) : Nat) : Int) then
 (laws_markIntS k (rd T107 (setAt T107 (setAt T107 (setAt T107 s0 i_5 (fun yy => (k_1, yy.2))) i_5 (fun yy => (yy.1, (IntKind.wrap .i64 (k_1 + 1), yy.2.2)))) i_5 (fun yy => (yy.1, (yy.2.1, (IntKind.wrap .i64 ((IntKind.wrap .i64 (k_1 + 1)) + 1), yy.2.2.2))))) i_5).2.2.2.1 (IntKind.wrap .i64 ((IntKind.wrap .i64 ((IntKind.wrap .i64 (k_1 + 1)) + 1)) + 1))).bind fun r1 =>
 laws_markPlayerS.l0 k m r1.1 (IntKind.wrap .i64 (i_5 + 1)) (setAt T107 (setAt T107 (setAt T107 (setAt T107 s0 i_5 (fun yy => (k_1, yy.2))) i_5 (fun yy => (yy.1, (IntKind.wrap .i64 (k_1 + 1), yy.2.2)))) i_5 (fun yy => (yy.1, (yy.2.1, (IntKind.wrap .i64 ((IntKind.wrap .i64 (k_1 + 1)) + 1), yy.2.2.2))))) i_5 (fun yy => (yy.1, (yy.2.1, (yy.2.2.1, (r1.2, yy.2.2.2.2)))))) else none else none else none else none else none else none else none else none
 else some (k_1, s0) := by kernel_rfl
theorem laws_heldPlayerS_eq (k : Nat) (a_0 : (List DT107)) (k_1 : Int) : laws_heldPlayerS (k + 1) a_0 k_1 =
 laws_heldPlayerS.l0 k k a_0 k_1 0 := by kernel_rfl
theorem laws_heldPlayerS.l0_eq (k m : Nat) (a_0 : (List DT107)) (k_1 : Int) (i_5 : Int) : laws_heldPlayerS.l0 k (m + 1) a_0 k_1 i_5 =
 if (i_5 : Int) < ((List.length a_0 : Nat) : Int) then
 if 0 ≤ i_5 then
 if i_5 < ((List.length a_0 : Nat) : Int) then
 if Ne (α := Int) (rd T107 a_0 i_5).1 k_1 then
 some (-1)
 else if 0 ≤ i_5 then
 if i_5 < ((List.length a_0 : Nat) : Int) then
 if Ne (α := Int) (rd T107 a_0 i_5).2.1 (IntKind.wrap .i64 (k_1 + 1)) then
 some (-1)
 else if 0 ≤ i_5 then
 if i_5 < ((List.length a_0 : Nat) : Int) then
 if Ne (α := Int) (rd T107 a_0 i_5).2.2.1 (IntKind.wrap .i64 ((IntKind.wrap .i64 (k_1 + 1)) + 1)) then
 some (-1)
 else if 0 ≤ i_5 then
 if i_5 < ((List.length a_0 : Nat) : Int) then
 (laws_heldIntS k (rd T107 a_0 i_5).2.2.2.1 (IntKind.wrap .i64 ((IntKind.wrap .i64 ((IntKind.wrap .i64 (k_1 + 1)) + 1)) + 1))).bind fun r1 =>
 if (r1 : Int) < 0 then
 some (-1)
 else laws_heldPlayerS.l0 k m a_0 r1 (IntKind.wrap .i64 (i_5 + 1)) else none else none else none else none else none else none else none else none
 else some k_1 := by kernel_rfl
theorem laws_eqPlayer_eq (k : Nat) (a_0 : DT107) (b_1 : DT107) : laws_eqPlayer (k + 1) a_0 b_1 =
 if (a_0.1 : Int) ≠ b_1.1 then
 some false
 else if (a_0.2.1 : Int) ≠ b_1.2.1 then
 some false
 else if (a_0.2.2.1 : Int) ≠ b_1.2.2.1 then
 some false
 else (laws_eqIntS k a_0.2.2.2.1 b_1.2.2.2.1).bind fun r1 =>
 if ¬ (r1 = true) then
 some false
 else some true := by kernel_rfl
theorem laws_markIntS_eq (k : Nat) (a_0 : (List Int)) (k_1 : Int) : laws_markIntS (k + 1) a_0 k_1 =
 laws_markIntS.l0 k k k_1 0 a_0 := by kernel_rfl
theorem laws_markIntS.l0_eq (k m : Nat) (k_1 : Int) (i_5 : Int) (s0 : (List Int)) : laws_markIntS.l0 k (m + 1) k_1 i_5 s0 =
 if (i_5 : Int) < ((List.length s0 : Nat) : Int) then
 if 0 ≤ i_5 then
 if i_5 < ((List.length s0 : Nat) : Int) then
 laws_markIntS.l0 k m (IntKind.wrap .i64 (k_1 + 1)) (IntKind.wrap .i64 (i_5 + 1)) (List.set s0 (Int.toNat i_5) k_1) else none else none
 else some (k_1, s0) := by kernel_rfl
theorem laws_heldIntS_eq (k : Nat) (a_0 : (List Int)) (k_1 : Int) : laws_heldIntS (k + 1) a_0 k_1 =
 laws_heldIntS.l0 k k a_0 k_1 0 := by kernel_rfl
theorem laws_heldIntS.l0_eq (k m : Nat) (a_0 : (List Int)) (k_1 : Int) (i_5 : Int) : laws_heldIntS.l0 k (m + 1) a_0 k_1 i_5 =
 if (i_5 : Int) < ((List.length a_0 : Nat) : Int) then
 if 0 ≤ i_5 then
 if i_5 < ((List.length a_0 : Nat) : Int) then
 if Ne (α := Int) (rd (.int .i64) a_0 i_5) k_1 then
 some (-1)
 else laws_heldIntS.l0 k m a_0 (IntKind.wrap .i64 (k_1 + 1)) (IntKind.wrap .i64 (i_5 + 1)) else none else none
 else some k_1 := by kernel_rfl
theorem laws_eqIntS_eq (k : Nat) (a_0 : (List Int)) (b_1 : (List Int)) : laws_eqIntS (k + 1) a_0 b_1 =
 if (((List.length a_0 : Nat) : Int) : Int) ≠ ((List.length b_1 : Nat) : Int) then
 some false
 else laws_eqIntS.l0 k k a_0 b_1 0 := by kernel_rfl
theorem laws_eqIntS.l0_eq (k m : Nat) (a_0 : (List Int)) (b_1 : (List Int)) (i_5 : Int) : laws_eqIntS.l0 k (m + 1) a_0 b_1 i_5 =
 if (i_5 : Int) < ((List.length a_0 : Nat) : Int) then
 if 0 ≤ i_5 then
 if i_5 < ((List.length a_0 : Nat) : Int) then
 if 0 ≤ i_5 then
 if i_5 < ((List.length b_1 : Nat) : Int) then
 if Ne (α := Int) (rd (.int .i64) a_0 i_5) (rd (.int .i64) b_1 i_5) then
 some false
 else laws_eqIntS.l0 k m a_0 b_1 (IntKind.wrap .i64 (i_5 + 1)) else none else none else none else none
 else some true := by kernel_rfl
end Go.QFnExactExamplePlayers
