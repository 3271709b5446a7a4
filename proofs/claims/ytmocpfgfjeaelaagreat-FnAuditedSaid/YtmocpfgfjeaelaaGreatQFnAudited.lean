/- The functions that the law FnAudited reaches, as equations; printed by pe.py. No condition. -/
import Derived.Test.YtmocpfgfjeaelaaGreatEv
import Derived.Test.YtmocpfgfjeaelaaGreatProg
import Derived.KernelRfl
set_option linter.unusedVariables false
open Go Go.Flat
namespace Go.QFnAudited
abbrev T25 : Ty := .pair (.int .i64) (.pair (.int .i64) .unit)
abbrev DT25 := Int × (Int × Unit)
abbrev T212 : Ty := .pair (.int .i64) T25
abbrev DT212 := Int × DT25
abbrev T39 : Ty := .pair (.int .i64) T212
abbrev DT39 := Int × DT212
abbrev T43 : Ty := .pair (.int .i64) (.pair (.int .i64) (.pair (.int .i64) (.pair (.list (.int .i64)) .unit)))
abbrev DT43 := Int × (Int × (Int × ((List Int) × Unit)))
abbrev T45 : Ty := .pair (.int .i64) T39
abbrev DT45 := Int × DT39
abbrev T32 : Ty := .pair (.list T39) (.pair T25 (.pair (.list T25) (.pair (.list T43) (.pair (.list (.int .i64)) (.pair (.list T45) (.pair (.list T25) T25))))))
abbrev DT32 := (List DT39) × (DT25 × ((List DT25) × ((List DT43) × ((List Int) × ((List DT45) × ((List DT25) × DT25))))))
abbrev T47 : Ty := .pair (.int .i64) (.pair (.int .i64) (.pair T39 (.pair T25 (.pair T43 (.pair T45 .unit)))))
abbrev DT47 := Int × (Int × (DT39 × (DT25 × (DT43 × (DT45 × Unit)))))
abbrev T59 : Ty := .pair (.list (.int .i64)) (.pair (.list (.int .i64)) .unit)
abbrev DT59 := (List Int) × ((List Int) × Unit)
abbrev T135 : Ty := .pair (.list (.int .i64)) (.pair (.int .i64) .unit)
abbrev DT135 := (List Int) × (Int × Unit)
abbrev T199 : Ty := .pair (.list (.int .u8)) T25
abbrev DT199 := (List Int) × DT25
noncomputable def C : Cfg := {
  P := Go.Proofs.Tryz.prog,
  tt := [(1, none), (2, some (.int .i64)), (3, some (.int .i64)), (4, some .bool), (5, some (.int .u8)), (6, some (.int .u8)), (9, some .str), (10, some .str), (11, some .str), (12, some (.int .u64)), (15, none), (16, none), (17, none), (21, some (.int .i32)), (22, some (.list (.int .u8))), (23, none), (24, some (.list T39)), (25, some T25), (26, some T25), (27, some (.list T25)), (28, some (.list T43)), (29, some (.list (.int .i64))), (30, some (.list T45)), (31, some (.list T25)), (32, some T32), (33, some T32), (34, some (.list T47)), (36, none), (38, none), (39, some T39), (40, some T39), (41, some T25), (42, some T25), (43, some T43), (44, some T43), (45, some T45), (46, some T45), (47, some T47), (48, some T47), (49, none), (50, some (.list (.list T212))), (52, none), (53, none), (54, some T25), (55, some T25), (57, none), (58, none), (59, some T59), (60, some T59), (62, none), (64, none), (65, none), (66, none), (67, none), (69, none), (70, none), (72, none), (73, none), (75, none), (76, none), (78, none), (79, none), (81, none), (82, none), (83, none), (84, none), (85, none), (86, none), (87, some (.list T39)), (88, some T25), (89, some (.list T25)), (90, some (.list T43)), (91, some (.list T45)), (92, some (.list T25)), (93, some T32), (94, some T32), (95, some T43), (96, none), (97, none), (98, none), (99, none), (100, none), (101, none), (102, none), (103, none), (104, none), (105, none), (106, none), (107, none), (108, none), (109, none), (110, none), (112, none), (113, none), (114, none), (115, none), (116, none), (117, none), (118, none), (119, none), (120, none), (121, none), (122, none), (123, none), (124, none), (125, some (.list T212)), (127, none), (128, none), (129, none), (130, none), (131, none), (132, none), (133, none), (134, none), (135, some T135), (136, some T135), (138, none), (139, none), (140, none), (141, none), (142, none), (143, none), (144, none), (145, none), (146, none), (147, none), (148, none), (149, none), (150, none), (151, none), (152, none), (153, none), (154, none), (155, none), (157, none), (158, none), (159, none), (160, none), (162, none), (163, none), (164, none), (165, none), (166, none), (167, none), (168, none), (169, none), (170, none), (171, none), (172, none), (173, some T25), (174, some T25), (175, none), (176, none), (177, none), (178, none), (179, none), (180, none), (181, none), (182, none), (183, none), (184, none), (185, none), (186, none), (187, none), (188, none), (189, none), (190, none), (191, none), (192, none), (193, none), (194, none), (195, none), (196, none), (197, none), (198, some (.list .str)), (199, some T199), (200, some T199), (201, none), (202, none), (203, none), (204, none), (205, none), (206, none), (207, none), (208, none), (209, none), (210, none), (211, none), (212, some T212), (213, some T212), (214, none), (215, none), (216, none), (217, none), (218, none), (219, none), (221, none), (222, none), (223, none), (224, none), (225, none), (226, none), (227, none), (228, none), (229, none), (230, none), (231, some T39), (232, none), (233, some T25), (234, none), (235, some T45), (236, none), (237, some T25), (238, none), (239, none), (240, none), (241, none), (242, none), (243, none), (244, none), (245, none), (246, none), (247, none), (248, none), (249, some (.int .u64)), (250, none), (251, none), (252, none), (253, none), (254, none), (255, none), (256, none), (257, none), (258, none), (259, some (.int .i64)), (261, none), (262, none), (263, none), (264, none), (265, none), (266, some (.int .u32)), (267, none), (268, some (.int .u64)), (269, none), (270, none), (271, none), (272, none), (273, some (.int .u64)), (274, none), (275, none), (276, none), (277, none), (278, none), (279, none), (280, none), (281, none), (282, none), (283, none), (289, none), (290, some (.int .u8)), (291, some (.int .u8)), (292, none), (293, none), (294, some (.int .i32)), (295, some (.int .i32))],
  vars := [(15, [0, 1, 4, 6, 24, 25, 26]), (16, [0, 3, 4, 6, 7, 39, 40, 41]), (46, [2, 3, 4, 6, 7]), (59, [0, 5, 6, 7]), (63, [0, 3, 4]), (65, [0, 5, 6]), (68, [0, 5, 6, 7]), (69, [0, 5, 6, 7]), (70, [0, 5, 6, 7]), (71, [0, 2, 4, 22, 23, 24]), (110, [0, 1, 7, 8]), (112, [0, 1, 7, 8]), (135, [0, 3, 4]), (168, [0, 3, 4]), (169, [0, 3, 4]), (170, [0, 3, 4, 5]), (177, [0, 3, 7, 8, 9]), (185, [0, 1, 5, 6]), (188, [0, 1]), (194, [0, 1, 7, 8]), (222, [3, 6, 7, 8]), (225, [0, 1, 7, 8, 9]), (227, [0, 1, 2, 9, 10, 11]), (228, [0, 1, 2, 9, 10, 11]), (231, [1, 4, 5, 6]), (238, [0, 1, 5]), (247, [0, 3]), (249, [0, 3]), (250, [0, 3]), (251, [0, 3]), (252, [0, 1, 2, 7, 8, 9]), (255, [0, 3, 5]), (267, [0, 3, 4, 5]), (268, [0, 1, 2, 3, 10]), (269, [0, 3, 5]), (279, [0, 1, 5]), (286, [2, 3, 4, 6, 7]), (287, [1, 2, 4, 6, 7, 8, 9]), (291, [0, 1, 2, 7]), (292, [0, 1, 5, 6]), (294, [0, 3, 6, 7, 8]), (295, [0, 1, 2, 3, 10])],
  sigs := [(63, { lend := some 1000, made := T199 }), (64, { lend := some 0 }), (65, { lend := some 0 }), (94, { lend := some 0 }), (95, { lend := some 0 }), (96, { lend := some 0 }), (100, { lend := some 0 }), (136, { io := [1] }), (165, { lend := some 0 }), (167, { lend := some 0 }), (168, { lend := some 0 }), (170, { lend := some 0 }), (185, { io := [0] }), (193, { lend := some 0 }), (202, { lend := some 0 }), (224, { lend := some 0 }), (225, { lend := some 0 })],
  ptrs := [15, 16, 17, 114, 149, 277, 280, 293],
  brows := [(34, 28), (42, 28)],
  keepT := [44, 48] }
noncomputable def laws_FnAudited (k : Nat) (code_0 : (List Int)) : Option Bool := run C k 4 .bool [.val (.list (.int .u8)) code_0]
noncomputable def laws_big (k : Nat) (code_0 : (List Int)) : Option Bool := run C k 8 .bool [.val (.list (.int .u8)) code_0]
noncomputable def spec_DrawFaultOf (k : Nat) (code_0 : (List Int)) : Option DT32 := run C k 20 T32 [.val (.list (.int .u8)) code_0]
noncomputable def impl_FaultOf (k : Nat) (o_0 : DT32) : Option ByteArray := run C k 21 .str [.val T32 o_0]
noncomputable def impl_IsOrchestra (k : Nat) (o_0 : DT32) : Option Bool := run C k 11 .bool [.val T32 o_0]
noncomputable def impl_IsExact (k : Nat) (o_0 : DT32) : Option Bool := run C k 22 .bool [.val T32 o_0]
noncomputable def impl_AreSeated (k : Nat) (o_0 : DT32) : Option Bool := run C k 23 .bool [.val T32 o_0]
noncomputable def impl_IsPlayable (k : Nat) (o_0 : DT32) : Option Bool := run C k 12 .bool [.val T32 o_0]
noncomputable def spec_DrawAreSeated (k : Nat) (code_0 : (List Int)) : Option DT32 := run C k 89 T32 [.val (.list (.int .u8)) code_0]
noncomputable def impl_IsScore (k : Nat) (l_0 : (List DT39)) : Option Bool := run C k 59 .bool [.val (.list T39) l_0]
noncomputable def impl_IsScore.l0 (k m : Nat) (l_0 : (List DT39)) (t_5 : (List DT39)) (t_6 : Int) (t_7 : Int) : Option Bool := loopRun C k 59 .bool [0] [.r, .l, .r, .b] [] [0, 5, 6, 7] m ⟨[.one (.cell (.list false T39 l_0)), .one (.cell (.list false T39 t_5)), .one (.cell (.int .i64 t_6)), .one (.cell (.int .i64 t_7))], []⟩
noncomputable def impl_IsMeter (k : Nat) (m_0 : DT25) : Option Bool := run C k 67 .bool [.val T25 m_0]
noncomputable def impl_IsTempo (k : Nat) (l_0 : (List DT25)) : Option Bool := run C k 68 .bool [.val (.list T25) l_0]
noncomputable def impl_IsTempo.l0 (k m : Nat) (l_0 : (List DT25)) (t_5 : (List DT25)) (t_6 : Int) (t_7 : Int) : Option Bool := loopRun C k 68 .bool [0] [.r, .l, .r, .b] [] [0, 5, 6, 7] m ⟨[.one (.cell (.list false T25 l_0)), .one (.cell (.list false T25 t_5)), .one (.cell (.int .i64 t_6)), .one (.cell (.int .i64 t_7))], []⟩
noncomputable def impl_AreMarks (k : Nat) (l_0 : (List DT45)) : Option Bool := run C k 69 .bool [.val (.list T45) l_0]
noncomputable def impl_AreMarks.l0 (k m : Nat) (l_0 : (List DT45)) (t_5 : (List DT45)) (t_6 : Int) (t_7 : Int) : Option Bool := loopRun C k 69 .bool [0] [.r, .l, .r, .b] [] [0, 5, 6, 7] m ⟨[.one (.cell (.list false T45 l_0)), .one (.cell (.list false T45 t_5)), .one (.cell (.int .i64 t_6)), .one (.cell (.int .i64 t_7))], []⟩
noncomputable def impl_AreLetters (k : Nat) (l_0 : (List DT25)) : Option Bool := run C k 70 .bool [.val (.list T25) l_0]
noncomputable def impl_AreLetters.l0 (k m : Nat) (l_0 : (List DT25)) (t_5 : (List DT25)) (t_6 : Int) (t_7 : Int) : Option Bool := loopRun C k 70 .bool [0] [.r, .l, .r, .b] [] [0, 5, 6, 7] m ⟨[.one (.cell (.list false T25 l_0)), .one (.cell (.list false T25 t_5)), .one (.cell (.int .i64 t_6)), .one (.cell (.int .i64 t_7))], []⟩
noncomputable def impl_IsSeating (k : Nat) (l_0 : (List DT43)) (score_1 : (List DT39)) (seats_2 : (List Int)) : Option Bool := run C k 71 .bool [.val (.list T43) l_0, .val (.list T39) score_1, .val (.list (.int .i64)) seats_2]
noncomputable def impl_IsSeating.l0 (k m : Nat) (l_0 : (List DT43)) (seats_2 : (List Int)) (t_22 : (List Int)) (t_23 : Int) (t_24 : Int) (b0_0 : (List DT39)) : Option Bool := loopRun C k 71 .bool [0, 0, 0] [.r, .r, .l, .r, .b] [] [0, 2, 4, 22, 23, 24] m ⟨[.one (.cell (.list false T43 l_0)), .one (.cell (.list false (.int .i64) seats_2)), .one (.cell (.ptr 1 0)), .one (.cell (.list false (.int .i64) t_22)), .one (.cell (.int .i64 t_23)), .one (.cell (.int .i64 t_24))], [.box (some (.list T39)) [.list false T39 b0_0]]⟩
noncomputable def impl_InRange (k : Nat) (n_0 : Int) (low_1 : Int) (high_2 : Int) : Option Bool := run C k 72 .bool [.val (.int .i64) n_0, .val (.int .i64) low_1, .val (.int .i64) high_2]
noncomputable def slices_ContainsFunc_impl_Event_91 (k : Nat) (s_0 : (List DT39)) (c1_0 : DT32) : Option Bool := run C k 90 .bool [.val (.list T39) s_0, .clo 91 [.ro T32 c1_0]]
noncomputable def slices_ContainsFunc_impl_Event_92 (k : Nat) (s_0 : (List DT39)) (c1_0 : DT32) : Option Bool := run C k 90 .bool [.val (.list T39) s_0, .clo 92 [.ro T32 c1_0]]
noncomputable def spec_l1New (k : Nat) (code_0 : (List Int)) : Option DT199 := run C k 63 T199 [.val (.list (.int .u8)) code_0]
noncomputable def spec_l1New.l0 (k m : Nat) (code_0 : (List Int)) (h_3 : Int) (i_4 : Int) : Option DT199 := loopRunM C k 63 T199 1 [.r, .r, .l, .r, .b] [] [0, 3, 4] m ⟨[.one (.cell (.list true (.int .u8) code_0)), .one (.cell (.int .i64 h_3)), .one (.cell (.int .i64 i_4))], []⟩
noncomputable def spec_l36Draw (k : Nat) (c_0 : DT199) : Option (DT32 × DT199) := run C k 193 (.pair T32 T199) [.ioBox T199 c_0]
noncomputable def impl_eventOrder (k : Nat) (a_0 : DT39) (b_1 : DT39) : Option Int := run C k 164 (.int .i64) [.val T39 a_0, .val T39 b_1]
noncomputable def impl_markOrder (k : Nat) (a_0 : DT45) (b_1 : DT45) : Option Int := run C k 176 (.int .i64) [.val T45 a_0, .val T45 b_1]
noncomputable def impl_ArePlayers (k : Nat) (l_0 : (List DT43)) : Option Bool := run C k 177 .bool [.val (.list T43) l_0]
noncomputable def impl_ArePlayers.l0 (k m : Nat) (l_0 : (List DT43)) (t_7 : (List DT43)) (t_8 : Int) (t_9 : Int) (s0 : (List Int)) : Option Bool := loopRun C k 177 .bool [0] [.r, .r, .l, .r, .b] [] [0, 3, 7, 8, 9] m ⟨[.one (.cell (.list false T43 l_0)), .one (.cell (.ref 1)), .one (.cell (.list false T43 t_7)), .one (.cell (.int .i64 t_8)), .one (.cell (.int .i64 t_9))], [.arr (.int .i64) s0 .open]⟩
noncomputable def slices_Contains___int_int (k : Nat) (s_0 : (List Int)) (v_1 : Int) : Option Bool := run C k 178 .bool [.val (.list (.int .i64)) s_0, .val (.int .i64) v_1]
noncomputable def slices_ContainsFunc_impl_Player_180 (k : Nat) (s_0 : (List DT43)) (c1_0 : Int) (c1_1 : (List DT39)) (c1_2 : Int) : Option Bool := run C k 179 .bool [.val (.list T43) s_0, .clo 180 [.ro (.int .i64) c1_0, .ro (.list T39) c1_1, .ro (.int .i64) c1_2]]
noncomputable def slices_IndexFunc_impl_Event_91 (k : Nat) (s_0 : (List DT39)) (c1_0 : DT32) : Option Int := run C k 194 (.int .i64) [.val (.list T39) s_0, .clo 91 [.ro T32 c1_0]]
noncomputable def slices_IndexFunc_impl_Event_91.l0 (k m : Nat) (s_0 : (List DT39)) (f_1_c : DT32) (t_7 : Int) (t_8 : Int) : Option Int := loopRun C k 194 (.int .i64) [0, 0] [.r, .l, .r, .b] [] [0, 1, 7, 8] m ⟨[.one (.cell (.list false T39 s_0)), .one (.cell (.clo 91 [.ro T32 f_1_c])), .one (.cell (.int .i64 t_7)), .one (.cell (.int .i64 t_8))], []⟩
noncomputable def slices_IndexFunc_impl_Event_92 (k : Nat) (s_0 : (List DT39)) (c1_0 : DT32) : Option Int := run C k 194 (.int .i64) [.val (.list T39) s_0, .clo 92 [.ro T32 c1_0]]
noncomputable def slices_IndexFunc_impl_Event_92.l0 (k m : Nat) (s_0 : (List DT39)) (f_1_c : DT32) (t_7 : Int) (t_8 : Int) : Option Int := loopRun C k 194 (.int .i64) [0, 0] [.r, .l, .r, .b] [] [0, 1, 7, 8] m ⟨[.one (.cell (.list false T39 s_0)), .one (.cell (.clo 92 [.ro T32 f_1_c])), .one (.cell (.int .i64 t_7)), .one (.cell (.int .i64 t_8))], []⟩
noncomputable def spec_l35Start (k : Nat) (c_0 : DT199) : Option (DT32 × DT199) := run C k 64 (.pair T32 T199) [.ioBox T199 c_0]
noncomputable def spec_l35List (k : Nat) (c_0 : DT199) (most_1 : Int) : Option ((List DT47) × DT199) := run C k 65 (.pair (.list T47) T199) [.ioBox T199 c_0, .val (.int .i64) most_1]
noncomputable def spec_l35List.l0 (k m : Nat) (i_6 : Int) (b0_0 : (List Int)) (b0_1 : Int) (b0_2 : Int) (s1 : (List DT47)) : Option ((List DT47) × DT199) := loopRunB C k 65 (.pair (.list T47) T199) 0 T199 2 [.r, .r, .l, .r, .b] [] [0, 5, 6] m ⟨[.one (.cell (.ptr 1 0)), .one (.cell (.ref 5)), .one (.cell (.int .i64 i_6))], [.box (some T199) [.list true (.int .u8) b0_0, .int .i64 b0_1, .int .i64 b0_2], .arr T47 s1 .open]⟩
noncomputable def spec_RunAll (k : Nat) (o_0 : DT32) (list_1 : (List DT47)) : Option DT32 := run C k 231 T32 [.val T32 o_0, .val (.list T47) list_1]
noncomputable def spec_RunAll.l0 (k m : Nat) (list_1 : (List DT47)) (i_6 : Int) (b0_1 : Int) (b0_2 : Int) (b0_8 : Int) (b0_9 : Int) (b1_1 : Int) (b1_2 : Int) (b1_8 : Int) (b1_9 : Int) (s2 : (List DT39)) (s3 : (List DT25)) (s4 : (List DT43)) (s5 : (List Int)) (s6 : (List DT45)) (s7 : (List DT25)) : Option DT32 := loopRun C k 231 T32 [0, 0] [.r, .r, .l, .r, .b] [] [1, 4, 5, 6] m ⟨[.one (.cell (.list false T47 list_1)), .one (.cell (.ptr 1 0)), .one (.cell (.ptr 5 0)), .one (.cell (.int .i64 i_6))], [.box (some T32) [.nil, .int .i64 b0_1, .int .i64 b0_2, .nil, .nil, .nil, .nil, .nil, .int .i64 b0_8, .int .i64 b0_9], .box (some T32) [.ref 9, .int .i64 b1_1, .int .i64 b1_2, .ref 13, .ref 17, .ref 21, .ref 25, .ref 29, .int .i64 b1_8, .int .i64 b1_9], .arr T39 s2 .open, .arr T25 s3 .open, .arr T43 s4 .open, .arr (.int .i64) s5 .open, .arr T45 s6 .open, .arr T25 s7 .open]⟩
noncomputable def spec_l1Below (k : Nat) (c_0 : DT199) (n_1 : Int) : Option (Int × DT199) := run C k 100 (.pair (.int .i64) T199) [.ioBox T199 c_0, .val (.int .i64) n_1]
noncomputable def cmp_Compare_int (k : Nat) (x_0 : Int) (y_1 : Int) : Option Int := run C k 223 (.int .i64) [.val (.int .i64) x_0, .val (.int .i64) y_1]
noncomputable def cmp_Or_int (k : Nat) (vals_0 : (List Int)) : Option Int := run C k 222 (.int .i64) [.val (.list (.int .i64)) vals_0]
noncomputable def cmp_Or_int.l0 (k m : Nat) (zero_3 : Int) (t_6 : (List Int)) (t_7 : Int) (t_8 : Int) : Option Int := loopRun C k 222 (.int .i64) [0] [.r, .r, .l, .r, .b] [] [3, 6, 7, 8] m ⟨[.one (.cell (.int .i64 zero_3)), .one (.cell (.list false (.int .i64) t_6)), .one (.cell (.int .i64 t_7)), .one (.cell (.int .i64 t_8))], []⟩
noncomputable def impl_ascending (k : Nat) (l_0 : (List Int)) (low_1 : Int) (high_2 : Int) : Option Bool := run C k 227 .bool [.val (.list (.int .i64)) l_0, .val (.int .i64) low_1, .val (.int .i64) high_2]
noncomputable def impl_ascending.l0 (k m : Nat) (l_0 : (List Int)) (low_1 : Int) (high_2 : Int) (t_9 : (List Int)) (t_10 : Int) (t_11 : Int) : Option Bool := loopRun C k 227 .bool [0, 0, 0] [.r, .l, .r, .b] [] [0, 1, 2, 9, 10, 11] m ⟨[.one (.cell (.list false (.int .i64) l_0)), .one (.cell (.int .i64 low_1)), .one (.cell (.int .i64 high_2)), .one (.cell (.list false (.int .i64) t_9)), .one (.cell (.int .i64 t_10)), .one (.cell (.int .i64 t_11))], []⟩
noncomputable def slices_Index___int_int (k : Nat) (s_0 : (List Int)) (v_1 : Int) : Option Int := run C k 112 (.int .i64) [.val (.list (.int .i64)) s_0, .val (.int .i64) v_1]
noncomputable def slices_Index___int_int.l0 (k m : Nat) (s_0 : (List Int)) (v_1 : Int) (t_7 : Int) (t_8 : Int) : Option Int := loopRun C k 112 (.int .i64) [0, 0] [.r, .l, .r, .b] [] [0, 1, 7, 8] m ⟨[.one (.cell (.list false (.int .i64) s_0)), .one (.cell (.int .i64 v_1)), .one (.cell (.int .i64 t_7)), .one (.cell (.int .i64 t_8))], []⟩
noncomputable def slices_IndexFunc_impl_Player_180 (k : Nat) (s_0 : (List DT43)) (c1_0 : Int) (c1_1 : (List DT39)) (c1_2 : Int) : Option Int := run C k 110 (.int .i64) [.val (.list T43) s_0, .clo 180 [.ro (.int .i64) c1_0, .ro (.list T39) c1_1, .ro (.int .i64) c1_2]]
noncomputable def slices_IndexFunc_impl_Player_180.l0 (k m : Nat) (s_0 : (List DT43)) (f_1_c : Int) (f_1_c_1 : (List DT39)) (f_1_c_2 : Int) (t_7 : Int) (t_8 : Int) : Option Int := loopRun C k 110 (.int .i64) [0, 0] [.r, .l, .r, .b] [] [0, 1, 7, 8] m ⟨[.one (.cell (.list false T43 s_0)), .one (.cell (.clo 180 [.ro (.int .i64) f_1_c, .ro (.list T39) f_1_c_1, .ro (.int .i64) f_1_c_2])), .one (.cell (.int .i64 t_7)), .one (.cell (.int .i64 t_8))], []⟩
noncomputable def impl_IsExact_1 (k : Nat) (e_0 : DT39) (a_1 : DT32) : Option Bool := run C k 91 .bool [.val T39 e_0, .rp T32 a_1]
noncomputable def impl_AreSeated_1 (k : Nat) (e_0 : DT39) (a_1 : DT32) : Option Bool := run C k 92 .bool [.val T39 e_0, .rp T32 a_1]
noncomputable def spec_l10Draw (k : Nat) (c_0 : DT199) : Option (DT25 × DT199) := run C k 167 (.pair T25 T199) [.ioBox T199 c_0]
noncomputable def spec_l33Voices (k : Nat) (c_0 : DT199) : Option ((List DT43) × DT199) := run C k 168 (.pair (.list T43) T199) [.ioBox T199 c_0]
noncomputable def spec_l33Voices.l0 (k m : Nat) (i_4 : Int) (b0_0 : (List Int)) (b0_1 : Int) (b0_2 : Int) (s1 : (List DT43)) : Option ((List DT43) × DT199) := loopRunB C k 168 (.pair (.list T43) T199) 0 T199 1 [.r, .r, .l, .r, .b] [] [0, 3, 4] m ⟨[.one (.cell (.ptr 1 0)), .one (.cell (.ref 5)), .one (.cell (.int .i64 i_4))], [.box (some T199) [.list true (.int .u8) b0_0, .int .i64 b0_1, .int .i64 b0_2], .arr T43 s1 .open]⟩
noncomputable def spec_NewOrchestra (k : Nat) (m_0 : DT25) (players_1 : (List DT43)) : Option (DT32 × (Bool × Unit)) := run C k 166 (.pair T32 (.pair .bool .unit)) [.val T25 m_0, .val (.list T43) players_1]
noncomputable def spec_l13Score (k : Nat) (c_0 : DT199) : Option ((List DT39) × DT199) := run C k 170 (.pair (.list T39) T199) [.ioBox T199 c_0]
noncomputable def spec_l13Score.l0 (k m : Nat) (i_5 : Int) (b0_0 : (List Int)) (b0_1 : Int) (b0_2 : Int) (s1 : (List DT39)) (s2 : (List DT39)) : Option ((List DT39) × DT199) := loopRunB C k 170 (.pair (.list T39) T199) 0 T199 1 [.r, .r, .r, .l, .r, .b] [] [0, 3, 4, 5] m ⟨[.one (.cell (.ptr 1 0)), .one (.cell (.ref 5)), .one (.cell (.ref 9)), .one (.cell (.int .i64 i_5))], [.box (some T199) [.list true (.int .u8) b0_0, .int .i64 b0_1, .int .i64 b0_2], .arr T39 s1 .open, .arr T39 s2 .open]⟩
noncomputable def spec_WriteAll (k : Nat) (l_0 : (List DT39)) : Option (List DT47) := run C k 169 (.list T47) [.val (.list T39) l_0]
noncomputable def spec_WriteAll.l0 (k m : Nat) (l_0 : (List DT39)) (i_4 : Int) (s0 : (List DT47)) : Option (List DT47) := loopRun C k 169 (.list T47) [0] [.r, .r, .l, .r, .b] [] [0, 3, 4] m ⟨[.one (.cell (.list false T39 l_0)), .one (.cell (.ref 1)), .one (.cell (.int .i64 i_4))], [.arr T47 s0 .open]⟩
noncomputable def spec_l35One (k : Nat) (c_0 : DT199) : Option (DT47 × DT199) := run C k 165 (.pair T47 T199) [.ioBox T199 c_0]
noncomputable def spec_l33Copy (k : Nat) (o_0 : DT32) : Option DT32 := run C k 134 T32 [.val T32 o_0]
noncomputable def spec_Apply (k : Nat) (o_0 : DT32) (x_1 : DT47) : Option (DT32 × (Bool × Unit)) := run C k 266 (.pair T32 (.pair .bool .unit)) [.val T32 o_0, .kval T47 x_1]
noncomputable def spec_l1Byte (k : Nat) (c_0 : DT199) : Option (Int × DT199) := run C k 202 (.pair (.int .i64) T199) [.ioBox T199 c_0]
noncomputable def cmp_isNaN_int (k : Nat) (x_0 : Int) : Option Bool := run C k 254 .bool [.val (.int .i64) x_0]
noncomputable def impl_IsSeating_1 (k : Nat) (p_0 : DT43) (a_1 : Int) (a_2 : (List DT39)) (a_3 : Int) : Option Bool := run C k 180 .bool [.kval T43 p_0, .rp (.int .i64) a_1, .rp (.list T39) a_2, .rp (.int .i64) a_3]
noncomputable def impl_TimeOf (k : Nat) (l_0 : (List DT25)) (tick_1 : Int) : Option (DT25 × (Bool × Unit)) := run C k 15 (.pair T25 (.pair .bool .unit)) [.val (.list T25) l_0, .val (.int .i64) tick_1]
noncomputable def impl_TimeOf.l0 (k m : Nat) (l_0 : (List DT25)) (tick_1 : Int) (t_24 : (List DT25)) (t_25 : Int) (t_26 : Int) (b0_0 : Int) (b0_1 : Int) (b1_0 : Int) (b1_1 : Int) : Option (DT25 × (Bool × Unit)) := loopRun C k 15 (.pair T25 (.pair .bool .unit)) [0, 0] [.r, .r, .r, .l, .r, .b] [] [0, 1, 4, 6, 24, 25, 26] m ⟨[.one (.cell (.list false T25 l_0)), .one (.cell (.int .i64 tick_1)), .one (.cell (.ptr 1 0)), .one (.cell (.ptr 5 0)), .one (.cell (.list false T25 t_24)), .one (.cell (.int .i64 t_25)), .one (.cell (.int .i64 t_26))], [.box (some T25) [.int .i64 b0_0, .int .i64 b0_1], .box (some T25) [.int .i64 b1_0, .int .i64 b1_1]]⟩
noncomputable def impl_TickAt (k : Nat) (l_0 : (List DT25)) (ms_1 : DT25) : Option (DT25 × (Bool × Unit)) := run C k 16 (.pair T25 (.pair .bool .unit)) [.val (.list T25) l_0, .val T25 ms_1]
noncomputable def impl_TickAt.l0 (k m : Nat) (l_0 : (List DT25)) (t_39 : (List DT25)) (t_40 : Int) (t_41 : Int) (b0_0 : Int) (b0_1 : Int) (b1_0 : Int) (b1_1 : Int) (b2_0 : Int) (b2_1 : Int) (b3_0 : Int) (b3_1 : Int) : Option (DT25 × (Bool × Unit)) := loopRun C k 16 (.pair T25 (.pair .bool .unit)) [0, 0] [.r, .r, .r, .l, .r, .b] [] [0, 3, 4, 6, 7, 39, 40, 41] m ⟨[.one (.cell (.list false T25 l_0)), .one (.cell (.ptr 1 0)), .one (.cell (.ptr 5 0)), .one (.cell (.ptr 9 0)), .one (.cell (.ptr 13 0)), .one (.cell (.list false T25 t_39)), .one (.cell (.int .i64 t_40)), .one (.cell (.int .i64 t_41))], [.box (some T25) [.int .i64 b0_0, .int .i64 b0_1], .box (some T25) [.int .i64 b1_0, .int .i64 b1_1], .box (some T25) [.int .i64 b2_0, .int .i64 b2_1], .box (some T25) [.int .i64 b3_0, .int .i64 b3_1]]⟩
noncomputable def spec_l1Int (k : Nat) (c_0 : DT199) (list_1 : (List Int)) : Option (Int × DT199) := run C k 96 (.pair (.int .i64) T199) [.ioBox T199 c_0, .val (.list (.int .i64)) list_1]
noncomputable def spec_IsOrchestra (k : Nat) (o_0 : DT32) : Option Bool := run C k 212 .bool [.val T32 o_0]
noncomputable def spec_l8Tune (k : Nat) (c_0 : DT199) (voice_1 : Int) (most_2 : Int) : Option ((List DT39) × DT199) := run C k 225 (.pair (.list T39) T199) [.ioBox T199 c_0, .val (.int .i64) voice_1, .val (.int .i64) most_2]
noncomputable def spec_l8Tune.l0 (k m : Nat) (voice_1 : Int) (at_8 : Int) (i_9 : Int) (b0_0 : (List Int)) (b0_1 : Int) (b0_2 : Int) (s1 : (List DT39)) : Option ((List DT39) × DT199) := loopRunB C k 225 (.pair (.list T39) T199) 0 T199 3 [.r, .r, .r, .l, .r, .b] [] [0, 1, 7, 8, 9] m ⟨[.one (.cell (.ptr 1 0)), .one (.cell (.int .i64 voice_1)), .one (.cell (.ref 5)), .one (.cell (.int .i64 at_8)), .one (.cell (.int .i64 i_9))], [.box (some T199) [.list true (.int .u8) b0_0, .int .i64 b0_1, .int .i64 b0_2], .arr T39 s1 .open]⟩
noncomputable def spec_PutEvent (k : Nat) (l_0 : (List DT39)) (e_1 : DT39) : Option ((List DT39) × (Bool × Unit)) := run C k 226 (.pair (.list T39) (.pair .bool .unit)) [.val (.list T39) l_0, .val T39 e_1]
noncomputable def spec_l8Event (k : Nat) (c_0 : DT199) : Option (DT39 × DT199) := run C k 94 (.pair T39 T199) [.ioBox T199 c_0]
noncomputable def spec_l25Mark (k : Nat) (c_0 : DT199) : Option (DT45 × DT199) := run C k 224 (.pair T45 T199) [.ioBox T199 c_0]
noncomputable def spec_l29Copy (k : Nat) (l_0 : (List DT43)) : Option (List DT43) := run C k 135 (.list T43) [.val (.list T43) l_0]
noncomputable def spec_l29Copy.l0 (k m : Nat) (l_0 : (List DT43)) (i_4 : Int) (s0 : (List DT43)) : Option (List DT43) := loopRun C k 135 (.list T43) [0] [.r, .r, .l, .r, .b] [] [0, 3, 4] m ⟨[.one (.cell (.list false T43 l_0)), .one (.cell (.ref 1)), .one (.cell (.int .i64 i_4))], [.arr T43 s0 .open]⟩
noncomputable def spec_StepWrite (k : Nat) (o_0 : DT32) (e_1 : DT39) : Option (DT32 × (Bool × Unit)) := run C k 199 (.pair T32 (.pair .bool .unit)) [.val T32 o_0, .val T39 e_1]
noncomputable def spec_StepErase (k : Nat) (o_0 : DT32) (e_1 : DT39) : Option (DT32 × (Bool × Unit)) := run C k 285 (.pair T32 (.pair .bool .unit)) [.val T32 o_0, .val T39 e_1]
noncomputable def spec_StepTempo (k : Nat) (o_0 : DT32) (x_1 : DT25) : Option (DT32 × (Bool × Unit)) := run C k 286 (.pair T32 (.pair .bool .unit)) [.val T32 o_0, .val T25 x_1]
noncomputable def spec_StepTempo.l0 (k m : Nat) (k_7 : Int) (b0_0 : (List DT39)) (b0_1 : Int) (b0_2 : Int) (b0_3 : (List DT25)) (b0_4 : (List DT43)) (b0_5 : (List Int)) (b0_6 : (List DT45)) (b0_7 : (List DT25)) (b0_8 : Int) (b0_9 : Int) (b1_0 : Int) (b1_1 : Int) (b2_1 : Int) (b2_2 : Int) (b2_8 : Int) (b2_9 : Int) (b3_1 : Int) (b3_2 : Int) (b3_8 : Int) (b3_9 : Int) (s4 : (List DT39)) (s5 : (List DT25)) (s6 : (List DT43)) (s7 : (List Int)) (s8 : (List DT45)) (s9 : (List DT25)) : Option (DT32 × (Bool × Unit)) := loopRun C k 286 (.pair T32 (.pair .bool .unit)) [0, 0] [.r, .r, .r, .l, .b] [] [2, 3, 4, 6, 7] m ⟨[.one (.cell (.ptr 1 0)), .one (.cell (.ptr 5 0)), .one (.cell (.ptr 9 0)), .one (.cell (.ptr 13 0)), .one (.cell (.int .i64 k_7))], [.box (some T32) [.list false T39 b0_0, .int .i64 b0_1, .int .i64 b0_2, .list false T25 b0_3, .list false T43 b0_4, .list false (.int .i64) b0_5, .list false T45 b0_6, .list false T25 b0_7, .int .i64 b0_8, .int .i64 b0_9], .box (some T25) [.int .i64 b1_0, .int .i64 b1_1], .box (some T32) [.nil, .int .i64 b2_1, .int .i64 b2_2, .nil, .nil, .nil, .nil, .nil, .int .i64 b2_8, .int .i64 b2_9], .box (some T32) [.ref 17, .int .i64 b3_1, .int .i64 b3_2, .ref 21, .ref 25, .ref 29, .ref 33, .ref 37, .int .i64 b3_8, .int .i64 b3_9], .arr T39 s4 .open, .arr T25 s5 .open, .arr T43 s6 .open, .arr (.int .i64) s7 .open, .arr T45 s8 .open, .arr T25 s9 .open]⟩
noncomputable def spec_StepSeat (k : Nat) (o_0 : DT32) (voices_1 : Int) : Option (DT32 × (Bool × Unit)) := run C k 198 (.pair T32 (.pair .bool .unit)) [.val T32 o_0, .val (.int .i64) voices_1]
noncomputable def spec_StepLeave (k : Nat) (o_0 : DT32) (id_1 : Int) : Option (DT32 × (Bool × Unit)) := run C k 287 (.pair T32 (.pair .bool .unit)) [.val T32 o_0, .val (.int .i64) id_1]
noncomputable def spec_StepLeave.l0 (k m : Nat) (id_1 : Int) (ok_7 : Bool) (i_8 : Int) (b0_0 : (List DT39)) (b0_1 : Int) (b0_2 : Int) (b0_3 : (List DT25)) (b0_4 : (List DT43)) (b0_5 : (List Int)) (b0_6 : (List DT45)) (b0_7 : (List DT25)) (b0_8 : Int) (b0_9 : Int) (b1_1 : Int) (b1_2 : Int) (b1_8 : Int) (b1_9 : Int) (b2_1 : Int) (b2_2 : Int) (b2_8 : Int) (b2_9 : Int) (s3 : (List DT39)) (s4 : (List DT25)) (s5 : (List DT43)) (s6 : (List Int)) (s7 : (List DT45)) (s8 : (List DT25)) : Option (DT32 × (Bool × Unit)) := loopRun C k 287 (.pair T32 (.pair .bool .unit)) [0, 0] [.r, .r, .r, .r, .l, .r, .b] [] [1, 2, 4, 6, 7, 8] m ⟨[.one (.cell (.int .i64 id_1)), .one (.cell (.ptr 1 0)), .one (.cell (.ptr 5 0)), .one (.cell (.ptr 9 0)), .one (.cell (.prop (ok_7 = true) (instDecidableEqBool ok_7 true))), .one (.cell (.int .i64 i_8))], [.box (some T32) [.list false T39 b0_0, .int .i64 b0_1, .int .i64 b0_2, .list false T25 b0_3, .list false T43 b0_4, .list false (.int .i64) b0_5, .list false T45 b0_6, .list false T25 b0_7, .int .i64 b0_8, .int .i64 b0_9], .box (some T32) [.nil, .int .i64 b1_1, .int .i64 b1_2, .nil, .nil, .nil, .nil, .nil, .int .i64 b1_8, .int .i64 b1_9], .box (some T32) [.ref 13, .int .i64 b2_1, .int .i64 b2_2, .ref 17, .ref 21, .ref 25, .ref 29, .ref 33, .int .i64 b2_8, .int .i64 b2_9], .arr T39 s3 .open, .arr T25 s4 .open, .arr T43 s5 .open, .arr (.int .i64) s6 .open, .arr T45 s7 .open, .arr T25 s8 .open]⟩
noncomputable def spec_StepLeave.l1 (k m : Nat) (id_1 : Int) (ok_7 : Bool) (i_8 : Int) (v_9 : Int) (b0_0 : (List DT39)) (b0_1 : Int) (b0_2 : Int) (b0_3 : (List DT25)) (b0_4 : (List DT43)) (b0_5 : (List Int)) (b0_6 : (List DT45)) (b0_7 : (List DT25)) (b0_8 : Int) (b0_9 : Int) (b1_1 : Int) (b1_2 : Int) (b1_8 : Int) (b1_9 : Int) (b2_1 : Int) (b2_2 : Int) (b2_8 : Int) (b2_9 : Int) (s3 : (List DT39)) (s4 : (List DT25)) (s5 : (List DT43)) (s6 : (List Int)) (s7 : (List DT45)) (s8 : (List DT25)) : Option (DT32 × (Bool × Unit)) := loopRun C k 287 (.pair T32 (.pair .bool .unit)) [0, 0] [.r, .r, .r, .r, .r, .l, .r, .b] [] [1, 2, 4, 6, 7, 8, 9] m ⟨[.one (.cell (.int .i64 id_1)), .one (.cell (.ptr 1 0)), .one (.cell (.ptr 5 0)), .one (.cell (.ptr 9 0)), .one (.cell (.prop (ok_7 = true) (instDecidableEqBool ok_7 true))), .one (.cell (.int .i64 i_8)), .one (.cell (.int .i64 v_9))], [.box (some T32) [.list false T39 b0_0, .int .i64 b0_1, .int .i64 b0_2, .list false T25 b0_3, .list false T43 b0_4, .list false (.int .i64) b0_5, .list false T45 b0_6, .list false T25 b0_7, .int .i64 b0_8, .int .i64 b0_9], .box (some T32) [.nil, .int .i64 b1_1, .int .i64 b1_2, .nil, .nil, .nil, .nil, .nil, .int .i64 b1_8, .int .i64 b1_9], .box (some T32) [.ref 13, .int .i64 b2_1, .int .i64 b2_2, .ref 17, .ref 21, .ref 25, .ref 29, .ref 33, .int .i64 b2_8, .int .i64 b2_9], .arr T39 s3 .open, .arr T25 s4 .open, .arr T43 s5 .open, .arr (.int .i64) s6 .open, .arr T45 s7 .open, .arr T25 s8 .open]⟩
noncomputable def spec_StepJoin (k : Nat) (o_0 : DT32) (p_1 : DT43) : Option (DT32 × (Bool × Unit)) := run C k 46 (.pair T32 (.pair .bool .unit)) [.val T32 o_0, .kval T43 p_1]
noncomputable def spec_StepJoin.l0 (k m : Nat) (k_7 : Int) (b0_0 : (List DT39)) (b0_1 : Int) (b0_2 : Int) (b0_3 : (List DT25)) (b0_4 : (List DT43)) (b0_5 : (List Int)) (b0_6 : (List DT45)) (b0_7 : (List DT25)) (b0_8 : Int) (b0_9 : Int) (b1_0 : Int) (b1_1 : Int) (b1_2 : Int) (b1_3 : (List Int)) (b2_1 : Int) (b2_2 : Int) (b2_8 : Int) (b2_9 : Int) (b3_1 : Int) (b3_2 : Int) (b3_8 : Int) (b3_9 : Int) (s4 : (List DT39)) (s5 : (List DT25)) (s6 : (List DT43)) (s7 : (List Int)) (s8 : (List DT45)) (s9 : (List DT25)) : Option (DT32 × (Bool × Unit)) := loopRun C k 46 (.pair T32 (.pair .bool .unit)) [0, 0] [.r, .r, .r, .l, .b] [] [2, 3, 4, 6, 7] m ⟨[.one (.cell (.ptr 1 0)), .one (.cell (.ptr 5 0)), .one (.cell (.ptr 9 0)), .one (.cell (.ptr 13 0)), .one (.cell (.int .i64 k_7))], [.box (some T32) [.list false T39 b0_0, .int .i64 b0_1, .int .i64 b0_2, .list false T25 b0_3, .list false T43 b0_4, .list false (.int .i64) b0_5, .list false T45 b0_6, .list false T25 b0_7, .int .i64 b0_8, .int .i64 b0_9], .box (some T43) [.int .i64 b1_0, .int .i64 b1_1, .int .i64 b1_2, .list true (.int .i64) b1_3], .box (some T32) [.nil, .int .i64 b2_1, .int .i64 b2_2, .nil, .nil, .nil, .nil, .nil, .int .i64 b2_8, .int .i64 b2_9], .box (some T32) [.ref 17, .int .i64 b3_1, .int .i64 b3_2, .ref 21, .ref 25, .ref 29, .ref 33, .ref 37, .int .i64 b3_8, .int .i64 b3_9], .arr T39 s4 .open, .arr T25 s5 .open, .arr T43 s6 .open, .arr (.int .i64) s7 .open, .arr T45 s8 .open, .arr T25 s9 .open]⟩
noncomputable def spec_StepMark (k : Nat) (o_0 : DT32) (bar_1 : Int) (kind_2 : Int) (value_3 : Int) (who_4 : Int) : Option (DT32 × (Bool × Unit)) := run C k 197 (.pair T32 (.pair .bool .unit)) [.val T32 o_0, .val (.int .i64) bar_1, .val (.int .i64) kind_2, .val (.int .i64) value_3, .val (.int .i64) who_4]
noncomputable def spec_StepTick (k : Nat) (o_0 : DT32) (n_1 : Int) : Option (DT32 × (Bool × Unit)) := run C k 196 (.pair T32 (.pair .bool .unit)) [.val T32 o_0, .val (.int .i64) n_1]
noncomputable def impl_CanPlay (k : Nat) (p_0 : DT43) (l_1 : (List DT39)) (voice_2 : Int) : Option Bool := run C k 181 .bool [.kval T43 p_0, .val (.list T39) l_1, .val (.int .i64) voice_2]
noncomputable def impl_MakeRatio (k : Nat) (n_0 : Int) (d_1 : Int) : Option (DT25 × (Bool × Unit)) := run C k 78 (.pair T25 (.pair .bool .unit)) [.val (.int .i64) n_0, .val (.int .i64) d_1]
noncomputable def impl_AddRatio (k : Nat) (a_0 : DT25) (b_1 : DT25) : Option (DT25 × (Bool × Unit)) := run C k 79 (.pair T25 (.pair .bool .unit)) [.val T25 a_0, .val T25 b_1]
noncomputable def impl_IsRatio (k : Nat) (r_0 : DT25) : Option Bool := run C k 80 .bool [.val T25 r_0]
noncomputable def impl_LessRatio (k : Nat) (a_0 : DT25) (b_1 : DT25) : Option Bool := run C k 81 .bool [.val T25 a_0, .val T25 b_1]
noncomputable def impl_MulRatio (k : Nat) (a_0 : DT25) (b_1 : DT25) : Option (DT25 × (Bool × Unit)) := run C k 82 (.pair T25 (.pair .bool .unit)) [.val T25 a_0, .val T25 b_1]
noncomputable def spec_IsScore (k : Nat) (l_0 : (List DT39)) : Option Bool := run C k 247 .bool [.val (.list T39) l_0]
noncomputable def spec_IsScore.l0 (k m : Nat) (l_0 : (List DT39)) (i_3 : Int) : Option Bool := loopRun C k 247 .bool [0] [.r, .l, .r, .b] [] [0, 3] m ⟨[.one (.cell (.list false T39 l_0)), .one (.cell (.int .i64 i_3))], []⟩
noncomputable def spec_IsMeter (k : Nat) (m_0 : DT25) : Option Bool := run C k 248 .bool [.val T25 m_0]
noncomputable def spec_IsTempo (k : Nat) (l_0 : (List DT25)) : Option Bool := run C k 249 .bool [.val (.list T25) l_0]
noncomputable def spec_IsTempo.l0 (k m : Nat) (l_0 : (List DT25)) (i_3 : Int) : Option Bool := loopRun C k 249 .bool [0] [.r, .l, .r, .b] [] [0, 3] m ⟨[.one (.cell (.list false T25 l_0)), .one (.cell (.int .i64 i_3))], []⟩
noncomputable def spec_AreMarks (k : Nat) (l_0 : (List DT45)) : Option Bool := run C k 250 .bool [.val (.list T45) l_0]
noncomputable def spec_AreMarks.l0 (k m : Nat) (l_0 : (List DT45)) (i_3 : Int) : Option Bool := loopRun C k 250 .bool [0] [.r, .l, .r, .b] [] [0, 3] m ⟨[.one (.cell (.list false T45 l_0)), .one (.cell (.int .i64 i_3))], []⟩
noncomputable def spec_AreLetters (k : Nat) (l_0 : (List DT25)) : Option Bool := run C k 251 .bool [.val (.list T25) l_0]
noncomputable def spec_AreLetters.l0 (k m : Nat) (l_0 : (List DT25)) (i_3 : Int) : Option Bool := loopRun C k 251 .bool [0] [.r, .l, .r, .b] [] [0, 3] m ⟨[.one (.cell (.list false T25 l_0)), .one (.cell (.int .i64 i_3))], []⟩
noncomputable def spec_IsSeating (k : Nat) (l_0 : (List DT43)) (score_1 : (List DT39)) (seats_2 : (List Int)) : Option Bool := run C k 252 .bool [.val (.list T43) l_0, .val (.list T39) score_1, .val (.list (.int .i64)) seats_2]
noncomputable def spec_IsSeating.l0 (k m : Nat) (l_0 : (List DT43)) (score_1 : (List DT39)) (seats_2 : (List Int)) (i_7 : Int) : Option Bool := loopRun C k 252 .bool [0, 0, 0] [.r, .l, .r, .b] [] [0, 1, 2, 7] m ⟨[.one (.cell (.list false T43 l_0)), .one (.cell (.list false T39 score_1)), .one (.cell (.list false (.int .i64) seats_2)), .one (.cell (.int .i64 i_7))], []⟩
noncomputable def spec_IsSeating.l1 (k m m1 : Nat) (l_0 : (List DT43)) (score_1 : (List DT39)) (seats_2 : (List Int)) (i_7 : Int) (good_8 : Bool) (k_9 : Int) : Option Bool := loopRun C k 252 .bool [0, 0, 0] [.r, .l, .r, .b, .p, .r, .l, .b, .r, .l, .r, .b] [⟨[0, 1, 2, 7], m1⟩] [0, 1, 2, 7, 8, 9] m ⟨[.one (.cell (.list false T43 l_0)), .one (.cell (.list false T39 score_1)), .one (.cell (.list false (.int .i64) seats_2)), .one (.cell (.int .i64 i_7)), .one (.cell (.prop (good_8 = true) (instDecidableEqBool good_8 true))), .one (.cell (.int .i64 k_9))], []⟩
noncomputable def spec_l1In (k : Nat) (x_0 : Int) (least_1 : Int) (most_2 : Int) : Option Bool := run C k 236 .bool [.val (.int .i64) x_0, .val (.int .i64) least_1, .val (.int .i64) most_2]
noncomputable def spec_l1Once (k : Nat) (c_0 : DT199) (n_1 : Int) : Option (Bool × DT199) := run C k 95 (.pair .bool T199) [.ioBox T199 c_0, .val (.int .i64) n_1]
noncomputable def spec_l8Put (k : Nat) (l_0 : (List DT39)) (e_1 : DT39) : Option (List DT39) := run C k 255 (.list T39) [.val (.list T39) l_0, .val T39 e_1]
noncomputable def spec_l8Put.l0 (k m : Nat) (l_0 : (List DT39)) (k_5 : Int) (b0_0 : Int) (b0_1 : Int) (b0_2 : Int) (b0_3 : Int) : Option (List DT39) := loopRun C k 255 (.list T39) [0, 0] [.r, .r, .l, .b] [] [0, 3, 5] m ⟨[.one (.cell (.list false T39 l_0)), .one (.cell (.ptr 1 0)), .one (.cell (.int .i64 k_5))], [.box (some T39) [.int .i64 b0_0, .int .i64 b0_1, .int .i64 b0_2, .int .i64 b0_3]]⟩
noncomputable def spec_Min (k : Nat) (a_0 : Int) (b_1 : Int) : Option Int := run C k 239 (.int .i64) [.val (.int .i64) a_0, .val (.int .i64) b_1]
noncomputable def spec_l34Done (k : Nat) (o_0 : DT32) (out_1 : DT32) (ok_2 : Bool) : Option (DT32 × (Bool × Unit)) := run C k 136 (.pair T32 (.pair .bool .unit)) [.val T32 o_0, .give T32 out_1, .val .bool ok_2]
noncomputable def spec_TakeEvent (k : Nat) (l_0 : (List DT39)) (e_1 : DT39) : Option ((List DT39) × (Bool × Unit)) := run C k 294 (.pair (.list T39) (.pair .bool .unit)) [.val (.list T39) l_0, .val T39 e_1]
noncomputable def spec_TakeEvent.l0 (k m : Nat) (l_0 : (List DT39)) (found_7 : Bool) (i_8 : Int) (b0_0 : Int) (b0_1 : Int) (b0_2 : Int) (b0_3 : Int) (s1 : (List DT39)) : Option ((List DT39) × (Bool × Unit)) := loopRun C k 294 (.pair (.list T39) (.pair .bool .unit)) [0, 0] [.r, .r, .r, .l, .r, .b] [] [0, 3, 6, 7, 8] m ⟨[.one (.cell (.list false T39 l_0)), .one (.cell (.ptr 1 0)), .one (.cell (.ref 5)), .one (.cell (.prop (found_7 = true) (instDecidableEqBool found_7 true))), .one (.cell (.int .i64 i_8))], [.box (some T39) [.int .i64 b0_0, .int .i64 b0_1, .int .i64 b0_2, .int .i64 b0_3], .arr T39 s1 .open]⟩
noncomputable def spec_SeatPlayers (k : Nat) (l_0 : (List DT43)) (score_1 : (List DT39)) (voices_2 : Int) : Option ((List Int) × (Bool × Unit)) := run C k 235 (.pair (.list (.int .i64)) (.pair .bool .unit)) [.val (.list T43) l_0, .val (.list T39) score_1, .val (.int .i64) voices_2]
noncomputable def spec_Substitute (k : Nat) (l_0 : (List DT43)) (score_1 : (List DT39)) (seats_2 : (List Int)) (voice_3 : Int) : Option (Int × (Bool × Unit)) := run C k 295 (.pair (.int .i64) (.pair .bool .unit)) [.val (.list T43) l_0, .val (.list T39) score_1, .val (.list (.int .i64)) seats_2, .val (.int .i64) voice_3]
noncomputable def spec_Substitute.l0 (k m : Nat) (l_0 : (List DT43)) (score_1 : (List DT39)) (seats_2 : (List Int)) (voice_3 : Int) (i_10 : Int) : Option (Int × (Bool × Unit)) := loopRun C k 295 (.pair (.int .i64) (.pair .bool .unit)) [0, 0, 0, 0] [.r, .r, .l, .r, .b] [] [0, 1, 2, 3, 10] m ⟨[.one (.cell (.list false T43 l_0)), .one (.cell (.list false T39 score_1)), .one (.cell (.list false (.int .i64) seats_2)), .one (.cell (.int .i64 voice_3)), .one (.cell (.int .i64 i_10))], []⟩
noncomputable def spec_SetMark (k : Nat) (l_0 : (List DT45)) (x_1 : DT45) : Option (List DT45) := run C k 237 (.list T45) [.val (.list T45) l_0, .val T45 x_1]
noncomputable def spec_EqualMarks (k : Nat) (a_0 : (List DT45)) (b_1 : (List DT45)) : Option Bool := run C k 238 .bool [.val (.list T45) a_0, .val (.list T45) b_1]
noncomputable def spec_EqualMarks.l0 (k m : Nat) (a_0 : (List DT45)) (b_1 : (List DT45)) (i_5 : Int) : Option Bool := loopRun C k 238 .bool [0, 0] [.r, .r, .l, .r, .b] [] [0, 1, 5] m ⟨[.one (.cell (.list false T45 a_0)), .one (.cell (.list false T45 b_1)), .one (.cell (.int .i64 i_5))], []⟩
noncomputable def impl_VoiceOf (k : Nat) (l_0 : (List DT39)) (voice_1 : Int) : Option (List DT39) := run C k 83 (.list T39) [.val (.list T39) l_0, .val (.int .i64) voice_1]
noncomputable def impl_FitsRange (k : Nat) (l_0 : (List DT39)) (low_1 : Int) (high_2 : Int) : Option Bool := run C k 228 .bool [.val (.list T39) l_0, .val (.int .i64) low_1, .val (.int .i64) high_2]
noncomputable def impl_FitsRange.l0 (k m : Nat) (l_0 : (List DT39)) (low_1 : Int) (high_2 : Int) (t_9 : (List DT39)) (t_10 : Int) (t_11 : Int) : Option Bool := loopRun C k 228 .bool [0, 0, 0] [.r, .l, .r, .b] [] [0, 1, 2, 9, 10, 11] m ⟨[.one (.cell (.list false T39 l_0)), .one (.cell (.int .i64 low_1)), .one (.cell (.int .i64 high_2)), .one (.cell (.list false T39 t_9)), .one (.cell (.int .i64 t_10)), .one (.cell (.int .i64 t_11))], []⟩
noncomputable def impl_lowest (k : Nat) (n_0 : Int) (d_1 : Int) : Option (DT25 × (Bool × Unit)) := run C k 187 (.pair T25 (.pair .bool .unit)) [.val (.int .i64) n_0, .val (.int .i64) d_1]
noncomputable def impl_divisor (k : Nat) (a_0 : Int) (b_1 : Int) : Option Int := run C k 188 (.int .i64) [.val (.int .i64) a_0, .val (.int .i64) b_1]
noncomputable def impl_divisor.l0 (k m : Nat) (a_0 : Int) (b_1 : Int) : Option Int := loopRun C k 188 (.int .i64) [0, 0] [.r, .l, .b] [] [0, 1] m ⟨[.one (.cell (.int .i64 a_0)), .one (.cell (.int .i64 b_1))], []⟩
noncomputable def spec_l8Ok (k : Nat) (e_0 : DT39) : Option Bool := run C k 275 .bool [.val T39 e_0]
noncomputable def spec_l8Before (k : Nat) (a_0 : DT39) (b_1 : DT39) : Option Bool := run C k 276 .bool [.val T39 a_0, .val T39 b_1]
noncomputable def spec_l25Before (k : Nat) (a_0 : DT45) (b_1 : DT45) : Option Bool := run C k 277 .bool [.val T45 a_0, .val T45 b_1]
noncomputable def spec_ArePlayers (k : Nat) (l_0 : (List DT43)) : Option Bool := run C k 267 .bool [.val (.list T43) l_0]
noncomputable def spec_ArePlayers.l0 (k m : Nat) (l_0 : (List DT43)) (i_3 : Int) : Option Bool := loopRun C k 267 .bool [0] [.r, .l, .r, .b] [] [0, 3] m ⟨[.one (.cell (.list false T43 l_0)), .one (.cell (.int .i64 i_3))], []⟩
noncomputable def spec_ArePlayers.l1 (k m m1 : Nat) (l_0 : (List DT43)) (i_3 : Int) (k_5 : Int) (b0_0 : Int) (b0_1 : Int) (b0_2 : Int) (b0_3 : (List Int)) : Option Bool := loopRun C k 267 .bool [0] [.r, .l, .r, .b, .p, .r, .l, .b, .r, .r, .r, .b] [⟨[0, 3], m1⟩] [0, 3, 4, 5] m ⟨[.one (.cell (.list false T43 l_0)), .one (.cell (.int .i64 i_3)), .one (.cell (.ptr 1 0)), .one (.cell (.int .i64 k_5))], [.box (some T43) [.int .i64 b0_0, .int .i64 b0_1, .int .i64 b0_2, .list true (.int .i64) b0_3]]⟩
noncomputable def spec_CanPlay (k : Nat) (p_0 : DT43) (l_1 : (List DT39)) (voice_2 : Int) : Option Bool := run C k 278 .bool [.kval T43 p_0, .val (.list T39) l_1, .val (.int .i64) voice_2]
noncomputable def spec_l27Has (k : Nat) (l_0 : (List Int)) (n_1 : Int) : Option Bool := run C k 279 .bool [.val (.list (.int .i64)) l_0, .val (.int .i64) n_1]
noncomputable def spec_l27Has.l0 (k m : Nat) (l_0 : (List Int)) (n_1 : Int) (i_5 : Int) : Option Bool := loopRun C k 279 .bool [0, 0] [.r, .l, .r, .b] [] [0, 1, 5] m ⟨[.one (.cell (.list false (.int .i64) l_0)), .one (.cell (.int .i64 n_1)), .one (.cell (.int .i64 i_5))], []⟩
noncomputable def spec_l29Seat (k : Nat) (l_0 : (List DT43)) (score_1 : (List DT39)) (voices_2 : Int) (taken_3 : (List Int)) : Option ((List Int) × (Bool × Unit)) := run C k 268 (.pair (.list (.int .i64)) (.pair .bool .unit)) [.val (.list T43) l_0, .val (.list T39) score_1, .val (.int .i64) voices_2, .val (.list (.int .i64)) taken_3]
noncomputable def spec_l29Seat.l0 (k m : Nat) (l_0 : (List DT43)) (score_1 : (List DT39)) (voices_2 : Int) (taken_3 : (List Int)) (i_10 : Int) : Option ((List Int) × (Bool × Unit)) := loopRun C k 268 (.pair (.list (.int .i64)) (.pair .bool .unit)) [0, 0, 0, 0] [.r, .r, .l, .r, .b] [] [0, 1, 2, 3, 10] m ⟨[.one (.cell (.list false T43 l_0)), .one (.cell (.list false T39 score_1)), .one (.cell (.int .i64 voices_2)), .one (.cell (.list false (.int .i64) taken_3)), .one (.cell (.int .i64 i_10))], []⟩
noncomputable def spec_l25Set (k : Nat) (l_0 : (List DT45)) (x_1 : DT45) : Option (List DT45) := run C k 269 (.list T45) [.val (.list T45) l_0, .val T45 x_1]
noncomputable def spec_l25Set.l0 (k m : Nat) (l_0 : (List DT45)) (k_5 : Int) (b0_0 : Int) (b0_1 : Int) (b0_2 : Int) (b0_3 : Int) (b0_4 : Int) : Option (List DT45) := loopRun C k 269 (.list T45) [0, 0] [.r, .r, .l, .b] [] [0, 3, 5] m ⟨[.one (.cell (.list false T45 l_0)), .one (.cell (.ptr 1 0)), .one (.cell (.int .i64 k_5))], [.box (some T45) [.int .i64 b0_0, .int .i64 b0_1, .int .i64 b0_2, .int .i64 b0_3, .int .i64 b0_4]]⟩
noncomputable def impl_clone_impl_Event (k : Nat) (l_0 : (List DT39)) : Option (List DT39) := run C k 171 (.list T39) [.val (.list T39) l_0]
noncomputable def slices_DeleteFunc_impl_Event_189 (k : Nat) (s_0 : (List DT39)) (c1_0 : Int) : Option (List DT39) := run C k 185 (.list T39) [.give (.list T39) s_0, .clo 189 [.ro (.int .i64) c1_0]]
noncomputable def slices_DeleteFunc_impl_Event_189.l0 (k m : Nat) (del_1_c : Int) (i_5 : Int) (j_6 : Int) (s0 : (List DT39)) : Option (List DT39) := loopRun C k 185 (.list T39) [0, 0] [.r, .r, .r, .l, .r, .b] [] [0, 1, 5, 6] m ⟨[.one (.cell (.ref 1)), .one (.cell (.clo 189 [.ro (.int .i64) del_1_c])), .one (.cell (.int .i64 i_5)), .one (.cell (.int .i64 j_6))], [.arr T39 s0 .open]⟩
noncomputable def spec_VoiceOf (k : Nat) (l_0 : (List DT39)) (voice_1 : Int) : Option (List DT39) := run C k 292 (.list T39) [.val (.list T39) l_0, .val (.int .i64) voice_1]
noncomputable def spec_VoiceOf.l0 (k m : Nat) (l_0 : (List DT39)) (voice_1 : Int) (i_6 : Int) (s0 : (List DT39)) : Option (List DT39) := loopRun C k 292 (.list T39) [0, 0] [.r, .r, .l, .r, .b] [] [0, 1, 5, 6] m ⟨[.one (.cell (.list false T39 l_0)), .one (.cell (.int .i64 voice_1)), .one (.cell (.ref 1)), .one (.cell (.int .i64 i_6))], [.arr T39 s0 .open]⟩
noncomputable def spec_FitsRange (k : Nat) (l_0 : (List DT39)) (low_1 : Int) (high_2 : Int) : Option Bool := run C k 291 .bool [.val (.list T39) l_0, .val (.int .i64) low_1, .val (.int .i64) high_2]
noncomputable def spec_FitsRange.l0 (k m : Nat) (l_0 : (List DT39)) (low_1 : Int) (high_2 : Int) (i_7 : Int) : Option Bool := loopRun C k 291 .bool [0, 0, 0] [.r, .l, .r, .b] [] [0, 1, 2, 7] m ⟨[.one (.cell (.list false T39 l_0)), .one (.cell (.int .i64 low_1)), .one (.cell (.int .i64 high_2)), .one (.cell (.int .i64 i_7))], []⟩
noncomputable def spec_IsNewer (k : Nat) (a_0 : DT45) (b_1 : DT45) : Option Bool := run C k 288 .bool [.val T45 a_0, .val T45 b_1]
noncomputable def slices_IndexFunc_impl_Event_189 (k : Nat) (s_0 : (List DT39)) (c1_0 : Int) : Option Int := run C k 194 (.int .i64) [.val (.list T39) s_0, .clo 189 [.ro (.int .i64) c1_0]]
noncomputable def slices_IndexFunc_impl_Event_189.l0 (k m : Nat) (s_0 : (List DT39)) (f_1_c : Int) (t_7 : Int) (t_8 : Int) : Option Int := loopRun C k 194 (.int .i64) [0, 0] [.r, .l, .r, .b] [] [0, 1, 7, 8] m ⟨[.one (.cell (.list false T39 s_0)), .one (.cell (.clo 189 [.ro (.int .i64) f_1_c])), .one (.cell (.int .i64 t_7)), .one (.cell (.int .i64 t_8))], []⟩
noncomputable def impl_VoiceOf_1 (k : Nat) (e_0 : DT39) (a_1 : Int) : Option Bool := run C k 189 .bool [.val T39 e_0, .rp (.int .i64) a_1]
theorem laws_FnAudited_eq (k : Nat) (code_0 : (List Int)) : laws_FnAudited (k + 1) code_0 =
 (laws_big k code_0).bind fun r1 =>
 if r1 = true then
 some true
 else (spec_DrawFaultOf k code_0).bind fun r2 =>
 (impl_FaultOf k r2).bind fun r3 =>
 (impl_IsOrchestra k r2).bind fun r4 =>
 if r4 = true then
 (impl_IsExact k r2).bind fun r5 =>
 if r5 = true then
 (impl_AreSeated k r2).bind fun r6 =>
 if ¬ ((decide (r3 = (ByteArray.mk #[]))) = (decide (r6 = true))) then
 some false
 else (impl_IsOrchestra k r2).bind fun r7 =>
 if ¬ ((decide (r3 = (ByteArray.mk #[111, 114, 99, 104, 101, 115, 116, 114, 97]))) = (decide (¬ (r7 = true)))) then
 some false
 else (impl_IsOrchestra k r2).bind fun r8 =>
 if ¬ (r8 = true) then
 some true
 else (impl_IsPlayable k r2).bind fun r9 =>
 some (decide (r9 = true))
 else if ¬ ((decide (r3 = (ByteArray.mk #[]))) = (false)) then
 some false
 else (impl_IsOrchestra k r2).bind fun r10 =>
 if ¬ ((decide (r3 = (ByteArray.mk #[111, 114, 99, 104, 101, 115, 116, 114, 97]))) = (decide (¬ (r10 = true)))) then
 some false
 else (impl_IsOrchestra k r2).bind fun r11 =>
 if ¬ (r11 = true) then
 some true
 else (impl_IsPlayable k r2).bind fun r12 =>
 some (decide (r12 = true))
 else if ¬ ((decide (r3 = (ByteArray.mk #[]))) = (false)) then
 some false
 else (impl_IsOrchestra k r2).bind fun r13 =>
 if ¬ ((decide (r3 = (ByteArray.mk #[111, 114, 99, 104, 101, 115, 116, 114, 97]))) = (decide (¬ (r13 = true)))) then
 some false
 else (impl_IsOrchestra k r2).bind fun r14 =>
 if ¬ (r14 = true) then
 some true
 else (impl_IsPlayable k r2).bind fun r15 =>
 some (decide (r15 = true)) := by kernel_rfl
theorem laws_big_eq (k : Nat) (code_0 : (List Int)) : laws_big (k + 1) code_0 =
 some (decide ((1048576 : Int) < ((List.length code_0 : Nat) : Int))) := by kernel_rfl
theorem spec_DrawFaultOf_eq (k : Nat) (code_0 : (List Int)) : spec_DrawFaultOf (k + 1) code_0 =
 (spec_DrawAreSeated k code_0).bind fun r1 =>
 some r1 := by kernel_rfl
theorem impl_FaultOf_eq (k : Nat) (o_0 : DT32) : impl_FaultOf (k + 1) o_0 =
 (impl_IsOrchestra k o_0).bind fun r1 =>
 if ¬ (r1 = true) then
 some (ByteArray.mk #[111, 114, 99, 104, 101, 115, 116, 114, 97])
 else (impl_IsExact k o_0).bind fun r2 =>
 if ¬ (r2 = true) then
 some (ByteArray.mk #[101, 120, 97, 99, 116])
 else (impl_AreSeated k o_0).bind fun r3 =>
 if ¬ (r3 = true) then
 some (ByteArray.mk #[115, 101, 97, 116])
 else some (ByteArray.mk #[]) := by kernel_rfl
theorem impl_IsOrchestra_eq (k : Nat) (o_0 : DT32) : impl_IsOrchestra (k + 1) o_0 =
 (impl_IsScore k o_0.1).bind fun r1 =>
 if r1 = true then
 (impl_IsMeter k o_0.2.1).bind fun r2 =>
 if r2 = true then
 (impl_IsTempo k o_0.2.2.1).bind fun r3 =>
 if r3 = true then
 (impl_AreMarks k o_0.2.2.2.2.2.1).bind fun r4 =>
 if r4 = true then
 (impl_AreLetters k o_0.2.2.2.2.2.2.1).bind fun r5 =>
 if r5 = true then
 (impl_IsSeating k o_0.2.2.2.1 o_0.1 o_0.2.2.2.2.1).bind fun r6 =>
 if r6 = true then
 (impl_InRange k o_0.2.2.2.2.2.2.2.1 1 9999).bind fun r7 =>
 if r7 = true then
 (impl_InRange k o_0.2.2.2.2.2.2.2.2.1 0 100000).bind fun r8 =>
 some (decide (r8 = true))
 else some false
 else some false
 else some false
 else some false
 else some false
 else some false
 else some false := by kernel_rfl
theorem impl_IsExact_eq (k : Nat) (o_0 : DT32) : impl_IsExact (k + 1) o_0 =
 (slices_ContainsFunc_impl_Event_91 k o_0.1 o_0).bind fun r1 =>
 some (decide (¬ (r1 = true))) := by kernel_rfl
theorem impl_AreSeated_eq (k : Nat) (o_0 : DT32) : impl_AreSeated (k + 1) o_0 =
 (slices_ContainsFunc_impl_Event_92 k o_0.1 o_0).bind fun r1 =>
 some (decide (¬ (r1 = true))) := by kernel_rfl
theorem impl_IsPlayable_eq (k : Nat) (o_0 : DT32) : impl_IsPlayable (k + 1) o_0 =
 (impl_IsSeating k o_0.2.2.2.1 o_0.1 o_0.2.2.2.2.1).bind fun r1 =>
 some (decide (r1 = true)) := by kernel_rfl
theorem spec_DrawAreSeated_eq (k : Nat) (code_0 : (List Int)) : spec_DrawAreSeated (k + 1) code_0 =
 (spec_l1New k code_0).bind fun r1 =>
 (spec_l36Draw k r1).bind fun r2 =>
 some r2.1 := by kernel_rfl
theorem impl_IsScore_eq (k : Nat) (l_0 : (List DT39)) : impl_IsScore (k + 1) l_0 =
 impl_IsScore.l0 k k l_0 l_0 ((List.length l_0 : Nat) : Int) 0 := by kernel_rfl
theorem impl_IsScore.l0_eq (k m : Nat) (l_0 : (List DT39)) (t_5 : (List DT39)) (t_6 : Int) (t_7 : Int) : impl_IsScore.l0 k (m + 1) l_0 t_5 t_6 t_7 =
 if (t_7 : Int) < t_6 then
 if 0 ≤ t_7 then
 if t_7 < ((List.length t_5 : Nat) : Int) then
 (impl_InRange k (rd T39 t_5 t_7).1 0 2000).bind fun r1 =>
 if ¬ (r1 = true) then
 some false
 else (impl_InRange k (rd T39 t_5 t_7).2.1 1 96).bind fun r2 =>
 if ¬ (r2 = true) then
 some false
 else (impl_InRange k (rd T39 t_5 t_7).2.2.1 21 108).bind fun r3 =>
 if ¬ (r3 = true) then
 some false
 else (impl_InRange k (rd T39 t_5 t_7).2.2.2.1 1 4).bind fun r4 =>
 if ¬ (r4 = true) then
 some false
 else if (0 : Int) < t_7 then
 if 0 ≤ (IntKind.wrap .i64 (t_7 - 1)) then
 if (IntKind.wrap .i64 (t_7 - 1)) < ((List.length l_0 : Nat) : Int) then
 (impl_eventOrder k (rd T39 l_0 (IntKind.wrap .i64 (t_7 - 1))) (rd T39 t_5 t_7)).bind fun r5 =>
 if (0 : Int) ≤ r5 then
 some false
 else impl_IsScore.l0 k m l_0 t_5 t_6 (IntKind.wrap .i64 (t_7 + 1)) else none else none
 else impl_IsScore.l0 k m l_0 t_5 t_6 (IntKind.wrap .i64 (t_7 + 1)) else none else none
 else some (decide ((((List.length l_0 : Nat) : Int) : Int) ≤ 40)) := by kernel_rfl
theorem impl_IsMeter_eq (k : Nat) (m_0 : DT25) : impl_IsMeter (k + 1) m_0 =
 (impl_InRange k m_0.1 1 12).bind fun r1 =>
 if r1 = true then
 if (m_0.2.1 : Int) = 1 then
 some true
 else if (m_0.2.1 : Int) = 2 then
 some true
 else if (m_0.2.1 : Int) = 4 then
 some true
 else some (decide ((m_0.2.1 : Int) = 8))
 else some false := by kernel_rfl
theorem impl_IsTempo_eq (k : Nat) (l_0 : (List DT25)) : impl_IsTempo (k + 1) l_0 =
 impl_IsTempo.l0 k k l_0 l_0 ((List.length l_0 : Nat) : Int) 0 := by kernel_rfl
theorem impl_IsTempo.l0_eq (k m : Nat) (l_0 : (List DT25)) (t_5 : (List DT25)) (t_6 : Int) (t_7 : Int) : impl_IsTempo.l0 k (m + 1) l_0 t_5 t_6 t_7 =
 if (t_7 : Int) < t_6 then
 if 0 ≤ t_7 then
 if t_7 < ((List.length t_5 : Nat) : Int) then
 if (t_7 : Int) = 0 then
 if Ne (α := Int) (rd T25 t_5 t_7).1 0 then
 some false
 else if (0 : Int) < t_7 then
 if 0 ≤ (IntKind.wrap .i64 (t_7 - 1)) then
 if (IntKind.wrap .i64 (t_7 - 1)) < ((List.length l_0 : Nat) : Int) then
 if LE.le (α := Int) (rd T25 t_5 t_7).1 (rd T25 l_0 (IntKind.wrap .i64 (t_7 - 1))).1 then
 some false
 else if LT.lt (α := Int) 2000 (rd T25 t_5 t_7).1 then
 some false
 else (impl_InRange k (rd T25 t_5 t_7).2.1 20 300).bind fun r1 =>
 if ¬ (r1 = true) then
 some false
 else impl_IsTempo.l0 k m l_0 t_5 t_6 (IntKind.wrap .i64 (t_7 + 1)) else none else none
 else if LT.lt (α := Int) 2000 (rd T25 t_5 t_7).1 then
 some false
 else (impl_InRange k (rd T25 t_5 t_7).2.1 20 300).bind fun r2 =>
 if ¬ (r2 = true) then
 some false
 else impl_IsTempo.l0 k m l_0 t_5 t_6 (IntKind.wrap .i64 (t_7 + 1))
 else if (0 : Int) < t_7 then
 if 0 ≤ (IntKind.wrap .i64 (t_7 - 1)) then
 if (IntKind.wrap .i64 (t_7 - 1)) < ((List.length l_0 : Nat) : Int) then
 if LE.le (α := Int) (rd T25 t_5 t_7).1 (rd T25 l_0 (IntKind.wrap .i64 (t_7 - 1))).1 then
 some false
 else if LT.lt (α := Int) 2000 (rd T25 t_5 t_7).1 then
 some false
 else (impl_InRange k (rd T25 t_5 t_7).2.1 20 300).bind fun r3 =>
 if ¬ (r3 = true) then
 some false
 else impl_IsTempo.l0 k m l_0 t_5 t_6 (IntKind.wrap .i64 (t_7 + 1)) else none else none
 else if LT.lt (α := Int) 2000 (rd T25 t_5 t_7).1 then
 some false
 else (impl_InRange k (rd T25 t_5 t_7).2.1 20 300).bind fun r4 =>
 if ¬ (r4 = true) then
 some false
 else impl_IsTempo.l0 k m l_0 t_5 t_6 (IntKind.wrap .i64 (t_7 + 1)) else none else none
 else (impl_InRange k ((List.length l_0 : Nat) : Int) 1 8).bind fun r5 =>
 some (decide (r5 = true)) := by kernel_rfl
theorem impl_AreMarks_eq (k : Nat) (l_0 : (List DT45)) : impl_AreMarks (k + 1) l_0 =
 impl_AreMarks.l0 k k l_0 l_0 ((List.length l_0 : Nat) : Int) 0 := by kernel_rfl
theorem impl_AreMarks.l0_eq (k m : Nat) (l_0 : (List DT45)) (t_5 : (List DT45)) (t_6 : Int) (t_7 : Int) : impl_AreMarks.l0 k (m + 1) l_0 t_5 t_6 t_7 =
 if (t_7 : Int) < t_6 then
 if 0 ≤ t_7 then
 if t_7 < ((List.length t_5 : Nat) : Int) then
 (impl_InRange k (rd T45 t_5 t_7).1 1 100).bind fun r1 =>
 if ¬ (r1 = true) then
 some false
 else (impl_InRange k (rd T45 t_5 t_7).2.1 1 4).bind fun r2 =>
 if ¬ (r2 = true) then
 some false
 else (impl_InRange k (rd T45 t_5 t_7).2.2.1 0 9).bind fun r3 =>
 if ¬ (r3 = true) then
 some false
 else (impl_InRange k (rd T45 t_5 t_7).2.2.2.1 0 100000).bind fun r4 =>
 if ¬ (r4 = true) then
 some false
 else (impl_InRange k (rd T45 t_5 t_7).2.2.2.2.1 1 99).bind fun r5 =>
 if ¬ (r5 = true) then
 some false
 else if (0 : Int) < t_7 then
 if 0 ≤ (IntKind.wrap .i64 (t_7 - 1)) then
 if (IntKind.wrap .i64 (t_7 - 1)) < ((List.length l_0 : Nat) : Int) then
 (impl_markOrder k (rd T45 l_0 (IntKind.wrap .i64 (t_7 - 1))) (rd T45 t_5 t_7)).bind fun r6 =>
 if (0 : Int) ≤ r6 then
 some false
 else impl_AreMarks.l0 k m l_0 t_5 t_6 (IntKind.wrap .i64 (t_7 + 1)) else none else none
 else impl_AreMarks.l0 k m l_0 t_5 t_6 (IntKind.wrap .i64 (t_7 + 1)) else none else none
 else some (decide ((((List.length l_0 : Nat) : Int) : Int) ≤ 30)) := by kernel_rfl
theorem impl_AreLetters_eq (k : Nat) (l_0 : (List DT25)) : impl_AreLetters (k + 1) l_0 =
 impl_AreLetters.l0 k k l_0 l_0 ((List.length l_0 : Nat) : Int) 0 := by kernel_rfl
theorem impl_AreLetters.l0_eq (k m : Nat) (l_0 : (List DT25)) (t_5 : (List DT25)) (t_6 : Int) (t_7 : Int) : impl_AreLetters.l0 k (m + 1) l_0 t_5 t_6 t_7 =
 if (t_7 : Int) < t_6 then
 if 0 ≤ t_7 then
 if t_7 < ((List.length t_5 : Nat) : Int) then
 if Ne (α := Int) (rd T25 t_5 t_7).1 t_7 then
 some false
 else (impl_InRange k (rd T25 t_5 t_7).2.1 1 500).bind fun r1 =>
 if ¬ (r1 = true) then
 some false
 else if (0 : Int) < t_7 then
 if 0 ≤ (IntKind.wrap .i64 (t_7 - 1)) then
 if (IntKind.wrap .i64 (t_7 - 1)) < ((List.length l_0 : Nat) : Int) then
 if LE.le (α := Int) (rd T25 t_5 t_7).2.1 (rd T25 l_0 (IntKind.wrap .i64 (t_7 - 1))).2.1 then
 some false
 else impl_AreLetters.l0 k m l_0 t_5 t_6 (IntKind.wrap .i64 (t_7 + 1)) else none else none
 else impl_AreLetters.l0 k m l_0 t_5 t_6 (IntKind.wrap .i64 (t_7 + 1)) else none else none
 else some (decide ((((List.length l_0 : Nat) : Int) : Int) ≤ 26)) := by kernel_rfl
theorem impl_IsSeating_eq (k : Nat) (l_0 : (List DT43)) (score_1 : (List DT39)) (seats_2 : (List Int)) : impl_IsSeating (k + 1) l_0 score_1 seats_2 =
 (impl_ArePlayers k l_0).bind fun r1 =>
 if ¬ (r1 = true) then
 some false
 else (impl_IsScore k score_1).bind fun r2 =>
 if ¬ (r2 = true) then
 some false
 else if (4 : Int) < ((List.length seats_2 : Nat) : Int) then
 some false
 else impl_IsSeating.l0 k k l_0 seats_2 seats_2 ((List.length seats_2 : Nat) : Int) 0 score_1 := by kernel_rfl
theorem impl_IsSeating.l0_eq (k m : Nat) (l_0 : (List DT43)) (seats_2 : (List Int)) (t_22 : (List Int)) (t_23 : Int) (t_24 : Int) (b0_0 : (List DT39)) : impl_IsSeating.l0 k (m + 1) l_0 seats_2 t_22 t_23 t_24 b0_0 =
 if (t_24 : Int) < t_23 then
 if 0 ≤ t_24 then
 if t_24 < ((List.length t_22 : Nat) : Int) then
 if 0 ≤ t_24 then
 if t_24 ≤ ((List.length seats_2 : Nat) : Int) then
 (slices_Contains___int_int k (List.take ((Int.toNat t_24) - (Int.toNat 0)) (List.drop (Int.toNat 0) seats_2)) (rd (.int .i64) t_22 t_24)).bind fun r3 =>
 if r3 = true then
 some false
 else (slices_ContainsFunc_impl_Player_180 k l_0 (rd (.int .i64) t_22 t_24) b0_0 t_24).bind fun r4 =>
 if ¬ (r4 = true) then
 some false
 else impl_IsSeating.l0 k m l_0 seats_2 t_22 t_23 (IntKind.wrap .i64 (t_24 + 1)) b0_0 else none else none else none else none
 else some true := by kernel_rfl
theorem impl_InRange_eq (k : Nat) (n_0 : Int) (low_1 : Int) (high_2 : Int) : impl_InRange (k + 1) n_0 low_1 high_2 =
 if (low_1 : Int) ≤ n_0 then
 some (decide ((n_0 : Int) ≤ high_2))
 else some false := by kernel_rfl
theorem slices_ContainsFunc_impl_Event_91_eq (k : Nat) (s_0 : (List DT39)) (c1_0 : DT32) : slices_ContainsFunc_impl_Event_91 (k + 1) s_0 c1_0 =
 (slices_IndexFunc_impl_Event_91 k s_0 c1_0).bind fun r1 =>
 some (decide ((0 : Int) ≤ r1)) := by kernel_rfl
theorem slices_ContainsFunc_impl_Event_92_eq (k : Nat) (s_0 : (List DT39)) (c1_0 : DT32) : slices_ContainsFunc_impl_Event_92 (k + 1) s_0 c1_0 =
 (slices_IndexFunc_impl_Event_92 k s_0 c1_0).bind fun r1 =>
 some (decide ((0 : Int) ≤ r1)) := by kernel_rfl
theorem spec_l1New_eq (k : Nat) (code_0 : (List Int)) : spec_l1New (k + 1) code_0 =
 spec_l1New.l0 k k code_0 (IntKind.wrap .i64 (193017 + ((List.length code_0 : Nat) : Int))) 0 := by kernel_rfl
theorem spec_l1New.l0_eq (k m : Nat) (code_0 : (List Int)) (h_3 : Int) (i_4 : Int) : spec_l1New.l0 k (m + 1) code_0 h_3 i_4 =
 if (i_4 : Int) < ((List.length code_0 : Nat) : Int) then
 if (i_4 : Int) < 4000 then
 if 0 ≤ i_4 then
 if i_4 < ((List.length code_0 : Nat) : Int) then
 spec_l1New.l0 k m code_0 (IntKind.wrap .i64 (((BitVec.ofInt (IntKind.bits .i64) (IntKind.wrap .i64 ((IntKind.wrap .i64 ((IntKind.wrap .i64 (h_3 * 137)) + (IntKind.wrap .i64 ((rd (.int .u8) code_0 i_4))))) + 11)) &&& BitVec.ofInt (IntKind.bits .i64) 1073741823).toNat : Nat))) (IntKind.wrap .i64 (i_4 + 1)) else none else none
 else some (code_0, (0, (h_3, ())))
 else some (code_0, (0, (h_3, ()))) := by kernel_rfl
theorem spec_l36Draw_eq (k : Nat) (c_0 : DT199) : spec_l36Draw (k + 1) c_0 =
 (spec_l35Start k c_0).bind fun r1 =>
 (spec_l35List k r1.2 7).bind fun r2 =>
 (spec_RunAll k r1.1 r2.1).bind fun r3 =>
 (spec_l1Below k r2.2 9).bind fun r4 =>
 if (r4.1 : Int) = 0 then
 some ((r3.1, (r3.2.1, (r3.2.2.1, (r3.2.2.2.1, (r3.2.2.2.2.1, (r3.2.2.2.2.2.1, (r3.2.2.2.2.2.2.1, (r3.2.2.2.2.2.2.2.1, ((-1), ()))))))))), r4.2)
 else if (r4.1 : Int) = 1 then
 some ((r3.1, (r3.2.1, (r3.2.2.1, (r3.2.2.2.1, ([], r3.2.2.2.2.2))))), r4.2)
 else if (r4.1 : Int) = 2 then
 some ((r3.1, (r3.2.1, (r3.2.2.1, (r3.2.2.2.1, ([1, 1], r3.2.2.2.2.2))))), r4.2)
 else if (r4.1 : Int) = 3 then
 some ((r3.1, (r3.2.1, ([(0, (101, ())), (1, (103, ())), (2, (107, ())), (3, (109, ())), (4, (113, ()))], r3.2.2.2))), r4.2)
 else some (r3, r4.2) := by kernel_rfl
theorem impl_eventOrder_eq (k : Nat) (a_0 : DT39) (b_1 : DT39) : impl_eventOrder (k + 1) a_0 b_1 =
 (cmp_Compare_int k a_0.1 b_1.1).bind fun r1 =>
 (cmp_Compare_int k a_0.2.2.2.1 b_1.2.2.2.1).bind fun r2 =>
 (cmp_Compare_int k a_0.2.2.1 b_1.2.2.1).bind fun r3 =>
 (cmp_Or_int k ([r1, r2, r3])).bind fun r4 =>
 some r4 := by kernel_rfl
theorem impl_markOrder_eq (k : Nat) (a_0 : DT45) (b_1 : DT45) : impl_markOrder (k + 1) a_0 b_1 =
 (cmp_Compare_int k a_0.1 b_1.1).bind fun r1 =>
 (cmp_Compare_int k a_0.2.1 b_1.2.1).bind fun r2 =>
 (cmp_Or_int k ([r1, r2])).bind fun r3 =>
 some r3 := by kernel_rfl
theorem impl_ArePlayers_eq (k : Nat) (l_0 : (List DT43)) : impl_ArePlayers (k + 1) l_0 =
 impl_ArePlayers.l0 k k l_0 l_0 ((List.length l_0 : Nat) : Int) 0 [] := by kernel_rfl
theorem impl_ArePlayers.l0_eq (k m : Nat) (l_0 : (List DT43)) (t_7 : (List DT43)) (t_8 : Int) (t_9 : Int) (s0 : (List Int)) : impl_ArePlayers.l0 k (m + 1) l_0 t_7 t_8 t_9 s0 =
 if (t_9 : Int) < t_8 then
 if 0 ≤ t_9 then
 if t_9 < ((List.length t_7 : Nat) : Int) then
 (impl_InRange k (rd T43 t_7 t_9).2.1 21 (rd T43 t_7 t_9).2.2.1).bind fun r1 =>
 if ¬ (r1 = true) then
 some false
 else if LT.lt (α := Int) 108 (rd T43 t_7 t_9).2.2.1 then
 some false
 else (impl_ascending k (rd T43 t_7 t_9).2.2.2.1 1 4).bind fun r2 =>
 if ¬ (r2 = true) then
 some false
 else if (List.length s0 + List.length ([(rd T43 t_7 t_9).1] : (List Int))) * 8 ≤ 211106232532992 then
 impl_ArePlayers.l0 k m l_0 t_7 t_8 (IntKind.wrap .i64 (t_9 + 1)) (s0 ++ ([(rd T43 t_7 t_9).1] : (List Int))) else none else none else none
 else if (((List.length l_0 : Nat) : Int) : Int) ≤ 8 then
 (impl_ascending k s0 1 99).bind fun r3 =>
 some (decide (r3 = true))
 else some false := by kernel_rfl
theorem slices_Contains___int_int_eq (k : Nat) (s_0 : (List Int)) (v_1 : Int) : slices_Contains___int_int (k + 1) s_0 v_1 =
 (slices_Index___int_int k s_0 v_1).bind fun r1 =>
 some (decide ((0 : Int) ≤ r1)) := by kernel_rfl
theorem slices_ContainsFunc_impl_Player_180_eq (k : Nat) (s_0 : (List DT43)) (c1_0 : Int) (c1_1 : (List DT39)) (c1_2 : Int) : slices_ContainsFunc_impl_Player_180 (k + 1) s_0 c1_0 c1_1 c1_2 =
 (slices_IndexFunc_impl_Player_180 k s_0 c1_0 c1_1 c1_2).bind fun r1 =>
 some (decide ((0 : Int) ≤ r1)) := by kernel_rfl
theorem slices_IndexFunc_impl_Event_91_eq (k : Nat) (s_0 : (List DT39)) (c1_0 : DT32) : slices_IndexFunc_impl_Event_91 (k + 1) s_0 c1_0 =
 slices_IndexFunc_impl_Event_91.l0 k k s_0 c1_0 ((List.length s_0 : Nat) : Int) 0 := by kernel_rfl
theorem slices_IndexFunc_impl_Event_91.l0_eq (k m : Nat) (s_0 : (List DT39)) (f_1_c : DT32) (t_7 : Int) (t_8 : Int) : slices_IndexFunc_impl_Event_91.l0 k (m + 1) s_0 f_1_c t_7 t_8 =
 if (t_8 : Int) < t_7 then
 if 0 ≤ t_8 then
 if t_8 < ((List.length s_0 : Nat) : Int) then
 (impl_IsExact_1 k (rd T39 s_0 t_8) f_1_c).bind fun r1 =>
 if r1 = true then
 some t_8
 else slices_IndexFunc_impl_Event_91.l0 k m s_0 f_1_c t_7 (IntKind.wrap .i64 (t_8 + 1)) else none else none
 else some (-1) := by kernel_rfl
theorem slices_IndexFunc_impl_Event_92_eq (k : Nat) (s_0 : (List DT39)) (c1_0 : DT32) : slices_IndexFunc_impl_Event_92 (k + 1) s_0 c1_0 =
 slices_IndexFunc_impl_Event_92.l0 k k s_0 c1_0 ((List.length s_0 : Nat) : Int) 0 := by kernel_rfl
theorem slices_IndexFunc_impl_Event_92.l0_eq (k m : Nat) (s_0 : (List DT39)) (f_1_c : DT32) (t_7 : Int) (t_8 : Int) : slices_IndexFunc_impl_Event_92.l0 k (m + 1) s_0 f_1_c t_7 t_8 =
 if (t_8 : Int) < t_7 then
 if 0 ≤ t_8 then
 if t_8 < ((List.length s_0 : Nat) : Int) then
 (impl_AreSeated_1 k (rd T39 s_0 t_8) f_1_c).bind fun r1 =>
 if r1 = true then
 some t_8
 else slices_IndexFunc_impl_Event_92.l0 k m s_0 f_1_c t_7 (IntKind.wrap .i64 (t_8 + 1)) else none else none
 else some (-1) := by kernel_rfl
theorem spec_l35Start_eq (k : Nat) (c_0 : DT199) : spec_l35Start (k + 1) c_0 =
 (spec_l10Draw k c_0).bind fun r1 =>
 (spec_l33Voices k r1.2).bind fun r2 =>
 (spec_NewOrchestra k r1.1 r2.1).bind fun r3 =>
 some (r3.1, r2.2) := by kernel_rfl
theorem spec_l35List_eq (k : Nat) (c_0 : DT199) (most_1 : Int) : spec_l35List (k + 1) c_0 most_1 =
 (spec_l13Score k c_0).bind fun r1 =>
 (spec_WriteAll k r1.1).bind fun r2 =>
 if (List.length r2 + List.length ([(4, (2, ((0, (0, (0, (0, ())))), ((0, (0, ())), ((0, (0, (0, ([], ())))), ((0, (0, (0, (0, (0, ()))))), ()))))))] : (List DT47))) * 152 ≤ 211106232532992 then
 (spec_l1Below k r1.2 most_1).bind fun r3 =>
 spec_l35List.l0 k k r3.1 r3.2.1 r3.2.2.1 r3.2.2.2.1 (r2 ++ ([(4, (2, ((0, (0, (0, (0, ())))), ((0, (0, ())), ((0, (0, (0, ([], ())))), ((0, (0, (0, (0, (0, ()))))), ()))))))] : (List DT47))) else none := by kernel_rfl
theorem spec_l35List.l0_eq (k m : Nat) (i_6 : Int) (b0_0 : (List Int)) (b0_1 : Int) (b0_2 : Int) (s1 : (List DT47)) : spec_l35List.l0 k (m + 1) i_6 b0_0 b0_1 b0_2 s1 =
 if (0 : Int) < i_6 then
 (spec_l35One k (b0_0, (b0_1, (b0_2, ())))).bind fun r4 =>
 if (List.length s1 + List.length ([r4.1] : (List DT47))) * 152 ≤ 211106232532992 then
 spec_l35List.l0 k m (IntKind.wrap .i64 (i_6 - 1)) r4.2.1 r4.2.2.1 r4.2.2.2.1 (s1 ++ ([r4.1] : (List DT47))) else none
 else some (s1, (b0_0, (b0_1, (b0_2, ())))) := by kernel_rfl
theorem spec_RunAll_eq (k : Nat) (o_0 : DT32) (list_1 : (List DT47)) : spec_RunAll (k + 1) o_0 list_1 =
 (spec_l33Copy k o_0).bind fun r1 =>
 spec_RunAll.l0 k k list_1 0 0 0 0 0 r1.2.1.1 r1.2.1.2.1 r1.2.2.2.2.2.2.2.1 r1.2.2.2.2.2.2.2.2.1 r1.1 r1.2.2.1 r1.2.2.2.1 r1.2.2.2.2.1 r1.2.2.2.2.2.1 r1.2.2.2.2.2.2.1 := by kernel_rfl
theorem spec_RunAll.l0_eq (k m : Nat) (list_1 : (List DT47)) (i_6 : Int) (b0_1 : Int) (b0_2 : Int) (b0_8 : Int) (b0_9 : Int) (b1_1 : Int) (b1_2 : Int) (b1_8 : Int) (b1_9 : Int) (s2 : (List DT39)) (s3 : (List DT25)) (s4 : (List DT43)) (s5 : (List Int)) (s6 : (List DT45)) (s7 : (List DT25)) : spec_RunAll.l0 k (m + 1) list_1 i_6 b0_1 b0_2 b0_8 b0_9 b1_1 b1_2 b1_8 b1_9 s2 s3 s4 s5 s6 s7 =
 if (i_6 : Int) < ((List.length list_1 : Nat) : Int) then
 if 0 ≤ i_6 then
 if i_6 < ((List.length list_1 : Nat) : Int) then
 (spec_Apply k (s2, ((b1_1, (b1_2, ())), (s3, (s4, (s5, (s6, (s7, (b1_8, (b1_9, ()))))))))) (rd T47 list_1 i_6)).bind fun r2 =>
 spec_RunAll.l0 k m list_1 (IntKind.wrap .i64 (i_6 + 1)) b0_1 b0_2 b0_8 b0_9 r2.1.2.1.1 r2.1.2.1.2.1 r2.1.2.2.2.2.2.2.2.1 r2.1.2.2.2.2.2.2.2.2.1 r2.1.1 r2.1.2.2.1 r2.1.2.2.2.1 r2.1.2.2.2.2.1 r2.1.2.2.2.2.2.1 r2.1.2.2.2.2.2.2.1 else none else none
 else some (s2, ((b1_1, (b1_2, ())), (s3, (s4, (s5, (s6, (s7, (b1_8, (b1_9, ()))))))))) := by kernel_rfl
theorem spec_l1Below_eq (k : Nat) (c_0 : DT199) (n_1 : Int) : spec_l1Below (k + 1) c_0 n_1 =
 if (n_1 : Int) ≤ 0 then
 some (0, c_0)
 else if (n_1 : Int) ≤ 256 then
 (spec_l1Byte k c_0).bind fun r1 =>
 if n_1 = (0 : Int) then
 none
 else some ((Int.tmod r1.1 n_1), r1.2)
 else (spec_l1Byte k c_0).bind fun r2 =>
 (spec_l1Byte k r2.2).bind fun r3 =>
 (spec_l1Byte k r3.2).bind fun r4 =>
 if n_1 = (0 : Int) then
 none
 else some ((Int.tmod (IntKind.wrap .i64 ((IntKind.wrap .i64 ((IntKind.wrap .i64 (r2.1 * 65536)) + (IntKind.wrap .i64 (r3.1 * 256)))) + r4.1)) n_1), r4.2) := by kernel_rfl
theorem cmp_Compare_int_eq (k : Nat) (x_0 : Int) (y_1 : Int) : cmp_Compare_int (k + 1) x_0 y_1 =
 (cmp_isNaN_int k x_0).bind fun r1 =>
 (cmp_isNaN_int k y_1).bind fun r2 =>
 if r1 = true then
 if r2 = true then
 some 0
 else some (-1)
 else if r2 = true then
 some 1
 else if (x_0 : Int) < y_1 then
 some (-1)
 else if (y_1 : Int) < x_0 then
 some 1
 else some 0 := by kernel_rfl
theorem cmp_Or_int_eq (k : Nat) (vals_0 : (List Int)) : cmp_Or_int (k + 1) vals_0 =
 cmp_Or_int.l0 k k 0 vals_0 ((List.length vals_0 : Nat) : Int) 0 := by kernel_rfl
theorem cmp_Or_int.l0_eq (k m : Nat) (zero_3 : Int) (t_6 : (List Int)) (t_7 : Int) (t_8 : Int) : cmp_Or_int.l0 k (m + 1) zero_3 t_6 t_7 t_8 =
 if (t_8 : Int) < t_7 then
 if 0 ≤ t_8 then
 if t_8 < ((List.length t_6 : Nat) : Int) then
 if Ne (α := Int) (rd (.int .i64) t_6 t_8) zero_3 then
 some (rd (.int .i64) t_6 t_8)
 else cmp_Or_int.l0 k m zero_3 t_6 t_7 (IntKind.wrap .i64 (t_8 + 1)) else none else none
 else some zero_3 := by kernel_rfl
theorem impl_ascending_eq (k : Nat) (l_0 : (List Int)) (low_1 : Int) (high_2 : Int) : impl_ascending (k + 1) l_0 low_1 high_2 =
 impl_ascending.l0 k k l_0 low_1 high_2 l_0 ((List.length l_0 : Nat) : Int) 0 := by kernel_rfl
theorem impl_ascending.l0_eq (k m : Nat) (l_0 : (List Int)) (low_1 : Int) (high_2 : Int) (t_9 : (List Int)) (t_10 : Int) (t_11 : Int) : impl_ascending.l0 k (m + 1) l_0 low_1 high_2 t_9 t_10 t_11 =
 if (t_11 : Int) < t_10 then
 if 0 ≤ t_11 then
 if t_11 < ((List.length t_9 : Nat) : Int) then
 (impl_InRange k (rd (.int .i64) t_9 t_11) low_1 high_2).bind fun r1 =>
 if ¬ (r1 = true) then
 some false
 else if (0 : Int) < t_11 then
 if 0 ≤ (IntKind.wrap .i64 (t_11 - 1)) then
 if (IntKind.wrap .i64 (t_11 - 1)) < ((List.length l_0 : Nat) : Int) then
 if LE.le (α := Int) (rd (.int .i64) t_9 t_11) (rd (.int .i64) l_0 (IntKind.wrap .i64 (t_11 - 1))) then
 some false
 else impl_ascending.l0 k m l_0 low_1 high_2 t_9 t_10 (IntKind.wrap .i64 (t_11 + 1)) else none else none
 else impl_ascending.l0 k m l_0 low_1 high_2 t_9 t_10 (IntKind.wrap .i64 (t_11 + 1)) else none else none
 else some true := by kernel_rfl
theorem slices_Index___int_int_eq (k : Nat) (s_0 : (List Int)) (v_1 : Int) : slices_Index___int_int (k + 1) s_0 v_1 =
 slices_Index___int_int.l0 k k s_0 v_1 ((List.length s_0 : Nat) : Int) 0 := by kernel_rfl
theorem slices_Index___int_int.l0_eq (k m : Nat) (s_0 : (List Int)) (v_1 : Int) (t_7 : Int) (t_8 : Int) : slices_Index___int_int.l0 k (m + 1) s_0 v_1 t_7 t_8 =
 if (t_8 : Int) < t_7 then
 if 0 ≤ t_8 then
 if t_8 < ((List.length s_0 : Nat) : Int) then
 if Eq (α := Int) v_1 (rd (.int .i64) s_0 t_8) then
 some t_8
 else slices_Index___int_int.l0 k m s_0 v_1 t_7 (IntKind.wrap .i64 (t_8 + 1)) else none else none
 else some (-1) := by kernel_rfl
theorem slices_IndexFunc_impl_Player_180_eq (k : Nat) (s_0 : (List DT43)) (c1_0 : Int) (c1_1 : (List DT39)) (c1_2 : Int) : slices_IndexFunc_impl_Player_180 (k + 1) s_0 c1_0 c1_1 c1_2 =
 slices_IndexFunc_impl_Player_180.l0 k k s_0 c1_0 c1_1 c1_2 ((List.length s_0 : Nat) : Int) 0 := by kernel_rfl
theorem slices_IndexFunc_impl_Player_180.l0_eq (k m : Nat) (s_0 : (List DT43)) (f_1_c : Int) (f_1_c_1 : (List DT39)) (f_1_c_2 : Int) (t_7 : Int) (t_8 : Int) : slices_IndexFunc_impl_Player_180.l0 k (m + 1) s_0 f_1_c f_1_c_1 f_1_c_2 t_7 t_8 =
 if (t_8 : Int) < t_7 then
 if 0 ≤ t_8 then
 if t_8 < ((List.length s_0 : Nat) : Int) then
 (impl_IsSeating_1 k (rd T43 s_0 t_8) f_1_c f_1_c_1 f_1_c_2).bind fun r1 =>
 if r1 = true then
 some t_8
 else slices_IndexFunc_impl_Player_180.l0 k m s_0 f_1_c f_1_c_1 f_1_c_2 t_7 (IntKind.wrap .i64 (t_8 + 1)) else none else none
 else some (-1) := by kernel_rfl
theorem impl_IsExact_1_eq (k : Nat) (e_0 : DT39) (a_1 : DT32) : impl_IsExact_1 (k + 1) e_0 a_1 =
 (impl_TimeOf k a_1.2.2.1 e_0.1).bind fun r1 =>
 (impl_TickAt k a_1.2.2.1 r1.1).bind fun r2 =>
 if ¬ (r1.2.1 = true) then
 some true
 else if ¬ (r2.2.1 = true) then
 some true
 else some (decide (¬ (((r2.1.1 : Int) = e_0.1) ∧ ((r2.1.2.1 : Int) = 1)))) := by kernel_rfl
theorem impl_AreSeated_1_eq (k : Nat) (e_0 : DT39) (a_1 : DT32) : impl_AreSeated_1 (k + 1) e_0 a_1 =
 some (decide ((((List.length a_1.2.2.2.2.1 : Nat) : Int) : Int) < e_0.2.2.2.1)) := by kernel_rfl
theorem spec_l10Draw_eq (k : Nat) (c_0 : DT199) : spec_l10Draw (k + 1) c_0 =
 (spec_l1Below k c_0 4).bind fun r1 =>
 (spec_l1Int k r1.2 ([4, 4, 4, 8, 2])).bind fun r2 =>
 some ((IntKind.wrap .i64 (2 + r1.1), (r2.1, ())), r2.2) := by kernel_rfl
theorem spec_l33Voices_eq (k : Nat) (c_0 : DT199) : spec_l33Voices (k + 1) c_0 =
 spec_l33Voices.l0 k k 1 c_0.1 c_0.2.1 c_0.2.2.1 [] := by kernel_rfl
theorem spec_l33Voices.l0_eq (k m : Nat) (i_4 : Int) (b0_0 : (List Int)) (b0_1 : Int) (b0_2 : Int) (s1 : (List DT43)) : spec_l33Voices.l0 k (m + 1) i_4 b0_0 b0_1 b0_2 s1 =
 (spec_l1Below k (b0_0, (b0_1, (b0_2, ()))) 4).bind fun r1 =>
 if (i_4 : Int) ≤ (IntKind.wrap .i64 (2 + r1.1)) then
 (spec_l1Below k r1.2 18).bind fun r2 =>
 (spec_l1Below k r2.2 12).bind fun r3 =>
 if (List.length s1 + List.length ([(i_4, (IntKind.wrap .i64 (40 + r2.1), (IntKind.wrap .i64 (76 + r3.1), ([1, 2, 3], ()))))] : (List DT43))) * 48 ≤ 211106232532992 then
 spec_l33Voices.l0 k m (IntKind.wrap .i64 (i_4 + 1)) r3.2.1 r3.2.2.1 r3.2.2.2.1 (s1 ++ ([(i_4, (IntKind.wrap .i64 (40 + r2.1), (IntKind.wrap .i64 (76 + r3.1), ([1, 2, 3], ()))))] : (List DT43))) else none
 else some (s1, r1.2) := by kernel_rfl
theorem spec_NewOrchestra_eq (k : Nat) (m_0 : DT25) (players_1 : (List DT43)) : spec_NewOrchestra (k + 1) m_0 players_1 =
 (spec_l33Copy k ([], (m_0, ([(0, (100, ()))], (players_1, ([], ([], ([], (1, (0, ())))))))))).bind fun r1 =>
 (spec_IsOrchestra k r1).bind fun r2 =>
 if ¬ (r2 = true) then
 some (([], ((0, (0, ())), ([], ([], ([], ([], ([], (0, (0, ()))))))))), (false, ()))
 else some (r1, (true, ())) := by kernel_rfl
theorem spec_l13Score_eq (k : Nat) (c_0 : DT199) : spec_l13Score (k + 1) c_0 =
 (spec_l8Tune k c_0 1 9).bind fun r1 =>
 (spec_l8Tune k r1.2 2 9).bind fun r2 =>
 spec_l13Score.l0 k k 0 r2.2.1 r2.2.2.1 r2.2.2.2.1 r1.1 r2.1 := by kernel_rfl
theorem spec_l13Score.l0_eq (k m : Nat) (i_5 : Int) (b0_0 : (List Int)) (b0_1 : Int) (b0_2 : Int) (s1 : (List DT39)) (s2 : (List DT39)) : spec_l13Score.l0 k (m + 1) i_5 b0_0 b0_1 b0_2 s1 s2 =
 if (i_5 : Int) < ((List.length s2 : Nat) : Int) then
 if 0 ≤ i_5 then
 if i_5 < ((List.length s2 : Nat) : Int) then
 (spec_PutEvent k s1 (rd T39 s2 i_5)).bind fun r3 =>
 spec_l13Score.l0 k m (IntKind.wrap .i64 (i_5 + 1)) b0_0 b0_1 b0_2 r3.1 s2 else none else none
 else some (s1, (b0_0, (b0_1, (b0_2, ())))) := by kernel_rfl
theorem spec_WriteAll_eq (k : Nat) (l_0 : (List DT39)) : spec_WriteAll (k + 1) l_0 =
 spec_WriteAll.l0 k k l_0 0 [] := by kernel_rfl
theorem spec_WriteAll.l0_eq (k m : Nat) (l_0 : (List DT39)) (i_4 : Int) (s0 : (List DT47)) : spec_WriteAll.l0 k (m + 1) l_0 i_4 s0 =
 if (i_4 : Int) < ((List.length l_0 : Nat) : Int) then
 if 0 ≤ i_4 then
 if i_4 < ((List.length l_0 : Nat) : Int) then
 if (List.length s0 + List.length ([(1, (0, ((rd T39 l_0 i_4), ((0, (0, ())), ((0, (0, (0, ([], ())))), ((0, (0, (0, (0, (0, ()))))), ()))))))] : (List DT47))) * 152 ≤ 211106232532992 then
 spec_WriteAll.l0 k m l_0 (IntKind.wrap .i64 (i_4 + 1)) (s0 ++ ([(1, (0, ((rd T39 l_0 i_4), ((0, (0, ())), ((0, (0, (0, ([], ())))), ((0, (0, (0, (0, (0, ()))))), ()))))))] : (List DT47))) else none else none else none
 else some s0 := by kernel_rfl
theorem spec_l35One_eq (k : Nat) (c_0 : DT199) : spec_l35One (k + 1) c_0 =
 (spec_l1Below k c_0 8).bind fun r1 =>
 (spec_l1Below k r1.2 4).bind fun r2 =>
 if ((IntKind.wrap .i64 (1 + r1.1)) : Int) = 1 then
 if ((IntKind.wrap .i64 (1 + r1.1)) : Int) = 1 then
 (spec_l8Event k r2.2).bind fun r3 =>
 some ((IntKind.wrap .i64 (1 + r1.1), (IntKind.wrap .i64 (1 + r2.1), (r3.1, ((0, (0, ())), ((0, (0, (0, ([], ())))), ((0, (0, (0, (0, (0, ()))))), ())))))), r3.2)
 else if ((IntKind.wrap .i64 (1 + r1.1)) : Int) = 3 then
 (spec_l1Below k r2.2 9).bind fun r4 =>
 (spec_l1Below k r4.2 90).bind fun r5 =>
 some ((IntKind.wrap .i64 (1 + r1.1), (IntKind.wrap .i64 (1 + r2.1), ((0, (0, (0, (0, ())))), ((IntKind.wrap .i64 (6 * r4.1), (IntKind.wrap .i64 (60 + r5.1), ())), ((0, (0, (0, ([], ())))), ((0, (0, (0, (0, (0, ()))))), ())))))), r5.2)
 else if ((IntKind.wrap .i64 (1 + r1.1)) : Int) = 6 then
 (spec_l1Below k r2.2 9).bind fun r6 =>
 some ((IntKind.wrap .i64 (1 + r1.1), (IntKind.wrap .i64 (1 + r2.1), ((0, (0, (0, (0, ())))), ((0, (0, ())), ((IntKind.wrap .i64 (1 + r6.1), (40, (90, ([1, 2], ())))), ((0, (0, (0, (0, (0, ()))))), ())))))), r6.2)
 else if ((IntKind.wrap .i64 (1 + r1.1)) : Int) = 7 then
 (spec_l25Mark k r2.2).bind fun r7 =>
 some ((IntKind.wrap .i64 (1 + r1.1), (IntKind.wrap .i64 (1 + r2.1), ((0, (0, (0, (0, ())))), ((0, (0, ())), ((0, (0, (0, ([], ())))), (r7.1, ())))))), r7.2)
 else some ((IntKind.wrap .i64 (1 + r1.1), (IntKind.wrap .i64 (1 + r2.1), ((0, (0, (0, (0, ())))), ((0, (0, ())), ((0, (0, (0, ([], ())))), ((0, (0, (0, (0, (0, ()))))), ())))))), r2.2)
 else if ((IntKind.wrap .i64 (1 + r1.1)) : Int) = 2 then
 (spec_l8Event k r2.2).bind fun r8 =>
 some ((IntKind.wrap .i64 (1 + r1.1), (IntKind.wrap .i64 (1 + r2.1), (r8.1, ((0, (0, ())), ((0, (0, (0, ([], ())))), ((0, (0, (0, (0, (0, ()))))), ())))))), r8.2)
 else if ((IntKind.wrap .i64 (1 + r1.1)) : Int) = 3 then
 (spec_l1Below k r2.2 9).bind fun r9 =>
 (spec_l1Below k r9.2 90).bind fun r10 =>
 some ((IntKind.wrap .i64 (1 + r1.1), (IntKind.wrap .i64 (1 + r2.1), ((0, (0, (0, (0, ())))), ((IntKind.wrap .i64 (6 * r9.1), (IntKind.wrap .i64 (60 + r10.1), ())), ((0, (0, (0, ([], ())))), ((0, (0, (0, (0, (0, ()))))), ())))))), r10.2)
 else if ((IntKind.wrap .i64 (1 + r1.1)) : Int) = 6 then
 (spec_l1Below k r2.2 9).bind fun r11 =>
 some ((IntKind.wrap .i64 (1 + r1.1), (IntKind.wrap .i64 (1 + r2.1), ((0, (0, (0, (0, ())))), ((0, (0, ())), ((IntKind.wrap .i64 (1 + r11.1), (40, (90, ([1, 2], ())))), ((0, (0, (0, (0, (0, ()))))), ())))))), r11.2)
 else if ((IntKind.wrap .i64 (1 + r1.1)) : Int) = 7 then
 (spec_l25Mark k r2.2).bind fun r12 =>
 some ((IntKind.wrap .i64 (1 + r1.1), (IntKind.wrap .i64 (1 + r2.1), ((0, (0, (0, (0, ())))), ((0, (0, ())), ((0, (0, (0, ([], ())))), (r12.1, ())))))), r12.2)
 else some ((IntKind.wrap .i64 (1 + r1.1), (IntKind.wrap .i64 (1 + r2.1), ((0, (0, (0, (0, ())))), ((0, (0, ())), ((0, (0, (0, ([], ())))), ((0, (0, (0, (0, (0, ()))))), ())))))), r2.2) := by kernel_rfl
theorem spec_l33Copy_eq (k : Nat) (o_0 : DT32) : spec_l33Copy (k + 1) o_0 =
 if (List.length ([] : (List DT39)) + List.length o_0.1) * 32 ≤ 211106232532992 then
 if (List.length ([] : (List DT25)) + List.length o_0.2.2.1) * 16 ≤ 211106232532992 then
 (spec_l29Copy k o_0.2.2.2.1).bind fun r1 =>
 if (List.length ([] : (List Int)) + List.length o_0.2.2.2.2.1) * 8 ≤ 211106232532992 then
 if (List.length ([] : (List DT45)) + List.length o_0.2.2.2.2.2.1) * 40 ≤ 211106232532992 then
 if (List.length ([] : (List DT25)) + List.length o_0.2.2.2.2.2.2.1) * 16 ≤ 211106232532992 then
 some ((([] : (List DT39)) ++ o_0.1), (o_0.2.1, ((([] : (List DT25)) ++ o_0.2.2.1), (r1, ((([] : (List Int)) ++ o_0.2.2.2.2.1), ((([] : (List DT45)) ++ o_0.2.2.2.2.2.1), ((([] : (List DT25)) ++ o_0.2.2.2.2.2.2.1), o_0.2.2.2.2.2.2.2))))))) else none else none else none else none else none := by kernel_rfl
theorem spec_Apply_eq (k : Nat) (o_0 : DT32) (x_1 : DT47) : spec_Apply (k + 1) o_0 x_1 =
 if (x_1.1 : Int) = 1 then
 (spec_StepWrite k o_0 x_1.2.2.1).bind fun r1 =>
 some (r1.1, (decide (r1.2.1 = true), ()))
 else if (x_1.1 : Int) = 2 then
 (spec_StepErase k o_0 x_1.2.2.1).bind fun r2 =>
 some (r2.1, (decide (r2.2.1 = true), ()))
 else if (x_1.1 : Int) = 3 then
 (spec_StepTempo k o_0 x_1.2.2.2.1).bind fun r3 =>
 some (r3.1, (decide (r3.2.1 = true), ()))
 else if (x_1.1 : Int) = 4 then
 (spec_StepSeat k o_0 x_1.2.1).bind fun r4 =>
 some (r4.1, (decide (r4.2.1 = true), ()))
 else if (x_1.1 : Int) = 5 then
 (spec_StepLeave k o_0 x_1.2.1).bind fun r5 =>
 some (r5.1, (decide (r5.2.1 = true), ()))
 else if (x_1.1 : Int) = 6 then
 (spec_StepJoin k o_0 x_1.2.2.2.2.1).bind fun r6 =>
 some (r6.1, (decide (r6.2.1 = true), ()))
 else if (x_1.1 : Int) = 7 then
 (spec_StepMark k o_0 x_1.2.2.2.2.2.1.1 x_1.2.2.2.2.2.1.2.1 x_1.2.2.2.2.2.1.2.2.1 x_1.2.2.2.2.2.1.2.2.2.2.1).bind fun r7 =>
 some (r7.1, (decide (r7.2.1 = true), ()))
 else if (x_1.1 : Int) = 8 then
 (spec_StepTick k o_0 x_1.2.1).bind fun r8 =>
 some (r8.1, (decide (r8.2.1 = true), ()))
 else (spec_l33Copy k o_0).bind fun r9 =>
 some (r9, (false, ())) := by kernel_rfl
theorem spec_l1Byte_eq (k : Nat) (c_0 : DT199) : spec_l1Byte (k + 1) c_0 =
 if (33 : Int) < 0 then
 none
 else if (47 : Int) < 0 then
 none
 else if (c_0.2.1 : Int) < ((List.length c_0.1 : Nat) : Int) then
 if 0 ≤ c_0.2.1 then
 if c_0.2.1 < ((List.length c_0.1 : Nat) : Int) then
 some (IntKind.wrap .i64 (((BitVec.ofInt (IntKind.bits .i64) (IntKind.wrap .i64 ((IntKind.wrap .i64 (((BitVec.ofInt (IntKind.bits .i64) (IntKind.wrap .i64 (((BitVec.ofInt (IntKind.bits .i64) (Int.fdiv (IntKind.wrap .i64 ((IntKind.wrap .i64 (c_0.2.2.1 * 6364136223846793005)) + 1442695040888963407)) (2 ^ (min (Int.toNat 33) (IntKind.bits .i64)))) ^^^ BitVec.ofInt (IntKind.bits .i64) (Int.fdiv (IntKind.wrap .i64 ((IntKind.wrap .i64 (c_0.2.2.1 * 6364136223846793005)) + 1442695040888963407)) (2 ^ (min (Int.toNat 47) (IntKind.bits .i64))))).toNat : Nat))) &&& BitVec.ofInt (IntKind.bits .i64) 255).toNat : Nat))) + (IntKind.wrap .i64 ((rd (.int .u8) c_0.1 c_0.2.1))))) &&& BitVec.ofInt (IntKind.bits .i64) 255).toNat : Nat)), (c_0.1, (IntKind.wrap .i64 (c_0.2.1 + 1), (IntKind.wrap .i64 ((IntKind.wrap .i64 (c_0.2.2.1 * 6364136223846793005)) + 1442695040888963407), ())))) else none else none
 else some (IntKind.wrap .i64 (((BitVec.ofInt (IntKind.bits .i64) (IntKind.wrap .i64 (((BitVec.ofInt (IntKind.bits .i64) (Int.fdiv (IntKind.wrap .i64 ((IntKind.wrap .i64 (c_0.2.2.1 * 6364136223846793005)) + 1442695040888963407)) (2 ^ (min (Int.toNat 33) (IntKind.bits .i64)))) ^^^ BitVec.ofInt (IntKind.bits .i64) (Int.fdiv (IntKind.wrap .i64 ((IntKind.wrap .i64 (c_0.2.2.1 * 6364136223846793005)) + 1442695040888963407)) (2 ^ (min (Int.toNat 47) (IntKind.bits .i64))))).toNat : Nat))) &&& BitVec.ofInt (IntKind.bits .i64) 255).toNat : Nat)), (c_0.1, (c_0.2.1, (IntKind.wrap .i64 ((IntKind.wrap .i64 (c_0.2.2.1 * 6364136223846793005)) + 1442695040888963407), ())))) := by kernel_rfl
theorem cmp_isNaN_int_eq (k : Nat) (x_0 : Int) : cmp_isNaN_int (k + 1) x_0 =
 some (decide ((x_0 : Int) ≠ x_0)) := by kernel_rfl
theorem impl_IsSeating_1_eq (k : Nat) (p_0 : DT43) (a_1 : Int) (a_2 : (List DT39)) (a_3 : Int) : impl_IsSeating_1 (k + 1) p_0 a_1 a_2 a_3 =
 if (p_0.1 : Int) = a_1 then
 (impl_CanPlay k p_0 a_2 (IntKind.wrap .i64 (a_3 + 1))).bind fun r1 =>
 some (decide (r1 = true))
 else some false := by kernel_rfl
theorem impl_TimeOf_eq (k : Nat) (l_0 : (List DT25)) (tick_1 : Int) : impl_TimeOf (k + 1) l_0 tick_1 =
 (impl_IsTempo k l_0).bind fun r1 =>
 if ¬ (r1 = true) then
 some ((0, (0, ())), (false, ()))
 else (impl_InRange k tick_1 0 2000).bind fun r2 =>
 if ¬ (r2 = true) then
 some ((0, (0, ())), (false, ()))
 else impl_TimeOf.l0 k k l_0 tick_1 l_0 ((List.length l_0 : Nat) : Int) 0 0 0 0 1 := by kernel_rfl
theorem impl_TimeOf.l0_eq (k m : Nat) (l_0 : (List DT25)) (tick_1 : Int) (t_24 : (List DT25)) (t_25 : Int) (t_26 : Int) (b0_0 : Int) (b0_1 : Int) (b1_0 : Int) (b1_1 : Int) : impl_TimeOf.l0 k (m + 1) l_0 tick_1 t_24 t_25 t_26 b0_0 b0_1 b1_0 b1_1 =
 if (t_26 : Int) < t_25 then
 if 0 ≤ t_26 then
 if t_26 < ((List.length t_24 : Nat) : Int) then
 if ((IntKind.wrap .i64 (t_26 + 1)) : Int) < ((List.length l_0 : Nat) : Int) then
 if 0 ≤ (IntKind.wrap .i64 (t_26 + 1)) then
 if (IntKind.wrap .i64 (t_26 + 1)) < ((List.length l_0 : Nat) : Int) then
 if LE.le (α := Int) (min tick_1 (rd T25 l_0 (IntKind.wrap .i64 (t_26 + 1))).1 : Int) (rd T25 t_24 t_26).1 then
 some ((b1_0, (b1_1, ())), (true, ()))
 else (impl_MakeRatio k (IntKind.wrap .i64 ((IntKind.wrap .i64 ((min tick_1 (rd T25 l_0 (IntKind.wrap .i64 (t_26 + 1))).1 : Int) - (rd T25 t_24 t_26).1)) * 5000)) (rd T25 t_24 t_26).2.1).bind fun r3 =>
 (impl_AddRatio k (b1_0, (b1_1, ())) r3.1).bind fun r4 =>
 if ¬ (r3.2.1 = true) then
 some ((0, (0, ())), (false, ()))
 else if ¬ (r4.2.1 = true) then
 some ((0, (0, ())), (false, ()))
 else impl_TimeOf.l0 k m l_0 tick_1 t_24 t_25 (IntKind.wrap .i64 (t_26 + 1)) b0_0 b0_1 r4.1.1 r4.1.2.1 else none else none
 else if LE.le (α := Int) tick_1 (rd T25 t_24 t_26).1 then
 some ((b1_0, (b1_1, ())), (true, ()))
 else (impl_MakeRatio k (IntKind.wrap .i64 ((IntKind.wrap .i64 (tick_1 - (rd T25 t_24 t_26).1)) * 5000)) (rd T25 t_24 t_26).2.1).bind fun r5 =>
 (impl_AddRatio k (b1_0, (b1_1, ())) r5.1).bind fun r6 =>
 if ¬ (r5.2.1 = true) then
 some ((0, (0, ())), (false, ()))
 else if ¬ (r6.2.1 = true) then
 some ((0, (0, ())), (false, ()))
 else impl_TimeOf.l0 k m l_0 tick_1 t_24 t_25 (IntKind.wrap .i64 (t_26 + 1)) b0_0 b0_1 r6.1.1 r6.1.2.1 else none else none
 else some ((b1_0, (b1_1, ())), (true, ())) := by kernel_rfl
theorem impl_TickAt_eq (k : Nat) (l_0 : (List DT25)) (ms_1 : DT25) : impl_TickAt (k + 1) l_0 ms_1 =
 (impl_IsTempo k l_0).bind fun r1 =>
 if ¬ (r1 = true) then
 some ((0, (0, ())), (false, ()))
 else (impl_IsRatio k ms_1).bind fun r2 =>
 if ¬ (r2 = true) then
 some ((0, (0, ())), (false, ()))
 else if (ms_1.1 : Int) < 0 then
 some ((0, (0, ())), (false, ()))
 else if 0 ≤ 0 then
 if 0 < ((List.length l_0 : Nat) : Int) then
 if 0 ≤ 1 then
 if 1 ≤ ((List.length l_0 : Nat) : Int) then
 impl_TickAt.l0 k k l_0 (List.take ((Int.toNat ((List.length l_0 : Nat) : Int)) - (Int.toNat 1)) (List.drop (Int.toNat 1) l_0)) ((List.length (List.take ((Int.toNat ((List.length l_0 : Nat) : Int)) - (Int.toNat 1)) (List.drop (Int.toNat 1) l_0)) : Nat) : Int) 0 ms_1.1 ms_1.2.1 0 0 (rd T25 l_0 0).1 (rd T25 l_0 0).2.1 0 1 else none else none else none else none := by kernel_rfl
theorem impl_TickAt.l0_eq (k m : Nat) (l_0 : (List DT25)) (t_39 : (List DT25)) (t_40 : Int) (t_41 : Int) (b0_0 : Int) (b0_1 : Int) (b1_0 : Int) (b1_1 : Int) (b2_0 : Int) (b2_1 : Int) (b3_0 : Int) (b3_1 : Int) : impl_TickAt.l0 k (m + 1) l_0 t_39 t_40 t_41 b0_0 b0_1 b1_0 b1_1 b2_0 b2_1 b3_0 b3_1 =
 if (t_41 : Int) < t_40 then
 if 0 ≤ t_41 then
 if t_41 < ((List.length t_39 : Nat) : Int) then
 (impl_TimeOf k l_0 (rd T25 t_39 t_41).1).bind fun r3 =>
 if ¬ (r3.2.1 = true) then
 some ((0, (0, ())), (false, ()))
 else (impl_LessRatio k (b0_0, (b0_1, ())) r3.1).bind fun r4 =>
 if r4 = true then
 (impl_AddRatio k (b0_0, (b0_1, ())) (IntKind.wrap .i64 (-b3_0), (b3_1, ()))).bind fun r5 =>
 (impl_MakeRatio k b2_1 5000).bind fun r6 =>
 (impl_MulRatio k r5.1 r6.1).bind fun r7 =>
 (impl_AddRatio k (b2_0, (1, ())) r7.1).bind fun r8 =>
 if ¬ (r5.2.1 = true) then
 some ((0, (0, ())), (false, ()))
 else if ¬ (r6.2.1 = true) then
 some ((0, (0, ())), (false, ()))
 else if ¬ (r7.2.1 = true) then
 some ((0, (0, ())), (false, ()))
 else if ¬ (r8.2.1 = true) then
 some ((0, (0, ())), (false, ()))
 else some (r8.1, (true, ()))
 else impl_TickAt.l0 k m l_0 t_39 t_40 (IntKind.wrap .i64 (t_41 + 1)) b0_0 b0_1 b1_0 b1_1 (rd T25 t_39 t_41).1 (rd T25 t_39 t_41).2.1 r3.1.1 r3.1.2.1 else none else none
 else (impl_AddRatio k (b0_0, (b0_1, ())) (IntKind.wrap .i64 (-b3_0), (b3_1, ()))).bind fun r9 =>
 (impl_MakeRatio k b2_1 5000).bind fun r10 =>
 (impl_MulRatio k r9.1 r10.1).bind fun r11 =>
 (impl_AddRatio k (b2_0, (1, ())) r11.1).bind fun r12 =>
 if ¬ (r9.2.1 = true) then
 some ((0, (0, ())), (false, ()))
 else if ¬ (r10.2.1 = true) then
 some ((0, (0, ())), (false, ()))
 else if ¬ (r11.2.1 = true) then
 some ((0, (0, ())), (false, ()))
 else if ¬ (r12.2.1 = true) then
 some ((0, (0, ())), (false, ()))
 else some (r12.1, (true, ())) := by kernel_rfl
theorem spec_l1Int_eq (k : Nat) (c_0 : DT199) (list_1 : (List Int)) : spec_l1Int (k + 1) c_0 list_1 =
 (spec_l1Below k c_0 ((List.length list_1 : Nat) : Int)).bind fun r1 =>
 if 0 ≤ r1.1 then
 if r1.1 < ((List.length list_1 : Nat) : Int) then
 some ((rd (.int .i64) list_1 r1.1), r1.2) else none else none := by kernel_rfl
theorem spec_IsOrchestra_eq (k : Nat) (o_0 : DT32) : spec_IsOrchestra (k + 1) o_0 =
 (spec_IsScore k o_0.1).bind fun r1 =>
 if r1 = true then
 (spec_IsMeter k o_0.2.1).bind fun r2 =>
 if r2 = true then
 (spec_IsTempo k o_0.2.2.1).bind fun r3 =>
 if r3 = true then
 (spec_AreMarks k o_0.2.2.2.2.2.1).bind fun r4 =>
 if r4 = true then
 (spec_AreLetters k o_0.2.2.2.2.2.2.1).bind fun r5 =>
 if r5 = true then
 (spec_IsSeating k o_0.2.2.2.1 o_0.1 o_0.2.2.2.2.1).bind fun r6 =>
 if r6 = true then
 (spec_l1In k o_0.2.2.2.2.2.2.2.1 1 9999).bind fun r7 =>
 if r7 = true then
 (spec_l1In k o_0.2.2.2.2.2.2.2.2.1 0 100000).bind fun r8 =>
 some (decide (r8 = true))
 else some false
 else some false
 else some false
 else some false
 else some false
 else some false
 else some false := by kernel_rfl
theorem spec_l8Tune_eq (k : Nat) (c_0 : DT199) (voice_1 : Int) (most_2 : Int) : spec_l8Tune (k + 1) c_0 voice_1 most_2 =
 (spec_l1Below k c_0 most_2).bind fun r1 =>
 spec_l8Tune.l0 k k voice_1 0 r1.1 r1.2.1 r1.2.2.1 r1.2.2.2.1 [] := by kernel_rfl
theorem spec_l8Tune.l0_eq (k m : Nat) (voice_1 : Int) (at_8 : Int) (i_9 : Int) (b0_0 : (List Int)) (b0_1 : Int) (b0_2 : Int) (s1 : (List DT39)) : spec_l8Tune.l0 k (m + 1) voice_1 at_8 i_9 b0_0 b0_1 b0_2 s1 =
 if (0 : Int) < i_9 then
 (spec_l1Below k (b0_0, (b0_1, (b0_2, ()))) 3).bind fun r2 =>
 (spec_l1Below k r2.2 8).bind fun r3 =>
 (spec_l1Once k r3.2 5).bind fun r4 =>
 if r4.1 = true then
 (spec_PutEvent k s1 (at_8, (IntKind.wrap .i64 (6 * (IntKind.wrap .i64 (1 + r2.1))), (IntKind.wrap .i64 (60 + r3.1), (voice_1, ()))))).bind fun r5 =>
 spec_l8Tune.l0 k m voice_1 (IntKind.wrap .i64 ((IntKind.wrap .i64 (at_8 + (IntKind.wrap .i64 (6 * (IntKind.wrap .i64 (1 + r2.1)))))) + 12)) (IntKind.wrap .i64 (i_9 - 1)) r4.2.1 r4.2.2.1 r4.2.2.2.1 r5.1
 else (spec_PutEvent k s1 (at_8, (IntKind.wrap .i64 (6 * (IntKind.wrap .i64 (1 + r2.1))), (IntKind.wrap .i64 (60 + r3.1), (voice_1, ()))))).bind fun r6 =>
 spec_l8Tune.l0 k m voice_1 (IntKind.wrap .i64 (at_8 + (IntKind.wrap .i64 (6 * (IntKind.wrap .i64 (1 + r2.1)))))) (IntKind.wrap .i64 (i_9 - 1)) r4.2.1 r4.2.2.1 r4.2.2.2.1 r6.1
 else some (s1, (b0_0, (b0_1, (b0_2, ())))) := by kernel_rfl
theorem spec_PutEvent_eq (k : Nat) (l_0 : (List DT39)) (e_1 : DT39) : spec_PutEvent (k + 1) l_0 e_1 =
 (spec_l8Put k l_0 e_1).bind fun r1 =>
 (spec_IsScore k r1).bind fun r2 =>
 if ¬ (r2 = true) then
 if (List.length ([] : (List DT39)) + List.length l_0) * 32 ≤ 211106232532992 then
 some ((([] : (List DT39)) ++ l_0), (false, ())) else none
 else some (r1, (true, ())) := by kernel_rfl
theorem spec_l8Event_eq (k : Nat) (c_0 : DT199) : spec_l8Event (k + 1) c_0 =
 (spec_l1Below k c_0 20).bind fun r1 =>
 (spec_l1Below k r1.2 10).bind fun r2 =>
 (spec_l1Below k r2.2 18).bind fun r3 =>
 (spec_l1Below k r3.2 3).bind fun r4 =>
 some ((IntKind.wrap .i64 (6 * r1.1), (IntKind.wrap .i64 (3 * (IntKind.wrap .i64 (1 + r2.1))), (IntKind.wrap .i64 (55 + r3.1), (IntKind.wrap .i64 (1 + r4.1), ())))), r4.2) := by kernel_rfl
theorem spec_l25Mark_eq (k : Nat) (c_0 : DT199) : spec_l25Mark (k + 1) c_0 =
 (spec_l1Below k c_0 5).bind fun r1 =>
 (spec_l1Below k r1.2 4).bind fun r2 =>
 (spec_l1Below k r2.2 4).bind fun r3 =>
 (spec_l1Below k r3.2 5).bind fun r4 =>
 (spec_l1Below k r4.2 3).bind fun r5 =>
 some ((IntKind.wrap .i64 (1 + r1.1), (IntKind.wrap .i64 (1 + r2.1), (r3.1, (r4.1, (IntKind.wrap .i64 (1 + r5.1), ()))))), r5.2) := by kernel_rfl
theorem spec_l29Copy_eq (k : Nat) (l_0 : (List DT43)) : spec_l29Copy (k + 1) l_0 =
 spec_l29Copy.l0 k k l_0 0 [] := by kernel_rfl
theorem spec_l29Copy.l0_eq (k m : Nat) (l_0 : (List DT43)) (i_4 : Int) (s0 : (List DT43)) : spec_l29Copy.l0 k (m + 1) l_0 i_4 s0 =
 if (i_4 : Int) < ((List.length l_0 : Nat) : Int) then
 if 0 ≤ i_4 then
 if i_4 < ((List.length l_0 : Nat) : Int) then
 if (List.length ([] : (List Int)) + List.length (rd T43 l_0 i_4).2.2.2.1) * 8 ≤ 211106232532992 then
 if (List.length s0 + List.length ([((rd T43 l_0 i_4).1, ((rd T43 l_0 i_4).2.1, ((rd T43 l_0 i_4).2.2.1, ((([] : (List Int)) ++ (rd T43 l_0 i_4).2.2.2.1), ()))))] : (List DT43))) * 48 ≤ 211106232532992 then
 spec_l29Copy.l0 k m l_0 (IntKind.wrap .i64 (i_4 + 1)) (s0 ++ ([((rd T43 l_0 i_4).1, ((rd T43 l_0 i_4).2.1, ((rd T43 l_0 i_4).2.2.1, ((([] : (List Int)) ++ (rd T43 l_0 i_4).2.2.2.1), ()))))] : (List DT43))) else none else none else none else none
 else some s0 := by kernel_rfl
theorem spec_StepWrite_eq (k : Nat) (o_0 : DT32) (e_1 : DT39) : spec_StepWrite (k + 1) o_0 e_1 =
 (spec_l33Copy k o_0).bind fun r1 =>
 (spec_PutEvent k o_0.1 e_1).bind fun r2 =>
 (spec_Min k 10000 o_0.2.2.2.2.2.2.2.1).bind fun r3 =>
 (spec_l34Done k o_0 (r2.1, (r1.2.1, (r1.2.2.1, (r1.2.2.2.1, (r1.2.2.2.2.1, (r1.2.2.2.2.2.1, (r1.2.2.2.2.2.2.1, (IntKind.wrap .i64 (r3 + 1), r1.2.2.2.2.2.2.2.2)))))))) (decide (r2.2.1 = true))).bind fun r4 =>
 some (r4.1, (decide (r4.2.1 = true), ())) := by kernel_rfl
theorem spec_StepErase_eq (k : Nat) (o_0 : DT32) (e_1 : DT39) : spec_StepErase (k + 1) o_0 e_1 =
 (spec_l33Copy k o_0).bind fun r1 =>
 (spec_TakeEvent k o_0.1 e_1).bind fun r2 =>
 (spec_Min k 10000 o_0.2.2.2.2.2.2.2.1).bind fun r3 =>
 (spec_l34Done k o_0 (r2.1, (r1.2.1, (r1.2.2.1, (r1.2.2.2.1, (r1.2.2.2.2.1, (r1.2.2.2.2.2.1, (r1.2.2.2.2.2.2.1, (IntKind.wrap .i64 (r3 + 1), r1.2.2.2.2.2.2.2.2)))))))) (decide (r2.2.1 = true))).bind fun r4 =>
 some (r4.1, (decide (r4.2.1 = true), ())) := by kernel_rfl
theorem spec_StepTempo_eq (k : Nat) (o_0 : DT32) (x_1 : DT25) : spec_StepTempo (k + 1) o_0 x_1 =
 (spec_l33Copy k o_0).bind fun r1 =>
 spec_StepTempo.l0 k k 0 o_0.1 o_0.2.1.1 o_0.2.1.2.1 o_0.2.2.1 o_0.2.2.2.1 o_0.2.2.2.2.1 o_0.2.2.2.2.2.1 o_0.2.2.2.2.2.2.1 o_0.2.2.2.2.2.2.2.1 o_0.2.2.2.2.2.2.2.2.1 x_1.1 x_1.2.1 0 0 0 0 r1.2.1.1 r1.2.1.2.1 r1.2.2.2.2.2.2.2.1 r1.2.2.2.2.2.2.2.2.1 r1.1 r1.2.2.1 r1.2.2.2.1 r1.2.2.2.2.1 r1.2.2.2.2.2.1 r1.2.2.2.2.2.2.1 := by kernel_rfl
theorem spec_StepTempo.l0_eq (k m : Nat) (k_7 : Int) (b0_0 : (List DT39)) (b0_1 : Int) (b0_2 : Int) (b0_3 : (List DT25)) (b0_4 : (List DT43)) (b0_5 : (List Int)) (b0_6 : (List DT45)) (b0_7 : (List DT25)) (b0_8 : Int) (b0_9 : Int) (b1_0 : Int) (b1_1 : Int) (b2_1 : Int) (b2_2 : Int) (b2_8 : Int) (b2_9 : Int) (b3_1 : Int) (b3_2 : Int) (b3_8 : Int) (b3_9 : Int) (s4 : (List DT39)) (s5 : (List DT25)) (s6 : (List DT43)) (s7 : (List Int)) (s8 : (List DT45)) (s9 : (List DT25)) : spec_StepTempo.l0 k (m + 1) k_7 b0_0 b0_1 b0_2 b0_3 b0_4 b0_5 b0_6 b0_7 b0_8 b0_9 b1_0 b1_1 b2_1 b2_2 b2_8 b2_9 b3_1 b3_2 b3_8 b3_9 s4 s5 s6 s7 s8 s9 =
 if (k_7 : Int) < ((List.length b0_3 : Nat) : Int) then
 if 0 ≤ k_7 then
 if k_7 < ((List.length b0_3 : Nat) : Int) then
 if LT.lt (α := Int) (rd T25 b0_3 k_7).1 b1_0 then
 spec_StepTempo.l0 k m (IntKind.wrap .i64 (k_7 + 1)) b0_0 b0_1 b0_2 b0_3 b0_4 b0_5 b0_6 b0_7 b0_8 b0_9 b1_0 b1_1 b2_1 b2_2 b2_8 b2_9 b3_1 b3_2 b3_8 b3_9 s4 s5 s6 s7 s8 s9
 else if 0 ≤ k_7 then
 if k_7 ≤ ((List.length b0_3 : Nat) : Int) then
 if (0 : Int) < ((List.length (List.take ((Int.toNat ((List.length b0_3 : Nat) : Int)) - (Int.toNat k_7)) (List.drop (Int.toNat k_7) b0_3)) : Nat) : Int) then
 if 0 ≤ 0 then
 if 0 < ((List.length (List.take ((Int.toNat ((List.length b0_3 : Nat) : Int)) - (Int.toNat k_7)) (List.drop (Int.toNat k_7) b0_3)) : Nat) : Int) then
 if Eq (α := Int) (rd T25 (List.take ((Int.toNat ((List.length b0_3 : Nat) : Int)) - (Int.toNat k_7)) (List.drop (Int.toNat k_7) b0_3)) 0).1 b1_0 then
 if 0 ≤ 1 then
 if 1 ≤ ((List.length (List.take ((Int.toNat ((List.length b0_3 : Nat) : Int)) - (Int.toNat k_7)) (List.drop (Int.toNat k_7) b0_3)) : Nat) : Int) then
 if 0 ≤ k_7 then
 if k_7 ≤ ((List.length b0_3 : Nat) : Int) then
 if (List.length ([] : (List DT25)) + List.length (List.take ((Int.toNat k_7) - (Int.toNat 0)) (List.drop (Int.toNat 0) b0_3))) * 16 ≤ 211106232532992 then
 if (List.length (([] : (List DT25)) ++ (List.take ((Int.toNat k_7) - (Int.toNat 0)) (List.drop (Int.toNat 0) b0_3))) + List.length ([(b1_0, (b1_1, ()))] : (List DT25))) * 16 ≤ 211106232532992 then
 if (List.length ((([] : (List DT25)) ++ (List.take ((Int.toNat k_7) - (Int.toNat 0)) (List.drop (Int.toNat 0) b0_3))) ++ ([(b1_0, (b1_1, ()))] : (List DT25))) + List.length (List.take ((Int.toNat ((List.length (List.take ((Int.toNat ((List.length b0_3 : Nat) : Int)) - (Int.toNat k_7)) (List.drop (Int.toNat k_7) b0_3)) : Nat) : Int)) - (Int.toNat 1)) (List.drop (Int.toNat 1) (List.take ((Int.toNat ((List.length b0_3 : Nat) : Int)) - (Int.toNat k_7)) (List.drop (Int.toNat k_7) b0_3))))) * 16 ≤ 211106232532992 then
 (spec_l34Done k (b0_0, ((b0_1, (b0_2, ())), (b0_3, (b0_4, (b0_5, (b0_6, (b0_7, (b0_8, (b0_9, ()))))))))) (s4, ((b3_1, (b3_2, ())), ((((([] : (List DT25)) ++ (List.take ((Int.toNat k_7) - (Int.toNat 0)) (List.drop (Int.toNat 0) b0_3))) ++ ([(b1_0, (b1_1, ()))] : (List DT25))) ++ (List.take ((Int.toNat ((List.length (List.take ((Int.toNat ((List.length b0_3 : Nat) : Int)) - (Int.toNat k_7)) (List.drop (Int.toNat k_7) b0_3)) : Nat) : Int)) - (Int.toNat 1)) (List.drop (Int.toNat 1) (List.take ((Int.toNat ((List.length b0_3 : Nat) : Int)) - (Int.toNat k_7)) (List.drop (Int.toNat k_7) b0_3))))), (s6, (s7, (s8, (s9, (b3_8, (b3_9, ()))))))))) true).bind fun r2 =>
 some (r2.1, (decide (r2.2.1 = true), ())) else none else none else none else none else none else none else none
 else if 0 ≤ k_7 then
 if k_7 ≤ ((List.length b0_3 : Nat) : Int) then
 if (List.length ([] : (List DT25)) + List.length (List.take ((Int.toNat k_7) - (Int.toNat 0)) (List.drop (Int.toNat 0) b0_3))) * 16 ≤ 211106232532992 then
 if (List.length (([] : (List DT25)) ++ (List.take ((Int.toNat k_7) - (Int.toNat 0)) (List.drop (Int.toNat 0) b0_3))) + List.length ([(b1_0, (b1_1, ()))] : (List DT25))) * 16 ≤ 211106232532992 then
 if (List.length ((([] : (List DT25)) ++ (List.take ((Int.toNat k_7) - (Int.toNat 0)) (List.drop (Int.toNat 0) b0_3))) ++ ([(b1_0, (b1_1, ()))] : (List DT25))) + List.length (List.take ((Int.toNat ((List.length b0_3 : Nat) : Int)) - (Int.toNat k_7)) (List.drop (Int.toNat k_7) b0_3))) * 16 ≤ 211106232532992 then
 (spec_l34Done k (b0_0, ((b0_1, (b0_2, ())), (b0_3, (b0_4, (b0_5, (b0_6, (b0_7, (b0_8, (b0_9, ()))))))))) (s4, ((b3_1, (b3_2, ())), ((((([] : (List DT25)) ++ (List.take ((Int.toNat k_7) - (Int.toNat 0)) (List.drop (Int.toNat 0) b0_3))) ++ ([(b1_0, (b1_1, ()))] : (List DT25))) ++ (List.take ((Int.toNat ((List.length b0_3 : Nat) : Int)) - (Int.toNat k_7)) (List.drop (Int.toNat k_7) b0_3))), (s6, (s7, (s8, (s9, (b3_8, (b3_9, ()))))))))) true).bind fun r3 =>
 some (r3.1, (decide (r3.2.1 = true), ())) else none else none else none else none else none else none else none
 else if 0 ≤ k_7 then
 if k_7 ≤ ((List.length b0_3 : Nat) : Int) then
 if (List.length ([] : (List DT25)) + List.length (List.take ((Int.toNat k_7) - (Int.toNat 0)) (List.drop (Int.toNat 0) b0_3))) * 16 ≤ 211106232532992 then
 if (List.length (([] : (List DT25)) ++ (List.take ((Int.toNat k_7) - (Int.toNat 0)) (List.drop (Int.toNat 0) b0_3))) + List.length ([(b1_0, (b1_1, ()))] : (List DT25))) * 16 ≤ 211106232532992 then
 if (List.length ((([] : (List DT25)) ++ (List.take ((Int.toNat k_7) - (Int.toNat 0)) (List.drop (Int.toNat 0) b0_3))) ++ ([(b1_0, (b1_1, ()))] : (List DT25))) + List.length (List.take ((Int.toNat ((List.length b0_3 : Nat) : Int)) - (Int.toNat k_7)) (List.drop (Int.toNat k_7) b0_3))) * 16 ≤ 211106232532992 then
 (spec_l34Done k (b0_0, ((b0_1, (b0_2, ())), (b0_3, (b0_4, (b0_5, (b0_6, (b0_7, (b0_8, (b0_9, ()))))))))) (s4, ((b3_1, (b3_2, ())), ((((([] : (List DT25)) ++ (List.take ((Int.toNat k_7) - (Int.toNat 0)) (List.drop (Int.toNat 0) b0_3))) ++ ([(b1_0, (b1_1, ()))] : (List DT25))) ++ (List.take ((Int.toNat ((List.length b0_3 : Nat) : Int)) - (Int.toNat k_7)) (List.drop (Int.toNat k_7) b0_3))), (s6, (s7, (s8, (s9, (b3_8, (b3_9, ()))))))))) true).bind fun r4 =>
 some (r4.1, (decide (r4.2.1 = true), ())) else none else none else none else none else none else none else none else none else none
 else if 0 ≤ k_7 then
 if k_7 ≤ ((List.length b0_3 : Nat) : Int) then
 if (0 : Int) < ((List.length (List.take ((Int.toNat ((List.length b0_3 : Nat) : Int)) - (Int.toNat k_7)) (List.drop (Int.toNat k_7) b0_3)) : Nat) : Int) then
 if 0 ≤ 0 then
 if 0 < ((List.length (List.take ((Int.toNat ((List.length b0_3 : Nat) : Int)) - (Int.toNat k_7)) (List.drop (Int.toNat k_7) b0_3)) : Nat) : Int) then
 if Eq (α := Int) (rd T25 (List.take ((Int.toNat ((List.length b0_3 : Nat) : Int)) - (Int.toNat k_7)) (List.drop (Int.toNat k_7) b0_3)) 0).1 b1_0 then
 if 0 ≤ 1 then
 if 1 ≤ ((List.length (List.take ((Int.toNat ((List.length b0_3 : Nat) : Int)) - (Int.toNat k_7)) (List.drop (Int.toNat k_7) b0_3)) : Nat) : Int) then
 if 0 ≤ k_7 then
 if k_7 ≤ ((List.length b0_3 : Nat) : Int) then
 if (List.length ([] : (List DT25)) + List.length (List.take ((Int.toNat k_7) - (Int.toNat 0)) (List.drop (Int.toNat 0) b0_3))) * 16 ≤ 211106232532992 then
 if (List.length (([] : (List DT25)) ++ (List.take ((Int.toNat k_7) - (Int.toNat 0)) (List.drop (Int.toNat 0) b0_3))) + List.length ([(b1_0, (b1_1, ()))] : (List DT25))) * 16 ≤ 211106232532992 then
 if (List.length ((([] : (List DT25)) ++ (List.take ((Int.toNat k_7) - (Int.toNat 0)) (List.drop (Int.toNat 0) b0_3))) ++ ([(b1_0, (b1_1, ()))] : (List DT25))) + List.length (List.take ((Int.toNat ((List.length (List.take ((Int.toNat ((List.length b0_3 : Nat) : Int)) - (Int.toNat k_7)) (List.drop (Int.toNat k_7) b0_3)) : Nat) : Int)) - (Int.toNat 1)) (List.drop (Int.toNat 1) (List.take ((Int.toNat ((List.length b0_3 : Nat) : Int)) - (Int.toNat k_7)) (List.drop (Int.toNat k_7) b0_3))))) * 16 ≤ 211106232532992 then
 (spec_l34Done k (b0_0, ((b0_1, (b0_2, ())), (b0_3, (b0_4, (b0_5, (b0_6, (b0_7, (b0_8, (b0_9, ()))))))))) (s4, ((b3_1, (b3_2, ())), ((((([] : (List DT25)) ++ (List.take ((Int.toNat k_7) - (Int.toNat 0)) (List.drop (Int.toNat 0) b0_3))) ++ ([(b1_0, (b1_1, ()))] : (List DT25))) ++ (List.take ((Int.toNat ((List.length (List.take ((Int.toNat ((List.length b0_3 : Nat) : Int)) - (Int.toNat k_7)) (List.drop (Int.toNat k_7) b0_3)) : Nat) : Int)) - (Int.toNat 1)) (List.drop (Int.toNat 1) (List.take ((Int.toNat ((List.length b0_3 : Nat) : Int)) - (Int.toNat k_7)) (List.drop (Int.toNat k_7) b0_3))))), (s6, (s7, (s8, (s9, (b3_8, (b3_9, ()))))))))) true).bind fun r5 =>
 some (r5.1, (decide (r5.2.1 = true), ())) else none else none else none else none else none else none else none
 else if 0 ≤ k_7 then
 if k_7 ≤ ((List.length b0_3 : Nat) : Int) then
 if (List.length ([] : (List DT25)) + List.length (List.take ((Int.toNat k_7) - (Int.toNat 0)) (List.drop (Int.toNat 0) b0_3))) * 16 ≤ 211106232532992 then
 if (List.length (([] : (List DT25)) ++ (List.take ((Int.toNat k_7) - (Int.toNat 0)) (List.drop (Int.toNat 0) b0_3))) + List.length ([(b1_0, (b1_1, ()))] : (List DT25))) * 16 ≤ 211106232532992 then
 if (List.length ((([] : (List DT25)) ++ (List.take ((Int.toNat k_7) - (Int.toNat 0)) (List.drop (Int.toNat 0) b0_3))) ++ ([(b1_0, (b1_1, ()))] : (List DT25))) + List.length (List.take ((Int.toNat ((List.length b0_3 : Nat) : Int)) - (Int.toNat k_7)) (List.drop (Int.toNat k_7) b0_3))) * 16 ≤ 211106232532992 then
 (spec_l34Done k (b0_0, ((b0_1, (b0_2, ())), (b0_3, (b0_4, (b0_5, (b0_6, (b0_7, (b0_8, (b0_9, ()))))))))) (s4, ((b3_1, (b3_2, ())), ((((([] : (List DT25)) ++ (List.take ((Int.toNat k_7) - (Int.toNat 0)) (List.drop (Int.toNat 0) b0_3))) ++ ([(b1_0, (b1_1, ()))] : (List DT25))) ++ (List.take ((Int.toNat ((List.length b0_3 : Nat) : Int)) - (Int.toNat k_7)) (List.drop (Int.toNat k_7) b0_3))), (s6, (s7, (s8, (s9, (b3_8, (b3_9, ()))))))))) true).bind fun r6 =>
 some (r6.1, (decide (r6.2.1 = true), ())) else none else none else none else none else none else none else none
 else if 0 ≤ k_7 then
 if k_7 ≤ ((List.length b0_3 : Nat) : Int) then
 if (List.length ([] : (List DT25)) + List.length (List.take ((Int.toNat k_7) - (Int.toNat 0)) (List.drop (Int.toNat 0) b0_3))) * 16 ≤ 211106232532992 then
 if (List.length (([] : (List DT25)) ++ (List.take ((Int.toNat k_7) - (Int.toNat 0)) (List.drop (Int.toNat 0) b0_3))) + List.length ([(b1_0, (b1_1, ()))] : (List DT25))) * 16 ≤ 211106232532992 then
 if (List.length ((([] : (List DT25)) ++ (List.take ((Int.toNat k_7) - (Int.toNat 0)) (List.drop (Int.toNat 0) b0_3))) ++ ([(b1_0, (b1_1, ()))] : (List DT25))) + List.length (List.take ((Int.toNat ((List.length b0_3 : Nat) : Int)) - (Int.toNat k_7)) (List.drop (Int.toNat k_7) b0_3))) * 16 ≤ 211106232532992 then
 (spec_l34Done k (b0_0, ((b0_1, (b0_2, ())), (b0_3, (b0_4, (b0_5, (b0_6, (b0_7, (b0_8, (b0_9, ()))))))))) (s4, ((b3_1, (b3_2, ())), ((((([] : (List DT25)) ++ (List.take ((Int.toNat k_7) - (Int.toNat 0)) (List.drop (Int.toNat 0) b0_3))) ++ ([(b1_0, (b1_1, ()))] : (List DT25))) ++ (List.take ((Int.toNat ((List.length b0_3 : Nat) : Int)) - (Int.toNat k_7)) (List.drop (Int.toNat k_7) b0_3))), (s6, (s7, (s8, (s9, (b3_8, (b3_9, ()))))))))) true).bind fun r7 =>
 some (r7.1, (decide (r7.2.1 = true), ())) else none else none else none else none else none else none else none := by kernel_rfl
theorem spec_StepSeat_eq (k : Nat) (o_0 : DT32) (voices_1 : Int) : spec_StepSeat (k + 1) o_0 voices_1 =
 (spec_l33Copy k o_0).bind fun r1 =>
 (spec_SeatPlayers k o_0.2.2.2.1 o_0.1 voices_1).bind fun r2 =>
 (spec_l34Done k o_0 (r1.1, (r1.2.1, (r1.2.2.1, (r1.2.2.2.1, (r2.1, r1.2.2.2.2.2))))) (decide (r2.2.1 = true))).bind fun r3 =>
 some (r3.1, (decide (r3.2.1 = true), ())) := by kernel_rfl
theorem spec_StepLeave_eq (k : Nat) (o_0 : DT32) (id_1 : Int) : spec_StepLeave (k + 1) o_0 id_1 =
 (spec_l33Copy k o_0).bind fun r1 =>
 spec_StepLeave.l0 k k id_1 false 0 o_0.1 o_0.2.1.1 o_0.2.1.2.1 o_0.2.2.1 o_0.2.2.2.1 o_0.2.2.2.2.1 o_0.2.2.2.2.2.1 o_0.2.2.2.2.2.2.1 o_0.2.2.2.2.2.2.2.1 o_0.2.2.2.2.2.2.2.2.1 0 0 0 0 r1.2.1.1 r1.2.1.2.1 r1.2.2.2.2.2.2.2.1 r1.2.2.2.2.2.2.2.2.1 r1.1 r1.2.2.1 [] r1.2.2.2.2.1 r1.2.2.2.2.2.1 r1.2.2.2.2.2.2.1 := by kernel_rfl
theorem spec_StepLeave.l0_eq (k m : Nat) (id_1 : Int) (ok_7 : Bool) (i_8 : Int) (b0_0 : (List DT39)) (b0_1 : Int) (b0_2 : Int) (b0_3 : (List DT25)) (b0_4 : (List DT43)) (b0_5 : (List Int)) (b0_6 : (List DT45)) (b0_7 : (List DT25)) (b0_8 : Int) (b0_9 : Int) (b1_1 : Int) (b1_2 : Int) (b1_8 : Int) (b1_9 : Int) (b2_1 : Int) (b2_2 : Int) (b2_8 : Int) (b2_9 : Int) (s3 : (List DT39)) (s4 : (List DT25)) (s5 : (List DT43)) (s6 : (List Int)) (s7 : (List DT45)) (s8 : (List DT25)) : spec_StepLeave.l0 k (m + 1) id_1 ok_7 i_8 b0_0 b0_1 b0_2 b0_3 b0_4 b0_5 b0_6 b0_7 b0_8 b0_9 b1_1 b1_2 b1_8 b1_9 b2_1 b2_2 b2_8 b2_9 s3 s4 s5 s6 s7 s8 =
 if (i_8 : Int) < ((List.length b0_4 : Nat) : Int) then
 if 0 ≤ i_8 then
 if i_8 < ((List.length b0_4 : Nat) : Int) then
 if Eq (α := Int) (rd T43 b0_4 i_8).1 id_1 then
 spec_StepLeave.l0 k m id_1 true (IntKind.wrap .i64 (i_8 + 1)) b0_0 b0_1 b0_2 b0_3 b0_4 b0_5 b0_6 b0_7 b0_8 b0_9 b1_1 b1_2 b1_8 b1_9 b2_1 b2_2 b2_8 b2_9 s3 s4 s5 s6 s7 s8
 else if 0 ≤ (IntKind.wrap .i64 (i_8 + 1)) then
 if (IntKind.wrap .i64 (i_8 + 1)) ≤ ((List.length b0_4 : Nat) : Int) then
 if 0 ≤ i_8 then
 if i_8 ≤ (IntKind.wrap .i64 (i_8 + 1)) then
 (spec_l29Copy k (List.take ((Int.toNat (IntKind.wrap .i64 (i_8 + 1))) - (Int.toNat i_8)) (List.drop (Int.toNat i_8) b0_4))).bind fun r2 =>
 if 0 ≤ 0 then
 if 0 < ((List.length r2 : Nat) : Int) then
 if (List.length s5 + List.length ([(rd T43 r2 0)] : (List DT43))) * 48 ≤ 211106232532992 then
 spec_StepLeave.l0 k m id_1 (decide (ok_7 = true)) (IntKind.wrap .i64 (i_8 + 1)) b0_0 b0_1 b0_2 b0_3 b0_4 b0_5 b0_6 b0_7 b0_8 b0_9 b1_1 b1_2 b1_8 b1_9 b2_1 b2_2 b2_8 b2_9 s3 s4 (s5 ++ ([(rd T43 r2 0)] : (List DT43))) s6 s7 s8 else none else none else none else none else none else none else none else none else none
 else spec_StepLeave.l1 k k id_1 (decide (ok_7 = true)) i_8 0 b0_0 b0_1 b0_2 b0_3 b0_4 b0_5 b0_6 b0_7 b0_8 b0_9 b1_1 b1_2 b1_8 b1_9 b2_1 b2_2 b2_8 b2_9 s3 s4 s5 s6 s7 s8 := by kernel_rfl
theorem spec_StepLeave.l1_eq (k m : Nat) (id_1 : Int) (ok_7 : Bool) (i_8 : Int) (v_9 : Int) (b0_0 : (List DT39)) (b0_1 : Int) (b0_2 : Int) (b0_3 : (List DT25)) (b0_4 : (List DT43)) (b0_5 : (List Int)) (b0_6 : (List DT45)) (b0_7 : (List DT25)) (b0_8 : Int) (b0_9 : Int) (b1_1 : Int) (b1_2 : Int) (b1_8 : Int) (b1_9 : Int) (b2_1 : Int) (b2_2 : Int) (b2_8 : Int) (b2_9 : Int) (s3 : (List DT39)) (s4 : (List DT25)) (s5 : (List DT43)) (s6 : (List Int)) (s7 : (List DT45)) (s8 : (List DT25)) : spec_StepLeave.l1 k (m + 1) id_1 ok_7 i_8 v_9 b0_0 b0_1 b0_2 b0_3 b0_4 b0_5 b0_6 b0_7 b0_8 b0_9 b1_1 b1_2 b1_8 b1_9 b2_1 b2_2 b2_8 b2_9 s3 s4 s5 s6 s7 s8 =
 if (v_9 : Int) < ((List.length b0_5 : Nat) : Int) then
 if ok_7 = true then
 if 0 ≤ v_9 then
 if v_9 < ((List.length b0_5 : Nat) : Int) then
 if Eq (α := Int) (rd (.int .i64) b0_5 v_9) id_1 then
 (spec_Substitute k b0_4 b0_0 b0_5 (IntKind.wrap .i64 (v_9 + 1))).bind fun r3 =>
 if 0 ≤ v_9 then
 if v_9 < ((List.length s6 : Nat) : Int) then
 spec_StepLeave.l1 k m id_1 (decide (r3.2.1 = true)) i_8 (IntKind.wrap .i64 (v_9 + 1)) b0_0 b0_1 b0_2 b0_3 b0_4 b0_5 b0_6 b0_7 b0_8 b0_9 b1_1 b1_2 b1_8 b1_9 b2_1 b2_2 b2_8 b2_9 s3 s4 s5 (List.set s6 (Int.toNat v_9) r3.1) s7 s8 else none else none
 else spec_StepLeave.l1 k m id_1 (decide (ok_7 = true)) i_8 (IntKind.wrap .i64 (v_9 + 1)) b0_0 b0_1 b0_2 b0_3 b0_4 b0_5 b0_6 b0_7 b0_8 b0_9 b1_1 b1_2 b1_8 b1_9 b2_1 b2_2 b2_8 b2_9 s3 s4 s5 s6 s7 s8 else none else none
 else (spec_l34Done k (b0_0, ((b0_1, (b0_2, ())), (b0_3, (b0_4, (b0_5, (b0_6, (b0_7, (b0_8, (b0_9, ()))))))))) (s3, ((b2_1, (b2_2, ())), (s4, (s5, (s6, (s7, (s8, (b2_8, (b2_9, ()))))))))) (decide (ok_7 = true))).bind fun r4 =>
 some (r4.1, (decide (r4.2.1 = true), ()))
 else (spec_l34Done k (b0_0, ((b0_1, (b0_2, ())), (b0_3, (b0_4, (b0_5, (b0_6, (b0_7, (b0_8, (b0_9, ()))))))))) (s3, ((b2_1, (b2_2, ())), (s4, (s5, (s6, (s7, (s8, (b2_8, (b2_9, ()))))))))) (decide (ok_7 = true))).bind fun r5 =>
 some (r5.1, (decide (r5.2.1 = true), ())) := by kernel_rfl
theorem spec_StepJoin_eq (k : Nat) (o_0 : DT32) (p_1 : DT43) : spec_StepJoin (k + 1) o_0 p_1 =
 (spec_l33Copy k o_0).bind fun r1 =>
 spec_StepJoin.l0 k k 0 o_0.1 o_0.2.1.1 o_0.2.1.2.1 o_0.2.2.1 o_0.2.2.2.1 o_0.2.2.2.2.1 o_0.2.2.2.2.2.1 o_0.2.2.2.2.2.2.1 o_0.2.2.2.2.2.2.2.1 o_0.2.2.2.2.2.2.2.2.1 p_1.1 p_1.2.1 p_1.2.2.1 p_1.2.2.2.1 0 0 0 0 r1.2.1.1 r1.2.1.2.1 r1.2.2.2.2.2.2.2.1 r1.2.2.2.2.2.2.2.2.1 r1.1 r1.2.2.1 r1.2.2.2.1 r1.2.2.2.2.1 r1.2.2.2.2.2.1 r1.2.2.2.2.2.2.1 := by kernel_rfl
theorem spec_StepJoin.l0_eq (k m : Nat) (k_7 : Int) (b0_0 : (List DT39)) (b0_1 : Int) (b0_2 : Int) (b0_3 : (List DT25)) (b0_4 : (List DT43)) (b0_5 : (List Int)) (b0_6 : (List DT45)) (b0_7 : (List DT25)) (b0_8 : Int) (b0_9 : Int) (b1_0 : Int) (b1_1 : Int) (b1_2 : Int) (b1_3 : (List Int)) (b2_1 : Int) (b2_2 : Int) (b2_8 : Int) (b2_9 : Int) (b3_1 : Int) (b3_2 : Int) (b3_8 : Int) (b3_9 : Int) (s4 : (List DT39)) (s5 : (List DT25)) (s6 : (List DT43)) (s7 : (List Int)) (s8 : (List DT45)) (s9 : (List DT25)) : spec_StepJoin.l0 k (m + 1) k_7 b0_0 b0_1 b0_2 b0_3 b0_4 b0_5 b0_6 b0_7 b0_8 b0_9 b1_0 b1_1 b1_2 b1_3 b2_1 b2_2 b2_8 b2_9 b3_1 b3_2 b3_8 b3_9 s4 s5 s6 s7 s8 s9 =
 if (k_7 : Int) < ((List.length b0_4 : Nat) : Int) then
 if 0 ≤ k_7 then
 if k_7 < ((List.length b0_4 : Nat) : Int) then
 if LT.lt (α := Int) (rd T43 b0_4 k_7).1 b1_0 then
 spec_StepJoin.l0 k m (IntKind.wrap .i64 (k_7 + 1)) b0_0 b0_1 b0_2 b0_3 b0_4 b0_5 b0_6 b0_7 b0_8 b0_9 b1_0 b1_1 b1_2 b1_3 b2_1 b2_2 b2_8 b2_9 b3_1 b3_2 b3_8 b3_9 s4 s5 s6 s7 s8 s9
 else if 0 ≤ k_7 then
 if k_7 ≤ ((List.length b0_4 : Nat) : Int) then
 (spec_l29Copy k (List.take ((Int.toNat k_7) - (Int.toNat 0)) (List.drop (Int.toNat 0) b0_4))).bind fun r2 =>
 (spec_l29Copy k ([(b1_0, (b1_1, (b1_2, (b1_3, ()))))])).bind fun r3 =>
 if (List.length r2 + List.length r3) * 48 ≤ 211106232532992 then
 if 0 ≤ k_7 then
 if k_7 ≤ ((List.length b0_4 : Nat) : Int) then
 (spec_l29Copy k (List.take ((Int.toNat ((List.length b0_4 : Nat) : Int)) - (Int.toNat k_7)) (List.drop (Int.toNat k_7) b0_4))).bind fun r4 =>
 if (List.length (r2 ++ r3) + List.length r4) * 48 ≤ 211106232532992 then
 (spec_l34Done k (b0_0, ((b0_1, (b0_2, ())), (b0_3, (b0_4, (b0_5, (b0_6, (b0_7, (b0_8, (b0_9, ()))))))))) (s4, ((b3_1, (b3_2, ())), (s5, (((r2 ++ r3) ++ r4), (s7, (s8, (s9, (b3_8, (b3_9, ()))))))))) true).bind fun r5 =>
 some (r5.1, (decide (r5.2.1 = true), ())) else none else none else none else none else none else none else none else none
 else if 0 ≤ k_7 then
 if k_7 ≤ ((List.length b0_4 : Nat) : Int) then
 (spec_l29Copy k (List.take ((Int.toNat k_7) - (Int.toNat 0)) (List.drop (Int.toNat 0) b0_4))).bind fun r6 =>
 (spec_l29Copy k ([(b1_0, (b1_1, (b1_2, (b1_3, ()))))])).bind fun r7 =>
 if (List.length r6 + List.length r7) * 48 ≤ 211106232532992 then
 if 0 ≤ k_7 then
 if k_7 ≤ ((List.length b0_4 : Nat) : Int) then
 (spec_l29Copy k (List.take ((Int.toNat ((List.length b0_4 : Nat) : Int)) - (Int.toNat k_7)) (List.drop (Int.toNat k_7) b0_4))).bind fun r8 =>
 if (List.length (r6 ++ r7) + List.length r8) * 48 ≤ 211106232532992 then
 (spec_l34Done k (b0_0, ((b0_1, (b0_2, ())), (b0_3, (b0_4, (b0_5, (b0_6, (b0_7, (b0_8, (b0_9, ()))))))))) (s4, ((b3_1, (b3_2, ())), (s5, (((r6 ++ r7) ++ r8), (s7, (s8, (s9, (b3_8, (b3_9, ()))))))))) true).bind fun r9 =>
 some (r9.1, (decide (r9.2.1 = true), ())) else none else none else none else none else none else none := by kernel_rfl
theorem spec_StepMark_eq (k : Nat) (o_0 : DT32) (bar_1 : Int) (kind_2 : Int) (value_3 : Int) (who_4 : Int) : spec_StepMark (k + 1) o_0 bar_1 kind_2 value_3 who_4 =
 (spec_l33Copy k o_0).bind fun r1 =>
 (spec_SetMark k o_0.2.2.2.2.2.1 (bar_1, (kind_2, (value_3, (o_0.2.2.2.2.2.2.2.2.1, (who_4, ())))))).bind fun r2 =>
 (spec_EqualMarks k r2 o_0.2.2.2.2.2.1).bind fun r3 =>
 (spec_l34Done k o_0 (r1.1, (r1.2.1, (r1.2.2.1, (r1.2.2.2.1, (r1.2.2.2.2.1, (r2, r1.2.2.2.2.2.2)))))) (decide (¬ (r3 = true)))).bind fun r4 =>
 some (r4.1, (decide (r4.2.1 = true), ())) := by kernel_rfl
theorem spec_StepTick_eq (k : Nat) (o_0 : DT32) (n_1 : Int) : spec_StepTick (k + 1) o_0 n_1 =
 (spec_l33Copy k o_0).bind fun r1 =>
 (spec_l1In k n_1 1 1000).bind fun r2 =>
 if ¬ (r2 = true) then
 some (r1, (false, ()))
 else (spec_l1In k o_0.2.2.2.2.2.2.2.2.1 0 100000).bind fun r3 =>
 if ¬ (r3 = true) then
 some (r1, (false, ()))
 else (spec_l34Done k o_0 (r1.1, (r1.2.1, (r1.2.2.1, (r1.2.2.2.1, (r1.2.2.2.2.1, (r1.2.2.2.2.2.1, (r1.2.2.2.2.2.2.1, (r1.2.2.2.2.2.2.2.1, (IntKind.wrap .i64 (o_0.2.2.2.2.2.2.2.2.1 + n_1), ()))))))))) true).bind fun r4 =>
 some (r4.1, (decide (r4.2.1 = true), ())) := by kernel_rfl
theorem impl_CanPlay_eq (k : Nat) (p_0 : DT43) (l_1 : (List DT39)) (voice_2 : Int) : impl_CanPlay (k + 1) p_0 l_1 voice_2 =
 (slices_Contains___int_int k p_0.2.2.2.1 voice_2).bind fun r1 =>
 if r1 = true then
 (impl_IsScore k l_1).bind fun r2 =>
 if r2 = true then
 (impl_VoiceOf k l_1 voice_2).bind fun r3 =>
 (impl_FitsRange k r3 p_0.2.1 p_0.2.2.1).bind fun r4 =>
 some (decide (r4 = true))
 else some false
 else some false := by kernel_rfl
theorem impl_MakeRatio_eq (k : Nat) (n_0 : Int) (d_1 : Int) : impl_MakeRatio (k + 1) n_0 d_1 =
 (impl_InRange k n_0 (-1000000000000000) 1000000000000000).bind fun r1 =>
 if ¬ (r1 = true) then
 some ((0, (0, ())), (false, ()))
 else (impl_InRange k d_1 (-1000000000000000) 1000000000000000).bind fun r2 =>
 if ¬ (r2 = true) then
 some ((0, (0, ())), (false, ()))
 else (impl_lowest k n_0 d_1).bind fun r3 =>
 some (r3.1, (decide (r3.2.1 = true), ())) := by kernel_rfl
theorem impl_AddRatio_eq (k : Nat) (a_0 : DT25) (b_1 : DT25) : impl_AddRatio (k + 1) a_0 b_1 =
 (impl_IsRatio k a_0).bind fun r1 =>
 if ¬ (r1 = true) then
 some ((0, (0, ())), (false, ()))
 else (impl_IsRatio k b_1).bind fun r2 =>
 if ¬ (r2 = true) then
 some ((0, (0, ())), (false, ()))
 else (impl_lowest k (IntKind.wrap .i64 ((IntKind.wrap .i64 (a_0.1 * b_1.2.1)) + (IntKind.wrap .i64 (b_1.1 * a_0.2.1)))) (IntKind.wrap .i64 (a_0.2.1 * b_1.2.1))).bind fun r3 =>
 some (r3.1, (decide (r3.2.1 = true), ())) := by kernel_rfl
theorem impl_IsRatio_eq (k : Nat) (r_0 : DT25) : impl_IsRatio (k + 1) r_0 =
 (impl_InRange k r_0.2.1 1 1000000).bind fun r1 =>
 if r1 = true then
 (impl_InRange k r_0.1 (-1000000000) 1000000000).bind fun r2 =>
 if r2 = true then
 (impl_divisor k (max r_0.1 (IntKind.wrap .i64 (-r_0.1)) : Int) r_0.2.1).bind fun r3 =>
 some (decide ((r3 : Int) = 1))
 else some false
 else some false := by kernel_rfl
theorem impl_LessRatio_eq (k : Nat) (a_0 : DT25) (b_1 : DT25) : impl_LessRatio (k + 1) a_0 b_1 =
 (impl_IsRatio k a_0).bind fun r1 =>
 if r1 = true then
 (impl_IsRatio k b_1).bind fun r2 =>
 if r2 = true then
 some (decide (((IntKind.wrap .i64 (a_0.1 * b_1.2.1)) : Int) < (IntKind.wrap .i64 (b_1.1 * a_0.2.1))))
 else some false
 else some false := by kernel_rfl
theorem impl_MulRatio_eq (k : Nat) (a_0 : DT25) (b_1 : DT25) : impl_MulRatio (k + 1) a_0 b_1 =
 (impl_IsRatio k a_0).bind fun r1 =>
 if ¬ (r1 = true) then
 some ((0, (0, ())), (false, ()))
 else (impl_IsRatio k b_1).bind fun r2 =>
 if ¬ (r2 = true) then
 some ((0, (0, ())), (false, ()))
 else (impl_lowest k (IntKind.wrap .i64 (a_0.1 * b_1.1)) (IntKind.wrap .i64 (a_0.2.1 * b_1.2.1))).bind fun r3 =>
 some (r3.1, (decide (r3.2.1 = true), ())) := by kernel_rfl
theorem spec_IsScore_eq (k : Nat) (l_0 : (List DT39)) : spec_IsScore (k + 1) l_0 =
 spec_IsScore.l0 k k l_0 0 := by kernel_rfl
theorem spec_IsScore.l0_eq (k m : Nat) (l_0 : (List DT39)) (i_3 : Int) : spec_IsScore.l0 k (m + 1) l_0 i_3 =
 if (i_3 : Int) < ((List.length l_0 : Nat) : Int) then
 if 0 ≤ i_3 then
 if i_3 < ((List.length l_0 : Nat) : Int) then
 (spec_l8Ok k (rd T39 l_0 i_3)).bind fun r1 =>
 if ¬ (r1 = true) then
 some false
 else if (0 : Int) < i_3 then
 if 0 ≤ (IntKind.wrap .i64 (i_3 - 1)) then
 if (IntKind.wrap .i64 (i_3 - 1)) < ((List.length l_0 : Nat) : Int) then
 if 0 ≤ i_3 then
 if i_3 < ((List.length l_0 : Nat) : Int) then
 (spec_l8Before k (rd T39 l_0 (IntKind.wrap .i64 (i_3 - 1))) (rd T39 l_0 i_3)).bind fun r2 =>
 if ¬ (r2 = true) then
 some false
 else spec_IsScore.l0 k m l_0 (IntKind.wrap .i64 (i_3 + 1)) else none else none else none else none
 else spec_IsScore.l0 k m l_0 (IntKind.wrap .i64 (i_3 + 1)) else none else none
 else some (decide ((((List.length l_0 : Nat) : Int) : Int) ≤ 40)) := by kernel_rfl
theorem spec_IsMeter_eq (k : Nat) (m_0 : DT25) : spec_IsMeter (k + 1) m_0 =
 (spec_l1In k m_0.1 1 12).bind fun r1 =>
 if r1 = true then
 if (m_0.2.1 : Int) = 1 then
 some true
 else if (m_0.2.1 : Int) = 2 then
 some true
 else if (m_0.2.1 : Int) = 4 then
 some true
 else some (decide ((m_0.2.1 : Int) = 8))
 else some false := by kernel_rfl
theorem spec_IsTempo_eq (k : Nat) (l_0 : (List DT25)) : spec_IsTempo (k + 1) l_0 =
 spec_IsTempo.l0 k k l_0 0 := by kernel_rfl
theorem spec_IsTempo.l0_eq (k m : Nat) (l_0 : (List DT25)) (i_3 : Int) : spec_IsTempo.l0 k (m + 1) l_0 i_3 =
 if (i_3 : Int) < ((List.length l_0 : Nat) : Int) then
 if 0 ≤ i_3 then
 if i_3 < ((List.length l_0 : Nat) : Int) then
 (spec_l1In k (rd T25 l_0 i_3).2.1 20 300).bind fun r1 =>
 if ¬ (r1 = true) then
 some false
 else if 0 ≤ i_3 then
 if i_3 < ((List.length l_0 : Nat) : Int) then
 (spec_l1In k (rd T25 l_0 i_3).1 0 2000).bind fun r2 =>
 if ¬ (r2 = true) then
 some false
 else if (i_3 : Int) = 0 then
 if 0 ≤ i_3 then
 if i_3 < ((List.length l_0 : Nat) : Int) then
 if Ne (α := Int) (rd T25 l_0 i_3).1 0 then
 some false
 else if (0 : Int) < i_3 then
 if 0 ≤ (IntKind.wrap .i64 (i_3 - 1)) then
 if (IntKind.wrap .i64 (i_3 - 1)) < ((List.length l_0 : Nat) : Int) then
 if 0 ≤ i_3 then
 if i_3 < ((List.length l_0 : Nat) : Int) then
 if LE.le (α := Int) (rd T25 l_0 i_3).1 (rd T25 l_0 (IntKind.wrap .i64 (i_3 - 1))).1 then
 some false
 else spec_IsTempo.l0 k m l_0 (IntKind.wrap .i64 (i_3 + 1)) else none else none else none else none
 else spec_IsTempo.l0 k m l_0 (IntKind.wrap .i64 (i_3 + 1)) else none else none
 else if (0 : Int) < i_3 then
 if 0 ≤ (IntKind.wrap .i64 (i_3 - 1)) then
 if (IntKind.wrap .i64 (i_3 - 1)) < ((List.length l_0 : Nat) : Int) then
 if 0 ≤ i_3 then
 if i_3 < ((List.length l_0 : Nat) : Int) then
 if LE.le (α := Int) (rd T25 l_0 i_3).1 (rd T25 l_0 (IntKind.wrap .i64 (i_3 - 1))).1 then
 some false
 else spec_IsTempo.l0 k m l_0 (IntKind.wrap .i64 (i_3 + 1)) else none else none else none else none
 else spec_IsTempo.l0 k m l_0 (IntKind.wrap .i64 (i_3 + 1)) else none else none else none else none
 else (spec_l1In k ((List.length l_0 : Nat) : Int) 1 8).bind fun r3 =>
 some (decide (r3 = true)) := by kernel_rfl
theorem spec_AreMarks_eq (k : Nat) (l_0 : (List DT45)) : spec_AreMarks (k + 1) l_0 =
 spec_AreMarks.l0 k k l_0 0 := by kernel_rfl
theorem spec_AreMarks.l0_eq (k m : Nat) (l_0 : (List DT45)) (i_3 : Int) : spec_AreMarks.l0 k (m + 1) l_0 i_3 =
 if (i_3 : Int) < ((List.length l_0 : Nat) : Int) then
 if 0 ≤ i_3 then
 if i_3 < ((List.length l_0 : Nat) : Int) then
 (spec_l1In k (rd T45 l_0 i_3).1 1 100).bind fun r1 =>
 if ¬ (r1 = true) then
 some false
 else (spec_l1In k (rd T45 l_0 i_3).2.1 1 4).bind fun r2 =>
 if ¬ (r2 = true) then
 some false
 else (spec_l1In k (rd T45 l_0 i_3).2.2.1 0 9).bind fun r3 =>
 if ¬ (r3 = true) then
 some false
 else (spec_l1In k (rd T45 l_0 i_3).2.2.2.1 0 100000).bind fun r4 =>
 if ¬ (r4 = true) then
 some false
 else (spec_l1In k (rd T45 l_0 i_3).2.2.2.2.1 1 99).bind fun r5 =>
 if ¬ (r5 = true) then
 some false
 else if (0 : Int) < i_3 then
 if 0 ≤ (IntKind.wrap .i64 (i_3 - 1)) then
 if (IntKind.wrap .i64 (i_3 - 1)) < ((List.length l_0 : Nat) : Int) then
 (spec_l25Before k (rd T45 l_0 (IntKind.wrap .i64 (i_3 - 1))) (rd T45 l_0 i_3)).bind fun r6 =>
 if ¬ (r6 = true) then
 some false
 else spec_AreMarks.l0 k m l_0 (IntKind.wrap .i64 (i_3 + 1)) else none else none
 else spec_AreMarks.l0 k m l_0 (IntKind.wrap .i64 (i_3 + 1)) else none else none
 else some (decide ((((List.length l_0 : Nat) : Int) : Int) ≤ 30)) := by kernel_rfl
theorem spec_AreLetters_eq (k : Nat) (l_0 : (List DT25)) : spec_AreLetters (k + 1) l_0 =
 spec_AreLetters.l0 k k l_0 0 := by kernel_rfl
theorem spec_AreLetters.l0_eq (k m : Nat) (l_0 : (List DT25)) (i_3 : Int) : spec_AreLetters.l0 k (m + 1) l_0 i_3 =
 if (i_3 : Int) < ((List.length l_0 : Nat) : Int) then
 if 0 ≤ i_3 then
 if i_3 < ((List.length l_0 : Nat) : Int) then
 if Ne (α := Int) (rd T25 l_0 i_3).1 i_3 then
 some false
 else if 0 ≤ i_3 then
 if i_3 < ((List.length l_0 : Nat) : Int) then
 (spec_l1In k (rd T25 l_0 i_3).2.1 1 500).bind fun r1 =>
 if ¬ (r1 = true) then
 some false
 else if (0 : Int) < i_3 then
 if 0 ≤ (IntKind.wrap .i64 (i_3 - 1)) then
 if (IntKind.wrap .i64 (i_3 - 1)) < ((List.length l_0 : Nat) : Int) then
 if 0 ≤ i_3 then
 if i_3 < ((List.length l_0 : Nat) : Int) then
 if LE.le (α := Int) (rd T25 l_0 i_3).2.1 (rd T25 l_0 (IntKind.wrap .i64 (i_3 - 1))).2.1 then
 some false
 else spec_AreLetters.l0 k m l_0 (IntKind.wrap .i64 (i_3 + 1)) else none else none else none else none
 else spec_AreLetters.l0 k m l_0 (IntKind.wrap .i64 (i_3 + 1)) else none else none else none else none
 else some (decide ((((List.length l_0 : Nat) : Int) : Int) ≤ 26)) := by kernel_rfl
theorem spec_IsSeating_eq (k : Nat) (l_0 : (List DT43)) (score_1 : (List DT39)) (seats_2 : (List Int)) : spec_IsSeating (k + 1) l_0 score_1 seats_2 =
 spec_IsSeating.l0 k k l_0 score_1 seats_2 0 := by kernel_rfl
theorem spec_IsSeating.l0_eq (k m : Nat) (l_0 : (List DT43)) (score_1 : (List DT39)) (seats_2 : (List Int)) (i_7 : Int) : spec_IsSeating.l0 k (m + 1) l_0 score_1 seats_2 i_7 =
 if (i_7 : Int) < ((List.length seats_2 : Nat) : Int) then
 spec_IsSeating.l1 k k m l_0 score_1 seats_2 i_7 false 0
 else (spec_ArePlayers k l_0).bind fun r1 =>
 if r1 = true then
 (spec_IsScore k score_1).bind fun r2 =>
 if r2 = true then
 some (decide ((((List.length seats_2 : Nat) : Int) : Int) ≤ 4))
 else some false
 else some false := by kernel_rfl
theorem spec_IsSeating.l1_eq (k m m1 : Nat) (l_0 : (List DT43)) (score_1 : (List DT39)) (seats_2 : (List Int)) (i_7 : Int) (good_8 : Bool) (k_9 : Int) : spec_IsSeating.l1 k (m + 1) m1 l_0 score_1 seats_2 i_7 good_8 k_9 =
 if (k_9 : Int) < ((List.length l_0 : Nat) : Int) then
 if good_8 = true then
 spec_IsSeating.l1 k m m1 l_0 score_1 seats_2 i_7 true (IntKind.wrap .i64 (k_9 + 1))
 else if 0 ≤ k_9 then
 if k_9 < ((List.length l_0 : Nat) : Int) then
 if 0 ≤ i_7 then
 if i_7 < ((List.length seats_2 : Nat) : Int) then
 if Eq (α := Int) (rd T43 l_0 k_9).1 (rd (.int .i64) seats_2 i_7) then
 if 0 ≤ k_9 then
 if k_9 < ((List.length l_0 : Nat) : Int) then
 (spec_CanPlay k (rd T43 l_0 k_9) score_1 (IntKind.wrap .i64 (i_7 + 1))).bind fun r3 =>
 spec_IsSeating.l1 k m m1 l_0 score_1 seats_2 i_7 (decide (r3 = true)) (IntKind.wrap .i64 (k_9 + 1)) else none else none
 else spec_IsSeating.l1 k m m1 l_0 score_1 seats_2 i_7 false (IntKind.wrap .i64 (k_9 + 1)) else none else none else none else none
 else if ¬ (good_8 = true) then
 some false
 else if 0 ≤ i_7 then
 if i_7 ≤ ((List.length seats_2 : Nat) : Int) then
 if 0 ≤ i_7 then
 if i_7 < ((List.length seats_2 : Nat) : Int) then
 (spec_l27Has k (List.take ((Int.toNat i_7) - (Int.toNat 0)) (List.drop (Int.toNat 0) seats_2)) (rd (.int .i64) seats_2 i_7)).bind fun r4 =>
 if r4 = true then
 some false
 else spec_IsSeating.l0 k m1 l_0 score_1 seats_2 (IntKind.wrap .i64 (i_7 + 1)) else none else none else none else none := by kernel_rfl
theorem spec_l1In_eq (k : Nat) (x_0 : Int) (least_1 : Int) (most_2 : Int) : spec_l1In (k + 1) x_0 least_1 most_2 =
 if (least_1 : Int) ≤ x_0 then
 some (decide ((x_0 : Int) ≤ most_2))
 else some false := by kernel_rfl
theorem spec_l1Once_eq (k : Nat) (c_0 : DT199) (n_1 : Int) : spec_l1Once (k + 1) c_0 n_1 =
 (spec_l1Below k c_0 n_1).bind fun r1 =>
 some (decide ((r1.1 : Int) = 0), r1.2) := by kernel_rfl
theorem spec_l8Put_eq (k : Nat) (l_0 : (List DT39)) (e_1 : DT39) : spec_l8Put (k + 1) l_0 e_1 =
 spec_l8Put.l0 k k l_0 0 e_1.1 e_1.2.1 e_1.2.2.1 e_1.2.2.2.1 := by kernel_rfl
theorem spec_l8Put.l0_eq (k m : Nat) (l_0 : (List DT39)) (k_5 : Int) (b0_0 : Int) (b0_1 : Int) (b0_2 : Int) (b0_3 : Int) : spec_l8Put.l0 k (m + 1) l_0 k_5 b0_0 b0_1 b0_2 b0_3 =
 if (k_5 : Int) < ((List.length l_0 : Nat) : Int) then
 if 0 ≤ k_5 then
 if k_5 < ((List.length l_0 : Nat) : Int) then
 (spec_l8Before k (rd T39 l_0 k_5) (b0_0, (b0_1, (b0_2, (b0_3, ()))))).bind fun r1 =>
 if r1 = true then
 spec_l8Put.l0 k m l_0 (IntKind.wrap .i64 (k_5 + 1)) b0_0 b0_1 b0_2 b0_3
 else if 0 ≤ k_5 then
 if k_5 ≤ ((List.length l_0 : Nat) : Int) then
 if (List.length ([] : (List DT39)) + List.length (List.take ((Int.toNat k_5) - (Int.toNat 0)) (List.drop (Int.toNat 0) l_0))) * 32 ≤ 211106232532992 then
 if (List.length (([] : (List DT39)) ++ (List.take ((Int.toNat k_5) - (Int.toNat 0)) (List.drop (Int.toNat 0) l_0))) + List.length ([(b0_0, (b0_1, (b0_2, (b0_3, ()))))] : (List DT39))) * 32 ≤ 211106232532992 then
 if 0 ≤ k_5 then
 if k_5 ≤ ((List.length l_0 : Nat) : Int) then
 if (List.length ((([] : (List DT39)) ++ (List.take ((Int.toNat k_5) - (Int.toNat 0)) (List.drop (Int.toNat 0) l_0))) ++ ([(b0_0, (b0_1, (b0_2, (b0_3, ()))))] : (List DT39))) + List.length (List.take ((Int.toNat ((List.length l_0 : Nat) : Int)) - (Int.toNat k_5)) (List.drop (Int.toNat k_5) l_0))) * 32 ≤ 211106232532992 then
 some (((([] : (List DT39)) ++ (List.take ((Int.toNat k_5) - (Int.toNat 0)) (List.drop (Int.toNat 0) l_0))) ++ ([(b0_0, (b0_1, (b0_2, (b0_3, ()))))] : (List DT39))) ++ (List.take ((Int.toNat ((List.length l_0 : Nat) : Int)) - (Int.toNat k_5)) (List.drop (Int.toNat k_5) l_0))) else none else none else none else none else none else none else none else none else none
 else if 0 ≤ k_5 then
 if k_5 ≤ ((List.length l_0 : Nat) : Int) then
 if (List.length ([] : (List DT39)) + List.length (List.take ((Int.toNat k_5) - (Int.toNat 0)) (List.drop (Int.toNat 0) l_0))) * 32 ≤ 211106232532992 then
 if (List.length (([] : (List DT39)) ++ (List.take ((Int.toNat k_5) - (Int.toNat 0)) (List.drop (Int.toNat 0) l_0))) + List.length ([(b0_0, (b0_1, (b0_2, (b0_3, ()))))] : (List DT39))) * 32 ≤ 211106232532992 then
 if 0 ≤ k_5 then
 if k_5 ≤ ((List.length l_0 : Nat) : Int) then
 if (List.length ((([] : (List DT39)) ++ (List.take ((Int.toNat k_5) - (Int.toNat 0)) (List.drop (Int.toNat 0) l_0))) ++ ([(b0_0, (b0_1, (b0_2, (b0_3, ()))))] : (List DT39))) + List.length (List.take ((Int.toNat ((List.length l_0 : Nat) : Int)) - (Int.toNat k_5)) (List.drop (Int.toNat k_5) l_0))) * 32 ≤ 211106232532992 then
 some (((([] : (List DT39)) ++ (List.take ((Int.toNat k_5) - (Int.toNat 0)) (List.drop (Int.toNat 0) l_0))) ++ ([(b0_0, (b0_1, (b0_2, (b0_3, ()))))] : (List DT39))) ++ (List.take ((Int.toNat ((List.length l_0 : Nat) : Int)) - (Int.toNat k_5)) (List.drop (Int.toNat k_5) l_0))) else none else none else none else none else none else none else none := by kernel_rfl
theorem spec_Min_eq (k : Nat) (a_0 : Int) (b_1 : Int) : spec_Min (k + 1) a_0 b_1 =
 if (b_1 : Int) < a_0 then
 some b_1
 else some a_0 := by kernel_rfl
theorem spec_l34Done_eq (k : Nat) (o_0 : DT32) (out_1 : DT32) (ok_2 : Bool) : spec_l34Done (k + 1) o_0 out_1 ok_2 =
 if ¬ (ok_2 = true) then
 (spec_l33Copy k o_0).bind fun r1 =>
 some (r1, (false, ()))
 else (spec_IsOrchestra k out_1).bind fun r2 =>
 if ¬ (r2 = true) then
 (spec_l33Copy k o_0).bind fun r3 =>
 some (r3, (false, ()))
 else some (out_1, (true, ())) := by kernel_rfl
theorem spec_TakeEvent_eq (k : Nat) (l_0 : (List DT39)) (e_1 : DT39) : spec_TakeEvent (k + 1) l_0 e_1 =
 spec_TakeEvent.l0 k k l_0 false 0 e_1.1 e_1.2.1 e_1.2.2.1 e_1.2.2.2.1 [] := by kernel_rfl
theorem spec_TakeEvent.l0_eq (k m : Nat) (l_0 : (List DT39)) (found_7 : Bool) (i_8 : Int) (b0_0 : Int) (b0_1 : Int) (b0_2 : Int) (b0_3 : Int) (s1 : (List DT39)) : spec_TakeEvent.l0 k (m + 1) l_0 found_7 i_8 b0_0 b0_1 b0_2 b0_3 s1 =
 if (i_8 : Int) < ((List.length l_0 : Nat) : Int) then
 if 0 ≤ i_8 then
 if i_8 < ((List.length l_0 : Nat) : Int) then
 if (((rd T39 l_0 i_8).1 : Int) = b0_0) ∧ ((((rd T39 l_0 i_8).2.1 : Int) = b0_1) ∧ ((((rd T39 l_0 i_8).2.2.1 : Int) = b0_2) ∧ (((rd T39 l_0 i_8).2.2.2.1 : Int) = b0_3))) then
 spec_TakeEvent.l0 k m l_0 true (IntKind.wrap .i64 (i_8 + 1)) b0_0 b0_1 b0_2 b0_3 s1
 else if 0 ≤ i_8 then
 if i_8 < ((List.length l_0 : Nat) : Int) then
 if (List.length s1 + List.length ([(rd T39 l_0 i_8)] : (List DT39))) * 32 ≤ 211106232532992 then
 spec_TakeEvent.l0 k m l_0 (decide (found_7 = true)) (IntKind.wrap .i64 (i_8 + 1)) b0_0 b0_1 b0_2 b0_3 (s1 ++ ([(rd T39 l_0 i_8)] : (List DT39))) else none else none else none else none else none
 else if ¬ (found_7 = true) then
 if (List.length ([] : (List DT39)) + List.length l_0) * 32 ≤ 211106232532992 then
 some ((([] : (List DT39)) ++ l_0), (false, ())) else none
 else (spec_IsScore k l_0).bind fun r1 =>
 if ¬ (r1 = true) then
 if (List.length ([] : (List DT39)) + List.length l_0) * 32 ≤ 211106232532992 then
 some ((([] : (List DT39)) ++ l_0), (false, ())) else none
 else some (s1, (true, ())) := by kernel_rfl
theorem spec_SeatPlayers_eq (k : Nat) (l_0 : (List DT43)) (score_1 : (List DT39)) (voices_2 : Int) : spec_SeatPlayers (k + 1) l_0 score_1 voices_2 =
 (spec_ArePlayers k l_0).bind fun r1 =>
 if ¬ (r1 = true) then
 some ([], (false, ()))
 else (spec_IsScore k score_1).bind fun r2 =>
 if ¬ (r2 = true) then
 some ([], (false, ()))
 else (spec_l1In k voices_2 1 4).bind fun r3 =>
 if ¬ (r3 = true) then
 some ([], (false, ()))
 else (spec_l29Seat k l_0 score_1 voices_2 []).bind fun r4 =>
 some (r4.1, (decide (r4.2.1 = true), ())) := by kernel_rfl
theorem spec_Substitute_eq (k : Nat) (l_0 : (List DT43)) (score_1 : (List DT39)) (seats_2 : (List Int)) (voice_3 : Int) : spec_Substitute (k + 1) l_0 score_1 seats_2 voice_3 =
 (spec_IsSeating k l_0 score_1 seats_2).bind fun r1 =>
 if ¬ (r1 = true) then
 some (0, (false, ()))
 else (spec_l1In k voice_3 1 ((List.length seats_2 : Nat) : Int)).bind fun r2 =>
 if ¬ (r2 = true) then
 some (0, (false, ()))
 else spec_Substitute.l0 k k l_0 score_1 seats_2 voice_3 0 := by kernel_rfl
theorem spec_Substitute.l0_eq (k m : Nat) (l_0 : (List DT43)) (score_1 : (List DT39)) (seats_2 : (List Int)) (voice_3 : Int) (i_10 : Int) : spec_Substitute.l0 k (m + 1) l_0 score_1 seats_2 voice_3 i_10 =
 if (i_10 : Int) < ((List.length l_0 : Nat) : Int) then
 if 0 ≤ i_10 then
 if i_10 < ((List.length l_0 : Nat) : Int) then
 (spec_l27Has k seats_2 (rd T43 l_0 i_10).1).bind fun r3 =>
 if ¬ (r3 = true) then
 if 0 ≤ i_10 then
 if i_10 < ((List.length l_0 : Nat) : Int) then
 (spec_CanPlay k (rd T43 l_0 i_10) score_1 voice_3).bind fun r4 =>
 if r4 = true then
 if 0 ≤ i_10 then
 if i_10 < ((List.length l_0 : Nat) : Int) then
 some ((rd T43 l_0 i_10).1, (true, ())) else none else none
 else spec_Substitute.l0 k m l_0 score_1 seats_2 voice_3 (IntKind.wrap .i64 (i_10 + 1)) else none else none
 else spec_Substitute.l0 k m l_0 score_1 seats_2 voice_3 (IntKind.wrap .i64 (i_10 + 1)) else none else none
 else some (0, (false, ())) := by kernel_rfl
theorem spec_SetMark_eq (k : Nat) (l_0 : (List DT45)) (x_1 : DT45) : spec_SetMark (k + 1) l_0 x_1 =
 (spec_l25Set k l_0 x_1).bind fun r1 =>
 (spec_AreMarks k l_0).bind fun r2 =>
 if ¬ (r2 = true) then
 if (List.length ([] : (List DT45)) + List.length l_0) * 40 ≤ 211106232532992 then
 some (([] : (List DT45)) ++ l_0) else none
 else (spec_AreMarks k r1).bind fun r3 =>
 if ¬ (r3 = true) then
 if (List.length ([] : (List DT45)) + List.length l_0) * 40 ≤ 211106232532992 then
 some (([] : (List DT45)) ++ l_0) else none
 else some r1 := by kernel_rfl
theorem spec_EqualMarks_eq (k : Nat) (a_0 : (List DT45)) (b_1 : (List DT45)) : spec_EqualMarks (k + 1) a_0 b_1 =
 if (((List.length a_0 : Nat) : Int) : Int) ≠ ((List.length b_1 : Nat) : Int) then
 some false
 else spec_EqualMarks.l0 k k a_0 b_1 0 := by kernel_rfl
theorem spec_EqualMarks.l0_eq (k m : Nat) (a_0 : (List DT45)) (b_1 : (List DT45)) (i_5 : Int) : spec_EqualMarks.l0 k (m + 1) a_0 b_1 i_5 =
 if (i_5 : Int) < ((List.length a_0 : Nat) : Int) then
 if 0 ≤ i_5 then
 if i_5 < ((List.length a_0 : Nat) : Int) then
 if 0 ≤ i_5 then
 if i_5 < ((List.length b_1 : Nat) : Int) then
 if ¬ ((((rd T45 a_0 i_5).1 : Int) = (rd T45 b_1 i_5).1) ∧ ((((rd T45 a_0 i_5).2.1 : Int) = (rd T45 b_1 i_5).2.1) ∧ ((((rd T45 a_0 i_5).2.2.1 : Int) = (rd T45 b_1 i_5).2.2.1) ∧ ((((rd T45 a_0 i_5).2.2.2.1 : Int) = (rd T45 b_1 i_5).2.2.2.1) ∧ (((rd T45 a_0 i_5).2.2.2.2.1 : Int) = (rd T45 b_1 i_5).2.2.2.2.1))))) then
 some false
 else spec_EqualMarks.l0 k m a_0 b_1 (IntKind.wrap .i64 (i_5 + 1)) else none else none else none else none
 else some true := by kernel_rfl
theorem impl_VoiceOf_eq (k : Nat) (l_0 : (List DT39)) (voice_1 : Int) : impl_VoiceOf (k + 1) l_0 voice_1 =
 (impl_clone_impl_Event k l_0).bind fun r1 =>
 (slices_DeleteFunc_impl_Event_189 k r1 voice_1).bind fun r2 =>
 some r2 := by kernel_rfl
theorem impl_FitsRange_eq (k : Nat) (l_0 : (List DT39)) (low_1 : Int) (high_2 : Int) : impl_FitsRange (k + 1) l_0 low_1 high_2 =
 impl_FitsRange.l0 k k l_0 low_1 high_2 l_0 ((List.length l_0 : Nat) : Int) 0 := by kernel_rfl
theorem impl_FitsRange.l0_eq (k m : Nat) (l_0 : (List DT39)) (low_1 : Int) (high_2 : Int) (t_9 : (List DT39)) (t_10 : Int) (t_11 : Int) : impl_FitsRange.l0 k (m + 1) l_0 low_1 high_2 t_9 t_10 t_11 =
 if (t_11 : Int) < t_10 then
 if 0 ≤ t_11 then
 if t_11 < ((List.length t_9 : Nat) : Int) then
 (impl_InRange k (rd T39 t_9 t_11).2.2.1 low_1 high_2).bind fun r1 =>
 if ¬ (r1 = true) then
 some false
 else impl_FitsRange.l0 k m l_0 low_1 high_2 t_9 t_10 (IntKind.wrap .i64 (t_11 + 1)) else none else none
 else (impl_IsScore k l_0).bind fun r2 =>
 some (decide (r2 = true)) := by kernel_rfl
theorem impl_lowest_eq (k : Nat) (n_0 : Int) (d_1 : Int) : impl_lowest (k + 1) n_0 d_1 =
 if (d_1 : Int) < 0 then
 if ((IntKind.wrap .i64 (-d_1)) : Int) = 0 then
 some ((0, (0, ())), (false, ()))
 else (impl_divisor k (max (IntKind.wrap .i64 (-n_0)) (IntKind.wrap .i64 (-(IntKind.wrap .i64 (-n_0)))) : Int) (IntKind.wrap .i64 (-d_1))).bind fun r1 =>
 if r1 = (0 : Int) then
 none
 else if r1 = (0 : Int) then
 none
 else (impl_IsRatio k (IntKind.wrap .i64 (Int.tdiv (IntKind.wrap .i64 (-n_0)) r1), (IntKind.wrap .i64 (Int.tdiv (IntKind.wrap .i64 (-d_1)) r1), ()))).bind fun r2 =>
 if ¬ (r2 = true) then
 some ((0, (0, ())), (false, ()))
 else some ((IntKind.wrap .i64 (Int.tdiv (IntKind.wrap .i64 (-n_0)) r1), (IntKind.wrap .i64 (Int.tdiv (IntKind.wrap .i64 (-d_1)) r1), ())), (true, ()))
 else if (d_1 : Int) = 0 then
 some ((0, (0, ())), (false, ()))
 else (impl_divisor k (max n_0 (IntKind.wrap .i64 (-n_0)) : Int) d_1).bind fun r3 =>
 if r3 = (0 : Int) then
 none
 else if r3 = (0 : Int) then
 none
 else (impl_IsRatio k (IntKind.wrap .i64 (Int.tdiv n_0 r3), (IntKind.wrap .i64 (Int.tdiv d_1 r3), ()))).bind fun r4 =>
 if ¬ (r4 = true) then
 some ((0, (0, ())), (false, ()))
 else some ((IntKind.wrap .i64 (Int.tdiv n_0 r3), (IntKind.wrap .i64 (Int.tdiv d_1 r3), ())), (true, ())) := by kernel_rfl
theorem impl_divisor_eq (k : Nat) (a_0 : Int) (b_1 : Int) : impl_divisor (k + 1) a_0 b_1 =
 impl_divisor.l0 k k a_0 b_1 := by kernel_rfl
theorem impl_divisor.l0_eq (k m : Nat) (a_0 : Int) (b_1 : Int) : impl_divisor.l0 k (m + 1) a_0 b_1 =
 if (b_1 : Int) ≠ 0 then
 if b_1 = (0 : Int) then
 none
 else impl_divisor.l0 k m b_1 (Int.tmod a_0 b_1)
 else some a_0 := by kernel_rfl
theorem spec_l8Ok_eq (k : Nat) (e_0 : DT39) : spec_l8Ok (k + 1) e_0 =
 (spec_l1In k e_0.1 0 2000).bind fun r1 =>
 if r1 = true then
 (spec_l1In k e_0.2.1 1 96).bind fun r2 =>
 if r2 = true then
 (spec_l1In k e_0.2.2.1 21 108).bind fun r3 =>
 if r3 = true then
 (spec_l1In k e_0.2.2.2.1 1 4).bind fun r4 =>
 some (decide (r4 = true))
 else some false
 else some false
 else some false := by kernel_rfl
theorem spec_l8Before_eq (k : Nat) (a_0 : DT39) (b_1 : DT39) : spec_l8Before (k + 1) a_0 b_1 =
 if (a_0.1 : Int) ≠ b_1.1 then
 some (decide ((a_0.1 : Int) < b_1.1))
 else if (a_0.2.2.2.1 : Int) ≠ b_1.2.2.2.1 then
 some (decide ((a_0.2.2.2.1 : Int) < b_1.2.2.2.1))
 else some (decide ((a_0.2.2.1 : Int) < b_1.2.2.1)) := by kernel_rfl
theorem spec_l25Before_eq (k : Nat) (a_0 : DT45) (b_1 : DT45) : spec_l25Before (k + 1) a_0 b_1 =
 if (a_0.1 : Int) < b_1.1 then
 some true
 else if (a_0.1 : Int) = b_1.1 then
 some (decide ((a_0.2.1 : Int) < b_1.2.1))
 else some false := by kernel_rfl
theorem spec_ArePlayers_eq (k : Nat) (l_0 : (List DT43)) : spec_ArePlayers (k + 1) l_0 =
 spec_ArePlayers.l0 k k l_0 0 := by kernel_rfl
theorem spec_ArePlayers.l0_eq (k m : Nat) (l_0 : (List DT43)) (i_3 : Int) : spec_ArePlayers.l0 k (m + 1) l_0 i_3 =
 if (i_3 : Int) < ((List.length l_0 : Nat) : Int) then
 if 0 ≤ i_3 then
 if i_3 < ((List.length l_0 : Nat) : Int) then
 (spec_l1In k (rd T43 l_0 i_3).1 1 99).bind fun r1 =>
 if ¬ (r1 = true) then
 some false
 else if LT.lt (α := Int) (rd T43 l_0 i_3).2.1 21 then
 some false
 else if LT.lt (α := Int) (rd T43 l_0 i_3).2.2.1 (rd T43 l_0 i_3).2.1 then
 some false
 else if LT.lt (α := Int) 108 (rd T43 l_0 i_3).2.2.1 then
 some false
 else if (0 : Int) < i_3 then
 if 0 ≤ (IntKind.wrap .i64 (i_3 - 1)) then
 if (IntKind.wrap .i64 (i_3 - 1)) < ((List.length l_0 : Nat) : Int) then
 if LE.le (α := Int) (rd T43 l_0 i_3).1 (rd T43 l_0 (IntKind.wrap .i64 (i_3 - 1))).1 then
 some false
 else spec_ArePlayers.l1 k k m l_0 i_3 0 (rd T43 l_0 i_3).1 (rd T43 l_0 i_3).2.1 (rd T43 l_0 i_3).2.2.1 (rd T43 l_0 i_3).2.2.2.1 else none else none
 else spec_ArePlayers.l1 k k m l_0 i_3 0 (rd T43 l_0 i_3).1 (rd T43 l_0 i_3).2.1 (rd T43 l_0 i_3).2.2.1 (rd T43 l_0 i_3).2.2.2.1 else none else none
 else some (decide ((((List.length l_0 : Nat) : Int) : Int) ≤ 8)) := by kernel_rfl
theorem spec_ArePlayers.l1_eq (k m m1 : Nat) (l_0 : (List DT43)) (i_3 : Int) (k_5 : Int) (b0_0 : Int) (b0_1 : Int) (b0_2 : Int) (b0_3 : (List Int)) : spec_ArePlayers.l1 k (m + 1) m1 l_0 i_3 k_5 b0_0 b0_1 b0_2 b0_3 =
 if (k_5 : Int) < ((List.length b0_3 : Nat) : Int) then
 if 0 ≤ k_5 then
 if k_5 < ((List.length b0_3 : Nat) : Int) then
 (spec_l1In k (rd (.int .i64) b0_3 k_5) 1 4).bind fun r2 =>
 if ¬ (r2 = true) then
 some false
 else if (0 : Int) < k_5 then
 if 0 ≤ (IntKind.wrap .i64 (k_5 - 1)) then
 if (IntKind.wrap .i64 (k_5 - 1)) < ((List.length b0_3 : Nat) : Int) then
 if 0 ≤ k_5 then
 if k_5 < ((List.length b0_3 : Nat) : Int) then
 if LE.le (α := Int) (rd (.int .i64) b0_3 k_5) (rd (.int .i64) b0_3 (IntKind.wrap .i64 (k_5 - 1))) then
 some false
 else spec_ArePlayers.l1 k m m1 l_0 i_3 (IntKind.wrap .i64 (k_5 + 1)) b0_0 b0_1 b0_2 b0_3 else none else none else none else none
 else spec_ArePlayers.l1 k m m1 l_0 i_3 (IntKind.wrap .i64 (k_5 + 1)) b0_0 b0_1 b0_2 b0_3 else none else none
 else spec_ArePlayers.l0 k m1 l_0 (IntKind.wrap .i64 (i_3 + 1)) := by kernel_rfl
theorem spec_CanPlay_eq (k : Nat) (p_0 : DT43) (l_1 : (List DT39)) (voice_2 : Int) : spec_CanPlay (k + 1) p_0 l_1 voice_2 =
 (spec_l27Has k p_0.2.2.2.1 voice_2).bind fun r1 =>
 if r1 = true then
 (spec_IsScore k l_1).bind fun r2 =>
 if r2 = true then
 (spec_VoiceOf k l_1 voice_2).bind fun r3 =>
 (spec_FitsRange k r3 p_0.2.1 p_0.2.2.1).bind fun r4 =>
 some (decide (r4 = true))
 else some false
 else some false := by kernel_rfl
theorem spec_l27Has_eq (k : Nat) (l_0 : (List Int)) (n_1 : Int) : spec_l27Has (k + 1) l_0 n_1 =
 spec_l27Has.l0 k k l_0 n_1 0 := by kernel_rfl
theorem spec_l27Has.l0_eq (k m : Nat) (l_0 : (List Int)) (n_1 : Int) (i_5 : Int) : spec_l27Has.l0 k (m + 1) l_0 n_1 i_5 =
 if (i_5 : Int) < ((List.length l_0 : Nat) : Int) then
 if 0 ≤ i_5 then
 if i_5 < ((List.length l_0 : Nat) : Int) then
 if Eq (α := Int) (rd (.int .i64) l_0 i_5) n_1 then
 some true
 else spec_l27Has.l0 k m l_0 n_1 (IntKind.wrap .i64 (i_5 + 1)) else none else none
 else some false := by kernel_rfl
theorem spec_l29Seat_eq (k : Nat) (l_0 : (List DT43)) (score_1 : (List DT39)) (voices_2 : Int) (taken_3 : (List Int)) : spec_l29Seat (k + 1) l_0 score_1 voices_2 taken_3 =
 if (((List.length taken_3 : Nat) : Int) : Int) = voices_2 then
 if (List.length ([] : (List Int)) + List.length taken_3) * 8 ≤ 211106232532992 then
 some ((([] : (List Int)) ++ taken_3), (true, ())) else none
 else spec_l29Seat.l0 k k l_0 score_1 voices_2 taken_3 0 := by kernel_rfl
theorem spec_l29Seat.l0_eq (k m : Nat) (l_0 : (List DT43)) (score_1 : (List DT39)) (voices_2 : Int) (taken_3 : (List Int)) (i_10 : Int) : spec_l29Seat.l0 k (m + 1) l_0 score_1 voices_2 taken_3 i_10 =
 if (i_10 : Int) < ((List.length l_0 : Nat) : Int) then
 if 0 ≤ i_10 then
 if i_10 < ((List.length l_0 : Nat) : Int) then
 (spec_l27Has k taken_3 (rd T43 l_0 i_10).1).bind fun r1 =>
 if r1 = true then
 spec_l29Seat.l0 k m l_0 score_1 voices_2 taken_3 (IntKind.wrap .i64 (i_10 + 1))
 else if 0 ≤ i_10 then
 if i_10 < ((List.length l_0 : Nat) : Int) then
 (spec_CanPlay k (rd T43 l_0 i_10) score_1 (IntKind.wrap .i64 (((List.length taken_3 : Nat) : Int) + 1))).bind fun r2 =>
 if ¬ (r2 = true) then
 spec_l29Seat.l0 k m l_0 score_1 voices_2 taken_3 (IntKind.wrap .i64 (i_10 + 1))
 else if (List.length ([] : (List Int)) + List.length taken_3) * 8 ≤ 211106232532992 then
 if 0 ≤ i_10 then
 if i_10 < ((List.length l_0 : Nat) : Int) then
 if (List.length (([] : (List Int)) ++ taken_3) + List.length ([(rd T43 l_0 i_10).1] : (List Int))) * 8 ≤ 211106232532992 then
 (spec_l29Seat k l_0 score_1 voices_2 ((([] : (List Int)) ++ taken_3) ++ ([(rd T43 l_0 i_10).1] : (List Int)))).bind fun r3 =>
 if r3.2.1 = true then
 some (r3.1, (true, ()))
 else spec_l29Seat.l0 k m l_0 score_1 voices_2 taken_3 (IntKind.wrap .i64 (i_10 + 1)) else none else none else none else none else none else none else none else none
 else some ([], (false, ())) := by kernel_rfl
theorem spec_l25Set_eq (k : Nat) (l_0 : (List DT45)) (x_1 : DT45) : spec_l25Set (k + 1) l_0 x_1 =
 spec_l25Set.l0 k k l_0 0 x_1.1 x_1.2.1 x_1.2.2.1 x_1.2.2.2.1 x_1.2.2.2.2.1 := by kernel_rfl
theorem spec_l25Set.l0_eq (k m : Nat) (l_0 : (List DT45)) (k_5 : Int) (b0_0 : Int) (b0_1 : Int) (b0_2 : Int) (b0_3 : Int) (b0_4 : Int) : spec_l25Set.l0 k (m + 1) l_0 k_5 b0_0 b0_1 b0_2 b0_3 b0_4 =
 if (k_5 : Int) < ((List.length l_0 : Nat) : Int) then
 if 0 ≤ k_5 then
 if k_5 < ((List.length l_0 : Nat) : Int) then
 (spec_l25Before k (rd T45 l_0 k_5) (b0_0, (b0_1, (b0_2, (b0_3, (b0_4, ())))))).bind fun r1 =>
 if r1 = true then
 spec_l25Set.l0 k m l_0 (IntKind.wrap .i64 (k_5 + 1)) b0_0 b0_1 b0_2 b0_3 b0_4
 else if 0 ≤ k_5 then
 if k_5 ≤ ((List.length l_0 : Nat) : Int) then
 if (0 : Int) < ((List.length (List.take ((Int.toNat ((List.length l_0 : Nat) : Int)) - (Int.toNat k_5)) (List.drop (Int.toNat k_5) l_0)) : Nat) : Int) then
 if 0 ≤ 0 then
 if 0 < ((List.length (List.take ((Int.toNat ((List.length l_0 : Nat) : Int)) - (Int.toNat k_5)) (List.drop (Int.toNat k_5) l_0)) : Nat) : Int) then
 if Eq (α := Int) (rd T45 (List.take ((Int.toNat ((List.length l_0 : Nat) : Int)) - (Int.toNat k_5)) (List.drop (Int.toNat k_5) l_0)) 0).1 b0_0 then
 if 0 ≤ 0 then
 if 0 < ((List.length (List.take ((Int.toNat ((List.length l_0 : Nat) : Int)) - (Int.toNat k_5)) (List.drop (Int.toNat k_5) l_0)) : Nat) : Int) then
 if Eq (α := Int) (rd T45 (List.take ((Int.toNat ((List.length l_0 : Nat) : Int)) - (Int.toNat k_5)) (List.drop (Int.toNat k_5) l_0)) 0).2.1 b0_1 then
 if 0 ≤ 0 then
 if 0 < ((List.length (List.take ((Int.toNat ((List.length l_0 : Nat) : Int)) - (Int.toNat k_5)) (List.drop (Int.toNat k_5) l_0)) : Nat) : Int) then
 (spec_IsNewer k (b0_0, (b0_1, (b0_2, (b0_3, (b0_4, ()))))) (rd T45 (List.take ((Int.toNat ((List.length l_0 : Nat) : Int)) - (Int.toNat k_5)) (List.drop (Int.toNat k_5) l_0)) 0)).bind fun r2 =>
 if ¬ (r2 = true) then
 if (List.length ([] : (List DT45)) + List.length l_0) * 40 ≤ 211106232532992 then
 some (([] : (List DT45)) ++ l_0) else none
 else if 0 ≤ 1 then
 if 1 ≤ ((List.length (List.take ((Int.toNat ((List.length l_0 : Nat) : Int)) - (Int.toNat k_5)) (List.drop (Int.toNat k_5) l_0)) : Nat) : Int) then
 if 0 ≤ k_5 then
 if k_5 ≤ ((List.length l_0 : Nat) : Int) then
 if (List.length ([] : (List DT45)) + List.length (List.take ((Int.toNat k_5) - (Int.toNat 0)) (List.drop (Int.toNat 0) l_0))) * 40 ≤ 211106232532992 then
 if (List.length (([] : (List DT45)) ++ (List.take ((Int.toNat k_5) - (Int.toNat 0)) (List.drop (Int.toNat 0) l_0))) + List.length ([(b0_0, (b0_1, (b0_2, (b0_3, (b0_4, ())))))] : (List DT45))) * 40 ≤ 211106232532992 then
 if (List.length ((([] : (List DT45)) ++ (List.take ((Int.toNat k_5) - (Int.toNat 0)) (List.drop (Int.toNat 0) l_0))) ++ ([(b0_0, (b0_1, (b0_2, (b0_3, (b0_4, ())))))] : (List DT45))) + List.length (List.take ((Int.toNat ((List.length (List.take ((Int.toNat ((List.length l_0 : Nat) : Int)) - (Int.toNat k_5)) (List.drop (Int.toNat k_5) l_0)) : Nat) : Int)) - (Int.toNat 1)) (List.drop (Int.toNat 1) (List.take ((Int.toNat ((List.length l_0 : Nat) : Int)) - (Int.toNat k_5)) (List.drop (Int.toNat k_5) l_0))))) * 40 ≤ 211106232532992 then
 some (((([] : (List DT45)) ++ (List.take ((Int.toNat k_5) - (Int.toNat 0)) (List.drop (Int.toNat 0) l_0))) ++ ([(b0_0, (b0_1, (b0_2, (b0_3, (b0_4, ())))))] : (List DT45))) ++ (List.take ((Int.toNat ((List.length (List.take ((Int.toNat ((List.length l_0 : Nat) : Int)) - (Int.toNat k_5)) (List.drop (Int.toNat k_5) l_0)) : Nat) : Int)) - (Int.toNat 1)) (List.drop (Int.toNat 1) (List.take ((Int.toNat ((List.length l_0 : Nat) : Int)) - (Int.toNat k_5)) (List.drop (Int.toNat k_5) l_0))))) else none else none else none else none else none else none else none else none else none
 else if 0 ≤ k_5 then
 if k_5 ≤ ((List.length l_0 : Nat) : Int) then
 if (List.length ([] : (List DT45)) + List.length (List.take ((Int.toNat k_5) - (Int.toNat 0)) (List.drop (Int.toNat 0) l_0))) * 40 ≤ 211106232532992 then
 if (List.length (([] : (List DT45)) ++ (List.take ((Int.toNat k_5) - (Int.toNat 0)) (List.drop (Int.toNat 0) l_0))) + List.length ([(b0_0, (b0_1, (b0_2, (b0_3, (b0_4, ())))))] : (List DT45))) * 40 ≤ 211106232532992 then
 if (List.length ((([] : (List DT45)) ++ (List.take ((Int.toNat k_5) - (Int.toNat 0)) (List.drop (Int.toNat 0) l_0))) ++ ([(b0_0, (b0_1, (b0_2, (b0_3, (b0_4, ())))))] : (List DT45))) + List.length (List.take ((Int.toNat ((List.length l_0 : Nat) : Int)) - (Int.toNat k_5)) (List.drop (Int.toNat k_5) l_0))) * 40 ≤ 211106232532992 then
 some (((([] : (List DT45)) ++ (List.take ((Int.toNat k_5) - (Int.toNat 0)) (List.drop (Int.toNat 0) l_0))) ++ ([(b0_0, (b0_1, (b0_2, (b0_3, (b0_4, ())))))] : (List DT45))) ++ (List.take ((Int.toNat ((List.length l_0 : Nat) : Int)) - (Int.toNat k_5)) (List.drop (Int.toNat k_5) l_0))) else none else none else none else none else none else none else none
 else if 0 ≤ k_5 then
 if k_5 ≤ ((List.length l_0 : Nat) : Int) then
 if (List.length ([] : (List DT45)) + List.length (List.take ((Int.toNat k_5) - (Int.toNat 0)) (List.drop (Int.toNat 0) l_0))) * 40 ≤ 211106232532992 then
 if (List.length (([] : (List DT45)) ++ (List.take ((Int.toNat k_5) - (Int.toNat 0)) (List.drop (Int.toNat 0) l_0))) + List.length ([(b0_0, (b0_1, (b0_2, (b0_3, (b0_4, ())))))] : (List DT45))) * 40 ≤ 211106232532992 then
 if (List.length ((([] : (List DT45)) ++ (List.take ((Int.toNat k_5) - (Int.toNat 0)) (List.drop (Int.toNat 0) l_0))) ++ ([(b0_0, (b0_1, (b0_2, (b0_3, (b0_4, ())))))] : (List DT45))) + List.length (List.take ((Int.toNat ((List.length l_0 : Nat) : Int)) - (Int.toNat k_5)) (List.drop (Int.toNat k_5) l_0))) * 40 ≤ 211106232532992 then
 some (((([] : (List DT45)) ++ (List.take ((Int.toNat k_5) - (Int.toNat 0)) (List.drop (Int.toNat 0) l_0))) ++ ([(b0_0, (b0_1, (b0_2, (b0_3, (b0_4, ())))))] : (List DT45))) ++ (List.take ((Int.toNat ((List.length l_0 : Nat) : Int)) - (Int.toNat k_5)) (List.drop (Int.toNat k_5) l_0))) else none else none else none else none else none else none else none
 else if 0 ≤ k_5 then
 if k_5 ≤ ((List.length l_0 : Nat) : Int) then
 if (List.length ([] : (List DT45)) + List.length (List.take ((Int.toNat k_5) - (Int.toNat 0)) (List.drop (Int.toNat 0) l_0))) * 40 ≤ 211106232532992 then
 if (List.length (([] : (List DT45)) ++ (List.take ((Int.toNat k_5) - (Int.toNat 0)) (List.drop (Int.toNat 0) l_0))) + List.length ([(b0_0, (b0_1, (b0_2, (b0_3, (b0_4, ())))))] : (List DT45))) * 40 ≤ 211106232532992 then
 if (List.length ((([] : (List DT45)) ++ (List.take ((Int.toNat k_5) - (Int.toNat 0)) (List.drop (Int.toNat 0) l_0))) ++ ([(b0_0, (b0_1, (b0_2, (b0_3, (b0_4, ())))))] : (List DT45))) + List.length (List.take ((Int.toNat ((List.length l_0 : Nat) : Int)) - (Int.toNat k_5)) (List.drop (Int.toNat k_5) l_0))) * 40 ≤ 211106232532992 then
 some (((([] : (List DT45)) ++ (List.take ((Int.toNat k_5) - (Int.toNat 0)) (List.drop (Int.toNat 0) l_0))) ++ ([(b0_0, (b0_1, (b0_2, (b0_3, (b0_4, ())))))] : (List DT45))) ++ (List.take ((Int.toNat ((List.length l_0 : Nat) : Int)) - (Int.toNat k_5)) (List.drop (Int.toNat k_5) l_0))) else none else none else none else none else none else none else none else none else none
 else if 0 ≤ k_5 then
 if k_5 ≤ ((List.length l_0 : Nat) : Int) then
 if (0 : Int) < ((List.length (List.take ((Int.toNat ((List.length l_0 : Nat) : Int)) - (Int.toNat k_5)) (List.drop (Int.toNat k_5) l_0)) : Nat) : Int) then
 if 0 ≤ 0 then
 if 0 < ((List.length (List.take ((Int.toNat ((List.length l_0 : Nat) : Int)) - (Int.toNat k_5)) (List.drop (Int.toNat k_5) l_0)) : Nat) : Int) then
 if Eq (α := Int) (rd T45 (List.take ((Int.toNat ((List.length l_0 : Nat) : Int)) - (Int.toNat k_5)) (List.drop (Int.toNat k_5) l_0)) 0).1 b0_0 then
 if 0 ≤ 0 then
 if 0 < ((List.length (List.take ((Int.toNat ((List.length l_0 : Nat) : Int)) - (Int.toNat k_5)) (List.drop (Int.toNat k_5) l_0)) : Nat) : Int) then
 if Eq (α := Int) (rd T45 (List.take ((Int.toNat ((List.length l_0 : Nat) : Int)) - (Int.toNat k_5)) (List.drop (Int.toNat k_5) l_0)) 0).2.1 b0_1 then
 if 0 ≤ 0 then
 if 0 < ((List.length (List.take ((Int.toNat ((List.length l_0 : Nat) : Int)) - (Int.toNat k_5)) (List.drop (Int.toNat k_5) l_0)) : Nat) : Int) then
 (spec_IsNewer k (b0_0, (b0_1, (b0_2, (b0_3, (b0_4, ()))))) (rd T45 (List.take ((Int.toNat ((List.length l_0 : Nat) : Int)) - (Int.toNat k_5)) (List.drop (Int.toNat k_5) l_0)) 0)).bind fun r3 =>
 if ¬ (r3 = true) then
 if (List.length ([] : (List DT45)) + List.length l_0) * 40 ≤ 211106232532992 then
 some (([] : (List DT45)) ++ l_0) else none
 else if 0 ≤ 1 then
 if 1 ≤ ((List.length (List.take ((Int.toNat ((List.length l_0 : Nat) : Int)) - (Int.toNat k_5)) (List.drop (Int.toNat k_5) l_0)) : Nat) : Int) then
 if 0 ≤ k_5 then
 if k_5 ≤ ((List.length l_0 : Nat) : Int) then
 if (List.length ([] : (List DT45)) + List.length (List.take ((Int.toNat k_5) - (Int.toNat 0)) (List.drop (Int.toNat 0) l_0))) * 40 ≤ 211106232532992 then
 if (List.length (([] : (List DT45)) ++ (List.take ((Int.toNat k_5) - (Int.toNat 0)) (List.drop (Int.toNat 0) l_0))) + List.length ([(b0_0, (b0_1, (b0_2, (b0_3, (b0_4, ())))))] : (List DT45))) * 40 ≤ 211106232532992 then
 if (List.length ((([] : (List DT45)) ++ (List.take ((Int.toNat k_5) - (Int.toNat 0)) (List.drop (Int.toNat 0) l_0))) ++ ([(b0_0, (b0_1, (b0_2, (b0_3, (b0_4, ())))))] : (List DT45))) + List.length (List.take ((Int.toNat ((List.length (List.take ((Int.toNat ((List.length l_0 : Nat) : Int)) - (Int.toNat k_5)) (List.drop (Int.toNat k_5) l_0)) : Nat) : Int)) - (Int.toNat 1)) (List.drop (Int.toNat 1) (List.take ((Int.toNat ((List.length l_0 : Nat) : Int)) - (Int.toNat k_5)) (List.drop (Int.toNat k_5) l_0))))) * 40 ≤ 211106232532992 then
 some (((([] : (List DT45)) ++ (List.take ((Int.toNat k_5) - (Int.toNat 0)) (List.drop (Int.toNat 0) l_0))) ++ ([(b0_0, (b0_1, (b0_2, (b0_3, (b0_4, ())))))] : (List DT45))) ++ (List.take ((Int.toNat ((List.length (List.take ((Int.toNat ((List.length l_0 : Nat) : Int)) - (Int.toNat k_5)) (List.drop (Int.toNat k_5) l_0)) : Nat) : Int)) - (Int.toNat 1)) (List.drop (Int.toNat 1) (List.take ((Int.toNat ((List.length l_0 : Nat) : Int)) - (Int.toNat k_5)) (List.drop (Int.toNat k_5) l_0))))) else none else none else none else none else none else none else none else none else none
 else if 0 ≤ k_5 then
 if k_5 ≤ ((List.length l_0 : Nat) : Int) then
 if (List.length ([] : (List DT45)) + List.length (List.take ((Int.toNat k_5) - (Int.toNat 0)) (List.drop (Int.toNat 0) l_0))) * 40 ≤ 211106232532992 then
 if (List.length (([] : (List DT45)) ++ (List.take ((Int.toNat k_5) - (Int.toNat 0)) (List.drop (Int.toNat 0) l_0))) + List.length ([(b0_0, (b0_1, (b0_2, (b0_3, (b0_4, ())))))] : (List DT45))) * 40 ≤ 211106232532992 then
 if (List.length ((([] : (List DT45)) ++ (List.take ((Int.toNat k_5) - (Int.toNat 0)) (List.drop (Int.toNat 0) l_0))) ++ ([(b0_0, (b0_1, (b0_2, (b0_3, (b0_4, ())))))] : (List DT45))) + List.length (List.take ((Int.toNat ((List.length l_0 : Nat) : Int)) - (Int.toNat k_5)) (List.drop (Int.toNat k_5) l_0))) * 40 ≤ 211106232532992 then
 some (((([] : (List DT45)) ++ (List.take ((Int.toNat k_5) - (Int.toNat 0)) (List.drop (Int.toNat 0) l_0))) ++ ([(b0_0, (b0_1, (b0_2, (b0_3, (b0_4, ())))))] : (List DT45))) ++ (List.take ((Int.toNat ((List.length l_0 : Nat) : Int)) - (Int.toNat k_5)) (List.drop (Int.toNat k_5) l_0))) else none else none else none else none else none else none else none
 else if 0 ≤ k_5 then
 if k_5 ≤ ((List.length l_0 : Nat) : Int) then
 if (List.length ([] : (List DT45)) + List.length (List.take ((Int.toNat k_5) - (Int.toNat 0)) (List.drop (Int.toNat 0) l_0))) * 40 ≤ 211106232532992 then
 if (List.length (([] : (List DT45)) ++ (List.take ((Int.toNat k_5) - (Int.toNat 0)) (List.drop (Int.toNat 0) l_0))) + List.length ([(b0_0, (b0_1, (b0_2, (b0_3, (b0_4, ())))))] : (List DT45))) * 40 ≤ 211106232532992 then
 if (List.length ((([] : (List DT45)) ++ (List.take ((Int.toNat k_5) - (Int.toNat 0)) (List.drop (Int.toNat 0) l_0))) ++ ([(b0_0, (b0_1, (b0_2, (b0_3, (b0_4, ())))))] : (List DT45))) + List.length (List.take ((Int.toNat ((List.length l_0 : Nat) : Int)) - (Int.toNat k_5)) (List.drop (Int.toNat k_5) l_0))) * 40 ≤ 211106232532992 then
 some (((([] : (List DT45)) ++ (List.take ((Int.toNat k_5) - (Int.toNat 0)) (List.drop (Int.toNat 0) l_0))) ++ ([(b0_0, (b0_1, (b0_2, (b0_3, (b0_4, ())))))] : (List DT45))) ++ (List.take ((Int.toNat ((List.length l_0 : Nat) : Int)) - (Int.toNat k_5)) (List.drop (Int.toNat k_5) l_0))) else none else none else none else none else none else none else none
 else if 0 ≤ k_5 then
 if k_5 ≤ ((List.length l_0 : Nat) : Int) then
 if (List.length ([] : (List DT45)) + List.length (List.take ((Int.toNat k_5) - (Int.toNat 0)) (List.drop (Int.toNat 0) l_0))) * 40 ≤ 211106232532992 then
 if (List.length (([] : (List DT45)) ++ (List.take ((Int.toNat k_5) - (Int.toNat 0)) (List.drop (Int.toNat 0) l_0))) + List.length ([(b0_0, (b0_1, (b0_2, (b0_3, (b0_4, ())))))] : (List DT45))) * 40 ≤ 211106232532992 then
 if (List.length ((([] : (List DT45)) ++ (List.take ((Int.toNat k_5) - (Int.toNat 0)) (List.drop (Int.toNat 0) l_0))) ++ ([(b0_0, (b0_1, (b0_2, (b0_3, (b0_4, ())))))] : (List DT45))) + List.length (List.take ((Int.toNat ((List.length l_0 : Nat) : Int)) - (Int.toNat k_5)) (List.drop (Int.toNat k_5) l_0))) * 40 ≤ 211106232532992 then
 some (((([] : (List DT45)) ++ (List.take ((Int.toNat k_5) - (Int.toNat 0)) (List.drop (Int.toNat 0) l_0))) ++ ([(b0_0, (b0_1, (b0_2, (b0_3, (b0_4, ())))))] : (List DT45))) ++ (List.take ((Int.toNat ((List.length l_0 : Nat) : Int)) - (Int.toNat k_5)) (List.drop (Int.toNat k_5) l_0))) else none else none else none else none else none else none else none := by kernel_rfl
theorem impl_clone_impl_Event_eq (k : Nat) (l_0 : (List DT39)) : impl_clone_impl_Event (k + 1) l_0 =
 if (List.length ([] : (List DT39)) + List.length l_0) * 32 ≤ 211106232532992 then
 some (([] : (List DT39)) ++ l_0) else none := by kernel_rfl
theorem slices_DeleteFunc_impl_Event_189_eq (k : Nat) (s_0 : (List DT39)) (c1_0 : Int) : slices_DeleteFunc_impl_Event_189 (k + 1) s_0 c1_0 =
 (slices_IndexFunc_impl_Event_189 k s_0 c1_0).bind fun r1 =>
 if (r1 : Int) = (-1) then
 some s_0
 else slices_DeleteFunc_impl_Event_189.l0 k k c1_0 r1 (IntKind.wrap .i64 (r1 + 1)) s_0 := by kernel_rfl
theorem slices_DeleteFunc_impl_Event_189.l0_eq (k m : Nat) (del_1_c : Int) (i_5 : Int) (j_6 : Int) (s0 : (List DT39)) : slices_DeleteFunc_impl_Event_189.l0 k (m + 1) del_1_c i_5 j_6 s0 =
 if (j_6 : Int) < ((List.length s0 : Nat) : Int) then
 if 0 ≤ j_6 then
 if j_6 < ((List.length s0 : Nat) : Int) then
 (impl_VoiceOf_1 k (rd T39 s0 j_6) del_1_c).bind fun r2 =>
 if ¬ (r2 = true) then
 if 0 ≤ i_5 then
 if i_5 < ((List.length s0 : Nat) : Int) then
 slices_DeleteFunc_impl_Event_189.l0 k m del_1_c (IntKind.wrap .i64 (i_5 + 1)) (IntKind.wrap .i64 (j_6 + 1)) (List.set s0 (Int.toNat i_5) (rd T39 s0 j_6)) else none else none
 else slices_DeleteFunc_impl_Event_189.l0 k m del_1_c i_5 (IntKind.wrap .i64 (j_6 + 1)) s0 else none else none
 else if 0 ≤ i_5 then
 if i_5 ≤ ((List.length s0 : Nat) : Int) then
 if 0 ≤ i_5 then
 if i_5 ≤ ((List.length (List.take (Int.toNat i_5) s0 ++ List.replicate ((Int.toNat ((List.length s0 : Nat) : Int)) - (Int.toNat i_5)) (Ty.dflt T39) ++ List.drop ((Int.toNat i_5) + ((Int.toNat ((List.length s0 : Nat) : Int)) - (Int.toNat i_5))) s0) : Nat) : Int) then
 some (List.take ((Int.toNat i_5) - (Int.toNat 0)) (List.drop (Int.toNat 0) (List.take (Int.toNat i_5) s0 ++ List.replicate ((Int.toNat ((List.length s0 : Nat) : Int)) - (Int.toNat i_5)) (Ty.dflt T39) ++ List.drop ((Int.toNat i_5) + ((Int.toNat ((List.length s0 : Nat) : Int)) - (Int.toNat i_5))) s0))) else none else none else none else none := by kernel_rfl
theorem spec_VoiceOf_eq (k : Nat) (l_0 : (List DT39)) (voice_1 : Int) : spec_VoiceOf (k + 1) l_0 voice_1 =
 spec_VoiceOf.l0 k k l_0 voice_1 0 [] := by kernel_rfl
theorem spec_VoiceOf.l0_eq (k m : Nat) (l_0 : (List DT39)) (voice_1 : Int) (i_6 : Int) (s0 : (List DT39)) : spec_VoiceOf.l0 k (m + 1) l_0 voice_1 i_6 s0 =
 if (i_6 : Int) < ((List.length l_0 : Nat) : Int) then
 if 0 ≤ i_6 then
 if i_6 < ((List.length l_0 : Nat) : Int) then
 if Eq (α := Int) (rd T39 l_0 i_6).2.2.2.1 voice_1 then
 if 0 ≤ i_6 then
 if i_6 < ((List.length l_0 : Nat) : Int) then
 if (List.length s0 + List.length ([(rd T39 l_0 i_6)] : (List DT39))) * 32 ≤ 211106232532992 then
 spec_VoiceOf.l0 k m l_0 voice_1 (IntKind.wrap .i64 (i_6 + 1)) (s0 ++ ([(rd T39 l_0 i_6)] : (List DT39))) else none else none else none
 else spec_VoiceOf.l0 k m l_0 voice_1 (IntKind.wrap .i64 (i_6 + 1)) s0 else none else none
 else some s0 := by kernel_rfl
theorem spec_FitsRange_eq (k : Nat) (l_0 : (List DT39)) (low_1 : Int) (high_2 : Int) : spec_FitsRange (k + 1) l_0 low_1 high_2 =
 spec_FitsRange.l0 k k l_0 low_1 high_2 0 := by kernel_rfl
theorem spec_FitsRange.l0_eq (k m : Nat) (l_0 : (List DT39)) (low_1 : Int) (high_2 : Int) (i_7 : Int) : spec_FitsRange.l0 k (m + 1) l_0 low_1 high_2 i_7 =
 if (i_7 : Int) < ((List.length l_0 : Nat) : Int) then
 if 0 ≤ i_7 then
 if i_7 < ((List.length l_0 : Nat) : Int) then
 (spec_l1In k (rd T39 l_0 i_7).2.2.1 low_1 high_2).bind fun r1 =>
 if ¬ (r1 = true) then
 some false
 else spec_FitsRange.l0 k m l_0 low_1 high_2 (IntKind.wrap .i64 (i_7 + 1)) else none else none
 else (spec_IsScore k l_0).bind fun r2 =>
 some (decide (r2 = true)) := by kernel_rfl
theorem spec_IsNewer_eq (k : Nat) (a_0 : DT45) (b_1 : DT45) : spec_IsNewer (k + 1) a_0 b_1 =
 if (a_0.2.2.2.1 : Int) ≠ b_1.2.2.2.1 then
 some (decide ((b_1.2.2.2.1 : Int) < a_0.2.2.2.1))
 else if (a_0.2.2.2.2.1 : Int) ≠ b_1.2.2.2.2.1 then
 some (decide ((b_1.2.2.2.2.1 : Int) < a_0.2.2.2.2.1))
 else some (decide ((b_1.2.2.1 : Int) < a_0.2.2.1)) := by kernel_rfl
theorem slices_IndexFunc_impl_Event_189_eq (k : Nat) (s_0 : (List DT39)) (c1_0 : Int) : slices_IndexFunc_impl_Event_189 (k + 1) s_0 c1_0 =
 slices_IndexFunc_impl_Event_189.l0 k k s_0 c1_0 ((List.length s_0 : Nat) : Int) 0 := by kernel_rfl
theorem slices_IndexFunc_impl_Event_189.l0_eq (k m : Nat) (s_0 : (List DT39)) (f_1_c : Int) (t_7 : Int) (t_8 : Int) : slices_IndexFunc_impl_Event_189.l0 k (m + 1) s_0 f_1_c t_7 t_8 =
 if (t_8 : Int) < t_7 then
 if 0 ≤ t_8 then
 if t_8 < ((List.length s_0 : Nat) : Int) then
 (impl_VoiceOf_1 k (rd T39 s_0 t_8) f_1_c).bind fun r1 =>
 if r1 = true then
 some t_8
 else slices_IndexFunc_impl_Event_189.l0 k m s_0 f_1_c t_7 (IntKind.wrap .i64 (t_8 + 1)) else none else none
 else some (-1) := by kernel_rfl
theorem impl_VoiceOf_1_eq (k : Nat) (e_0 : DT39) (a_1 : Int) : impl_VoiceOf_1 (k + 1) e_0 a_1 =
 some (decide ((e_0.2.2.2.1 : Int) ≠ a_1)) := by kernel_rfl
end Go.QFnAudited
