/- The functions that the law FnExactEqualOrchestras reaches, as equations; printed by pe.py. No condition. -/
import Derived.Test.YtaidfaagmecdlaaEv
import Derived.Test.YtaidfaagmecdlaaProg
import Derived.KernelRfl
set_option linter.unusedVariables false
open Go Go.Flat
namespace Go.QFnExactEqualOrchestras
abbrev T39 : Ty := .pair (.int .i64) (.pair (.list (.int .i64)) .unit)
abbrev DT39 := Int × ((List Int) × Unit)
abbrev T65 : Ty := .pair (.int .i64) (.pair (.int .i64) .unit)
abbrev DT65 := Int × (Int × Unit)
abbrev T113 : Ty := .pair (.int .i64) (.pair (.int .i64) T65)
abbrev DT113 := Int × (Int × DT65)
abbrev T117 : Ty := .pair (.int .i64) (.pair (.int .i64) T39)
abbrev DT117 := Int × (Int × DT39)
abbrev T119 : Ty := .pair (.int .i64) T113
abbrev DT119 := Int × DT113
abbrev T121 : Ty := .pair (.int .i64) (.pair (.int .i64) (.pair T113 (.pair T65 (.pair T117 (.pair T119 .unit)))))
abbrev DT121 := Int × (Int × (DT113 × (DT65 × (DT117 × (DT119 × Unit)))))
abbrev T71 : Ty := .pair (.list T113) (.pair T65 (.pair (.list T65) (.pair (.list T117) (.pair (.list (.int .i64)) (.pair (.list T119) (.pair (.list T65) T65))))))
abbrev DT71 := (List DT113) × (DT65 × ((List DT65) × ((List DT117) × ((List Int) × ((List DT119) × ((List DT65) × DT65))))))
abbrev T150 : Ty := .pair (.list (.int .u8)) T65
abbrev DT150 := (List Int) × DT65
noncomputable def C : Cfg := {
  P := Go.Proofs.Try.prog,
  tt := [(1, none), (2, some (.int .i64)), (3, some (.int .i64)), (4, some .bool), (5, some (.int .u8)), (6, some (.int .u8)), (9, some .str), (10, some .str), (11, some .str), (12, some (.int .u64)), (15, none), (16, none), (17, none), (21, some (.int .i32)), (22, some (.list (.int .u8))), (23, none), (24, some (.list (.list (.int .i64)))), (25, some (.list (.int .i64))), (27, none), (29, none), (30, none), (31, none), (32, none), (33, some (.list T39)), (35, none), (36, none), (37, none), (38, none), (39, some T39), (40, some T39), (42, none), (44, none), (45, none), (46, none), (47, some (.list T39)), (48, none), (49, none), (50, none), (51, none), (52, none), (53, none), (54, some (.list T113)), (55, none), (56, some (.list T121)), (57, none), (58, some (.list T113)), (59, none), (60, none), (61, none), (62, none), (63, none), (64, none), (65, some T65), (66, some T65), (67, some (.list T65)), (68, some (.list T117)), (69, some (.list T119)), (70, some (.list T65)), (71, some T71), (72, some T71), (73, none), (74, none), (75, some T65), (76, some (.list T65)), (77, some (.list T117)), (78, some (.list T119)), (79, some (.list T65)), (80, some T71), (81, some T71), (82, none), (83, none), (84, none), (85, none), (86, none), (87, none), (88, none), (89, none), (90, none), (91, none), (92, none), (93, none), (94, none), (95, none), (96, none), (97, none), (98, none), (99, none), (100, none), (101, none), (102, none), (103, none), (104, none), (105, none), (106, none), (107, none), (108, none), (109, some T39), (110, none), (111, none), (112, none), (113, some T113), (114, some T113), (115, some T65), (116, some T65), (117, some T117), (118, some T117), (119, some T119), (120, some T119), (121, some T121), (122, some T121), (123, none), (124, some T113), (125, none), (126, none), (127, none), (128, none), (129, none), (130, none), (131, none), (132, none), (133, none), (134, none), (135, none), (136, none), (137, none), (138, none), (139, none), (140, none), (141, none), (142, none), (143, none), (144, none), (145, none), (146, some T65), (147, some T65), (148, none), (149, none), (150, some T150), (151, some T150), (152, none), (153, none), (154, none), (155, none), (156, none), (157, none), (158, some T117), (159, none), (160, some T65), (161, none), (162, none), (163, some T119), (164, none), (165, some T65), (166, none), (167, none), (168, none), (169, none), (170, none), (171, none), (172, none), (173, some (.int .u64)), (174, none), (175, none), (176, none), (177, none), (178, some (.int .i64)), (180, none), (181, none), (182, none), (184, none), (185, none), (186, some (.int .u32)), (187, none), (188, some (.int .u64)), (189, some (.int .u64)), (190, none), (191, none), (192, none), (193, none), (194, none), (195, none), (197, none), (198, none), (204, none), (205, some (.int .u8)), (206, some (.int .u8)), (207, none), (208, none), (209, some (.int .i32)), (210, some (.int .i32)), (213, none)],
  vars := [(31, [0, 1, 5]), (38, [0, 3, 4]), (41, [0, 1, 5]), (89, [0, 1, 5]), (94, [0, 3, 4]), (95, [0, 3, 4]), (96, [0, 3, 4]), (97, [0, 3, 4]), (98, [0, 3, 4]), (100, [0, 1, 5]), (101, [0, 1, 5]), (102, [0, 1, 5]), (103, [0, 1, 5]), (108, [0, 1, 5]), (109, [0, 1, 5]), (110, [0, 1, 5]), (111, [0, 1, 5, 29, 30, 31, 32, 33, 34, 35, 36, 37, 38, 39, 42, 43, 44, 45, 46, 47, 48, 49, 50, 51, 52, 55, 56, 57, 58, 59, 60, 61, 62, 63, 64, 65, 66]), (112, [2, 3, 5, 6]), (113, [0, 1, 12, 13]), (114, [0, 1, 12, 13]), (115, [1, 2, 15, 16, 17]), (117, [0, 1, 12, 13]), (118, [0, 1, 12, 13]), (119, [0, 1, 12, 13])],
  sigs := [] }
noncomputable def laws_FnExactEqualOrchestras (k : Nat) (aA_0 : DT71) (aB_1 : DT71) : Option Bool := run C k 10 .bool [.val T71 aA_0, .val T71 aB_1]
noncomputable def laws_szOrchestra (k : Nat) (a_0 : DT71) (left_1 : Int) : Option Int := run C k 45 (.int .i64) [.val T71 a_0, .val (.int .i64) left_1]
noncomputable def laws_toOrchestra (k : Nat) (a_0 : DT71) : Option DT71 := run C k 47 T71 [.val T71 a_0]
noncomputable def spec_EqualOrchestras (k : Nat) (a_0 : DT71) (b_1 : DT71) : Option Bool := run C k 54 .bool [.val T71 a_0, .val T71 b_1]
noncomputable def impl_EqualOrchestras (k : Nat) (a_0 : DT71) (b_1 : DT71) : Option Bool := run C k 55 .bool [.val T71 a_0, .val T71 b_1]
noncomputable def laws_eqOrchestra (k : Nat) (a_0 : DT71) (b_1 : DT71) : Option Bool := run C k 49 .bool [.val T71 a_0, .val T71 b_1]
noncomputable def laws_szEventS (k : Nat) (a_0 : (List DT113)) (left_1 : Int) : Option Int := run C k 36 (.int .i64) [.val (.list T113) a_0, .val (.int .i64) left_1]
noncomputable def laws_szTempoS (k : Nat) (a_0 : (List DT65)) (left_1 : Int) : Option Int := run C k 88 (.int .i64) [.val (.list T65) a_0, .val (.int .i64) left_1]
noncomputable def laws_szPlayerS (k : Nat) (a_0 : (List DT117)) (left_1 : Int) : Option Int := run C k 89 (.int .i64) [.val (.list T117) a_0, .val (.int .i64) left_1]
noncomputable def laws_szPlayerS.l0 (k m : Nat) (a_0 : (List DT117)) (left_1 : Int) (i_5 : Int) : Option Int := loopRun C k 89 (.int .i64) [0, 0] [.r, .r, .r, .l, .r, .b] [] [0, 1, 5] m ⟨[.one (.cell (.list false T117 a_0)), .one (.cell (.int .i64 left_1)), .one (.cell (.int .i64 i_5))], []⟩
noncomputable def laws_szIntS (k : Nat) (a_0 : (List Int)) (left_1 : Int) : Option Int := run C k 90 (.int .i64) [.val (.list (.int .i64)) a_0, .val (.int .i64) left_1]
noncomputable def laws_szMarkS (k : Nat) (a_0 : (List DT119)) (left_1 : Int) : Option Int := run C k 91 (.int .i64) [.val (.list T119) a_0, .val (.int .i64) left_1]
noncomputable def laws_szLetterS (k : Nat) (a_0 : (List DT65)) (left_1 : Int) : Option Int := run C k 92 (.int .i64) [.val (.list T65) a_0, .val (.int .i64) left_1]
noncomputable def laws_toEventS (k : Nat) (a_0 : (List DT113)) : Option (List DT113) := run C k 38 (.list T113) [.val (.list T113) a_0]
noncomputable def laws_toEventS.l0 (k m : Nat) (a_0 : (List DT113)) (i_4 : Int) (s0 : (List DT113)) : Option (List DT113) := loopRun C k 38 (.list T113) [0] [.r, .r, .l, .r, .b] [] [0, 3, 4] m ⟨[.one (.cell (.list false T113 a_0)), .one (.cell (.ref 1)), .one (.cell (.int .i64 i_4))], [.arr T113 s0 .open]⟩
noncomputable def laws_toMeter (k : Nat) (a_0 : DT65) : Option DT65 := run C k 93 T65 [.val T65 a_0]
noncomputable def laws_toTempoS (k : Nat) (a_0 : (List DT65)) : Option (List DT65) := run C k 94 (.list T65) [.val (.list T65) a_0]
noncomputable def laws_toTempoS.l0 (k m : Nat) (a_0 : (List DT65)) (i_4 : Int) (s0 : (List DT65)) : Option (List DT65) := loopRun C k 94 (.list T65) [0] [.r, .r, .l, .r, .b] [] [0, 3, 4] m ⟨[.one (.cell (.list false T65 a_0)), .one (.cell (.ref 1)), .one (.cell (.int .i64 i_4))], [.arr T65 s0 .open]⟩
noncomputable def laws_toPlayerS (k : Nat) (a_0 : (List DT117)) : Option (List DT117) := run C k 95 (.list T117) [.val (.list T117) a_0]
noncomputable def laws_toPlayerS.l0 (k m : Nat) (a_0 : (List DT117)) (i_4 : Int) (s0 : (List DT117)) : Option (List DT117) := loopRun C k 95 (.list T117) [0] [.r, .r, .l, .r, .b] [] [0, 3, 4] m ⟨[.one (.cell (.list false T117 a_0)), .one (.cell (.ref 1)), .one (.cell (.int .i64 i_4))], [.arr T117 s0 .open]⟩
noncomputable def laws_toIntS (k : Nat) (a_0 : (List Int)) : Option (List Int) := run C k 96 (.list (.int .i64)) [.val (.list (.int .i64)) a_0]
noncomputable def laws_toIntS.l0 (k m : Nat) (a_0 : (List Int)) (i_4 : Int) (s0 : (List Int)) : Option (List Int) := loopRun C k 96 (.list (.int .i64)) [0] [.r, .r, .l, .r, .b] [] [0, 3, 4] m ⟨[.one (.cell (.list false (.int .i64) a_0)), .one (.cell (.ref 1)), .one (.cell (.int .i64 i_4))], [.arr (.int .i64) s0 .open]⟩
noncomputable def laws_toMarkS (k : Nat) (a_0 : (List DT119)) : Option (List DT119) := run C k 97 (.list T119) [.val (.list T119) a_0]
noncomputable def laws_toMarkS.l0 (k m : Nat) (a_0 : (List DT119)) (i_4 : Int) (s0 : (List DT119)) : Option (List DT119) := loopRun C k 97 (.list T119) [0] [.r, .r, .l, .r, .b] [] [0, 3, 4] m ⟨[.one (.cell (.list false T119 a_0)), .one (.cell (.ref 1)), .one (.cell (.int .i64 i_4))], [.arr T119 s0 .open]⟩
noncomputable def laws_toLetterS (k : Nat) (a_0 : (List DT65)) : Option (List DT65) := run C k 98 (.list T65) [.val (.list T65) a_0]
noncomputable def laws_toLetterS.l0 (k m : Nat) (a_0 : (List DT65)) (i_4 : Int) (s0 : (List DT65)) : Option (List DT65) := loopRun C k 98 (.list T65) [0] [.r, .r, .l, .r, .b] [] [0, 3, 4] m ⟨[.one (.cell (.list false T65 a_0)), .one (.cell (.ref 1)), .one (.cell (.int .i64 i_4))], [.arr T65 s0 .open]⟩
noncomputable def spec_EqualScores (k : Nat) (a_0 : (List DT113)) (b_1 : (List DT113)) : Option Bool := run C k 108 .bool [.val (.list T113) a_0, .val (.list T113) b_1]
noncomputable def spec_EqualScores.l0 (k m : Nat) (a_0 : (List DT113)) (b_1 : (List DT113)) (i_5 : Int) : Option Bool := loopRun C k 108 .bool [0, 0] [.r, .r, .l, .r, .b] [] [0, 1, 5] m ⟨[.one (.cell (.list false T113 a_0)), .one (.cell (.list false T113 b_1)), .one (.cell (.int .i64 i_5))], []⟩
noncomputable def spec_EqualInts (k : Nat) (a_0 : (List Int)) (b_1 : (List Int)) : Option Bool := run C k 109 .bool [.val (.list (.int .i64)) a_0, .val (.list (.int .i64)) b_1]
noncomputable def spec_EqualInts.l0 (k m : Nat) (a_0 : (List Int)) (b_1 : (List Int)) (i_5 : Int) : Option Bool := loopRun C k 109 .bool [0, 0] [.r, .r, .l, .r, .b] [] [0, 1, 5] m ⟨[.one (.cell (.list false (.int .i64) a_0)), .one (.cell (.list false (.int .i64) b_1)), .one (.cell (.int .i64 i_5))], []⟩
noncomputable def spec_EqualMarks (k : Nat) (a_0 : (List DT119)) (b_1 : (List DT119)) : Option Bool := run C k 110 .bool [.val (.list T119) a_0, .val (.list T119) b_1]
noncomputable def spec_EqualMarks.l0 (k m : Nat) (a_0 : (List DT119)) (b_1 : (List DT119)) (i_5 : Int) : Option Bool := loopRun C k 110 .bool [0, 0] [.r, .r, .l, .r, .b] [] [0, 1, 5] m ⟨[.one (.cell (.list false T119 a_0)), .one (.cell (.list false T119 b_1)), .one (.cell (.int .i64 i_5))], []⟩
noncomputable def spec_l33Players (k : Nat) (a_0 : (List DT117)) (b_1 : (List DT117)) : Option Bool := run C k 111 .bool [.val (.list T117) a_0, .val (.list T117) b_1]
noncomputable def spec_l33Players.l0 (k m : Nat) (a_0 : (List DT117)) (b_1 : (List DT117)) (i_5 : Int) : Option Bool := loopRun C k 111 .bool [0, 0] [.r, .r, .l, .r, .b] [] [0, 1, 5] m ⟨[.one (.cell (.list false T117 a_0)), .one (.cell (.list false T117 b_1)), .one (.cell (.int .i64 i_5))], []⟩
noncomputable def spec_l33Lists (k : Nat) (a_0 : DT71) (b_1 : DT71) : Option Bool := run C k 112 .bool [.val T71 a_0, .val T71 b_1]
noncomputable def spec_l33Lists.l0 (k m : Nat) (i_5 : Int) (b0_0 : (List DT113)) (b0_1 : Int) (b0_2 : Int) (b0_3 : (List DT65)) (b0_4 : (List DT117)) (b0_5 : (List Int)) (b0_6 : (List DT119)) (b0_7 : (List DT65)) (b0_8 : Int) (b0_9 : Int) (b1_0 : (List DT113)) (b1_1 : Int) (b1_2 : Int) (b1_3 : (List DT65)) (b1_4 : (List DT117)) (b1_5 : (List Int)) (b1_6 : (List DT119)) (b1_7 : (List DT65)) (b1_8 : Int) (b1_9 : Int) : Option Bool := loopRun C k 112 .bool [0, 0] [.r, .r, .l, .r, .b] [] [2, 3, 5] m ⟨[.one (.cell (.ptr 1 0)), .one (.cell (.ptr 5 0)), .one (.cell (.int .i64 i_5))], [.box (some T71) [.list false T113 b0_0, .int .i64 b0_1, .int .i64 b0_2, .list false T65 b0_3, .list false T117 b0_4, .list false (.int .i64) b0_5, .list false T119 b0_6, .list false T65 b0_7, .int .i64 b0_8, .int .i64 b0_9], .box (some T71) [.list false T113 b1_0, .int .i64 b1_1, .int .i64 b1_2, .list false T65 b1_3, .list false T117 b1_4, .list false (.int .i64) b1_5, .list false T119 b1_6, .list false T65 b1_7, .int .i64 b1_8, .int .i64 b1_9]]⟩
noncomputable def spec_l33Lists.l1 (k m : Nat) (i_5 : Int) (i_6 : Int) (b0_0 : (List DT113)) (b0_1 : Int) (b0_2 : Int) (b0_3 : (List DT65)) (b0_4 : (List DT117)) (b0_5 : (List Int)) (b0_6 : (List DT119)) (b0_7 : (List DT65)) (b0_8 : Int) (b0_9 : Int) (b1_0 : (List DT113)) (b1_1 : Int) (b1_2 : Int) (b1_3 : (List DT65)) (b1_4 : (List DT117)) (b1_5 : (List Int)) (b1_6 : (List DT119)) (b1_7 : (List DT65)) (b1_8 : Int) (b1_9 : Int) : Option Bool := loopRun C k 112 .bool [0, 0] [.r, .r, .r, .l, .r, .b] [] [2, 3, 5, 6] m ⟨[.one (.cell (.ptr 1 0)), .one (.cell (.ptr 5 0)), .one (.cell (.int .i64 i_5)), .one (.cell (.int .i64 i_6))], [.box (some T71) [.list false T113 b0_0, .int .i64 b0_1, .int .i64 b0_2, .list false T65 b0_3, .list false T117 b0_4, .list false (.int .i64) b0_5, .list false T119 b0_6, .list false T65 b0_7, .int .i64 b0_8, .int .i64 b0_9], .box (some T71) [.list false T113 b1_0, .int .i64 b1_1, .int .i64 b1_2, .list false T65 b1_3, .list false T117 b1_4, .list false (.int .i64) b1_5, .list false T119 b1_6, .list false T65 b1_7, .int .i64 b1_8, .int .i64 b1_9]]⟩
noncomputable def slices_Equal_impl_Event (k : Nat) (s1_0 : (List DT113)) (s2_1 : (List DT113)) : Option Bool := run C k 113 .bool [.val (.list T113) s1_0, .val (.list T113) s2_1]
noncomputable def slices_Equal_impl_Event.l0 (k m : Nat) (s1_0 : (List DT113)) (s2_1 : (List DT113)) (t_12 : Int) (t_13 : Int) : Option Bool := loopRun C k 113 .bool [0, 0] [.r, .r, .l, .r, .b] [] [0, 1, 12, 13] m ⟨[.one (.cell (.list false T113 s1_0)), .one (.cell (.list false T113 s2_1)), .one (.cell (.int .i64 t_12)), .one (.cell (.int .i64 t_13))], []⟩
noncomputable def slices_Equal_impl_Tempo (k : Nat) (s1_0 : (List DT65)) (s2_1 : (List DT65)) : Option Bool := run C k 114 .bool [.val (.list T65) s1_0, .val (.list T65) s2_1]
noncomputable def slices_Equal_impl_Tempo.l0 (k m : Nat) (s1_0 : (List DT65)) (s2_1 : (List DT65)) (t_12 : Int) (t_13 : Int) : Option Bool := loopRun C k 114 .bool [0, 0] [.r, .r, .l, .r, .b] [] [0, 1, 12, 13] m ⟨[.one (.cell (.list false T65 s1_0)), .one (.cell (.list false T65 s2_1)), .one (.cell (.int .i64 t_12)), .one (.cell (.int .i64 t_13))], []⟩
noncomputable def slices_EqualFunc_impl_Player_116 (k : Nat) (s1_0 : (List DT117)) (s2_1 : (List DT117)) : Option Bool := run C k 115 .bool [.val (.list T117) s1_0, .val (.list T117) s2_1, .clo 116 []]
noncomputable def slices_EqualFunc_impl_Player_116.l0 (k m : Nat) (s2_1 : (List DT117)) (t_15 : (List DT117)) (t_16 : Int) (t_17 : Int) : Option Bool := loopRun C k 115 .bool [0, 0, 0] [.r, .r, .l, .r, .b] [] [1, 2, 15, 16, 17] m ⟨[.one (.cell (.list false T117 s2_1)), .one (.cell (.clo 116 [])), .one (.cell (.list false T117 t_15)), .one (.cell (.int .i64 t_16)), .one (.cell (.int .i64 t_17))], []⟩
noncomputable def slices_Equal___int_int (k : Nat) (s1_0 : (List Int)) (s2_1 : (List Int)) : Option Bool := run C k 117 .bool [.val (.list (.int .i64)) s1_0, .val (.list (.int .i64)) s2_1]
noncomputable def slices_Equal___int_int.l0 (k m : Nat) (s1_0 : (List Int)) (s2_1 : (List Int)) (t_12 : Int) (t_13 : Int) : Option Bool := loopRun C k 117 .bool [0, 0] [.r, .r, .l, .r, .b] [] [0, 1, 12, 13] m ⟨[.one (.cell (.list false (.int .i64) s1_0)), .one (.cell (.list false (.int .i64) s2_1)), .one (.cell (.int .i64 t_12)), .one (.cell (.int .i64 t_13))], []⟩
noncomputable def slices_Equal_impl_Mark (k : Nat) (s1_0 : (List DT119)) (s2_1 : (List DT119)) : Option Bool := run C k 118 .bool [.val (.list T119) s1_0, .val (.list T119) s2_1]
noncomputable def slices_Equal_impl_Mark.l0 (k m : Nat) (s1_0 : (List DT119)) (s2_1 : (List DT119)) (t_12 : Int) (t_13 : Int) : Option Bool := loopRun C k 118 .bool [0, 0] [.r, .r, .l, .r, .b] [] [0, 1, 12, 13] m ⟨[.one (.cell (.list false T119 s1_0)), .one (.cell (.list false T119 s2_1)), .one (.cell (.int .i64 t_12)), .one (.cell (.int .i64 t_13))], []⟩
noncomputable def slices_Equal_impl_Letter (k : Nat) (s1_0 : (List DT65)) (s2_1 : (List DT65)) : Option Bool := run C k 119 .bool [.val (.list T65) s1_0, .val (.list T65) s2_1]
noncomputable def slices_Equal_impl_Letter.l0 (k m : Nat) (s1_0 : (List DT65)) (s2_1 : (List DT65)) (t_12 : Int) (t_13 : Int) : Option Bool := loopRun C k 119 .bool [0, 0] [.r, .r, .l, .r, .b] [] [0, 1, 12, 13] m ⟨[.one (.cell (.list false T65 s1_0)), .one (.cell (.list false T65 s2_1)), .one (.cell (.int .i64 t_12)), .one (.cell (.int .i64 t_13))], []⟩
noncomputable def laws_eqEventS (k : Nat) (a_0 : (List DT113)) (b_1 : (List DT113)) : Option Bool := run C k 41 .bool [.val (.list T113) a_0, .val (.list T113) b_1]
noncomputable def laws_eqEventS.l0 (k m : Nat) (a_0 : (List DT113)) (b_1 : (List DT113)) (i_5 : Int) : Option Bool := loopRun C k 41 .bool [0, 0] [.r, .r, .l, .r, .b] [] [0, 1, 5] m ⟨[.one (.cell (.list false T113 a_0)), .one (.cell (.list false T113 b_1)), .one (.cell (.int .i64 i_5))], []⟩
noncomputable def laws_eqMeter (k : Nat) (a_0 : DT65) (b_1 : DT65) : Option Bool := run C k 99 .bool [.val T65 a_0, .val T65 b_1]
noncomputable def laws_eqTempoS (k : Nat) (a_0 : (List DT65)) (b_1 : (List DT65)) : Option Bool := run C k 100 .bool [.val (.list T65) a_0, .val (.list T65) b_1]
noncomputable def laws_eqTempoS.l0 (k m : Nat) (a_0 : (List DT65)) (b_1 : (List DT65)) (i_5 : Int) : Option Bool := loopRun C k 100 .bool [0, 0] [.r, .r, .l, .r, .b] [] [0, 1, 5] m ⟨[.one (.cell (.list false T65 a_0)), .one (.cell (.list false T65 b_1)), .one (.cell (.int .i64 i_5))], []⟩
noncomputable def laws_eqPlayerS (k : Nat) (a_0 : (List DT117)) (b_1 : (List DT117)) : Option Bool := run C k 101 .bool [.val (.list T117) a_0, .val (.list T117) b_1]
noncomputable def laws_eqPlayerS.l0 (k m : Nat) (a_0 : (List DT117)) (b_1 : (List DT117)) (i_5 : Int) : Option Bool := loopRun C k 101 .bool [0, 0] [.r, .r, .l, .r, .b] [] [0, 1, 5] m ⟨[.one (.cell (.list false T117 a_0)), .one (.cell (.list false T117 b_1)), .one (.cell (.int .i64 i_5))], []⟩
noncomputable def laws_eqIntS (k : Nat) (a_0 : (List Int)) (b_1 : (List Int)) : Option Bool := run C k 31 .bool [.val (.list (.int .i64)) a_0, .val (.list (.int .i64)) b_1]
noncomputable def laws_eqIntS.l0 (k m : Nat) (a_0 : (List Int)) (b_1 : (List Int)) (i_5 : Int) : Option Bool := loopRun C k 31 .bool [0, 0] [.r, .r, .l, .r, .b] [] [0, 1, 5] m ⟨[.one (.cell (.list false (.int .i64) a_0)), .one (.cell (.list false (.int .i64) b_1)), .one (.cell (.int .i64 i_5))], []⟩
noncomputable def laws_eqMarkS (k : Nat) (a_0 : (List DT119)) (b_1 : (List DT119)) : Option Bool := run C k 102 .bool [.val (.list T119) a_0, .val (.list T119) b_1]
noncomputable def laws_eqMarkS.l0 (k m : Nat) (a_0 : (List DT119)) (b_1 : (List DT119)) (i_5 : Int) : Option Bool := loopRun C k 102 .bool [0, 0] [.r, .r, .l, .r, .b] [] [0, 1, 5] m ⟨[.one (.cell (.list false T119 a_0)), .one (.cell (.list false T119 b_1)), .one (.cell (.int .i64 i_5))], []⟩
noncomputable def laws_eqLetterS (k : Nat) (a_0 : (List DT65)) (b_1 : (List DT65)) : Option Bool := run C k 103 .bool [.val (.list T65) a_0, .val (.list T65) b_1]
noncomputable def laws_eqLetterS.l0 (k m : Nat) (a_0 : (List DT65)) (b_1 : (List DT65)) (i_5 : Int) : Option Bool := loopRun C k 103 .bool [0, 0] [.r, .r, .l, .r, .b] [] [0, 1, 5] m ⟨[.one (.cell (.list false T65 a_0)), .one (.cell (.list false T65 b_1)), .one (.cell (.int .i64 i_5))], []⟩
noncomputable def laws_szPlayer (k : Nat) (a_0 : DT117) (left_1 : Int) : Option Int := run C k 133 (.int .i64) [.val T117 a_0, .val (.int .i64) left_1]
noncomputable def laws_toEvent (k : Nat) (a_0 : DT113) : Option DT113 := run C k 85 T113 [.val T113 a_0]
noncomputable def laws_toTempo (k : Nat) (a_0 : DT65) : Option DT65 := run C k 134 T65 [.val T65 a_0]
noncomputable def laws_toPlayer (k : Nat) (a_0 : DT117) : Option DT117 := run C k 135 T117 [.val T117 a_0]
noncomputable def laws_toMark (k : Nat) (a_0 : DT119) : Option DT119 := run C k 136 T119 [.val T119 a_0]
noncomputable def laws_toLetter (k : Nat) (a_0 : DT65) : Option DT65 := run C k 137 T65 [.val T65 a_0]
noncomputable def impl_equalPlayers (k : Nat) (a_0 : DT117) (b_1 : DT117) : Option Bool := run C k 116 .bool [.val T117 a_0, .val T117 b_1]
noncomputable def laws_eqEvent (k : Nat) (a_0 : DT113) (b_1 : DT113) : Option Bool := run C k 87 .bool [.val T113 a_0, .val T113 b_1]
noncomputable def laws_eqTempo (k : Nat) (a_0 : DT65) (b_1 : DT65) : Option Bool := run C k 130 .bool [.val T65 a_0, .val T65 b_1]
noncomputable def laws_eqPlayer (k : Nat) (a_0 : DT117) (b_1 : DT117) : Option Bool := run C k 131 .bool [.val T117 a_0, .val T117 b_1]
noncomputable def laws_eqMark (k : Nat) (a_0 : DT119) (b_1 : DT119) : Option Bool := run C k 132 .bool [.val T119 a_0, .val T119 b_1]
noncomputable def laws_eqLetter (k : Nat) (a_0 : DT65) (b_1 : DT65) : Option Bool := run C k 138 .bool [.val T65 a_0, .val T65 b_1]
theorem laws_FnExactEqualOrchestras_eq (k : Nat) (aA_0 : DT71) (aB_1 : DT71) : laws_FnExactEqualOrchestras (k + 1) aA_0 aB_1 =
 (laws_szOrchestra k aA_0 1048576).bind fun r1 =>
 if (r1 : Int) < 0 then
 some true
 else (laws_szOrchestra k aB_1 r1).bind fun r2 =>
 if (r2 : Int) < 0 then
 some true
 else (laws_toOrchestra k aA_0).bind fun r3 =>
 (laws_toOrchestra k aB_1).bind fun r4 =>
 (spec_EqualOrchestras k r3 r4).bind fun r5 =>
 (laws_toOrchestra k aA_0).bind fun r6 =>
 (laws_toOrchestra k aB_1).bind fun r7 =>
 (impl_EqualOrchestras k r6 r7).bind fun r8 =>
 if ¬ ((decide (r8 = true)) = (decide (r5 = true))) then
 some false
 else (laws_toOrchestra k aA_0).bind fun r9 =>
 (laws_eqOrchestra k r6 r9).bind fun r10 =>
 if ¬ (r10 = true) then
 some false
 else (laws_toOrchestra k aB_1).bind fun r11 =>
 (laws_eqOrchestra k r7 r11).bind fun r12 =>
 if ¬ (r12 = true) then
 some false
 else some true := by kernel_rfl
theorem laws_szOrchestra_eq (k : Nat) (a_0 : DT71) (left_1 : Int) : laws_szOrchestra (k + 1) a_0 left_1 =
 (laws_szEventS k a_0.1 left_1).bind fun r1 =>
 if (r1 : Int) < 0 then
 some (-1)
 else (laws_szTempoS k a_0.2.2.1 r1).bind fun r2 =>
 if (r2 : Int) < 0 then
 some (-1)
 else (laws_szPlayerS k a_0.2.2.2.1 r2).bind fun r3 =>
 if (r3 : Int) < 0 then
 some (-1)
 else (laws_szIntS k a_0.2.2.2.2.1 r3).bind fun r4 =>
 if (r4 : Int) < 0 then
 some (-1)
 else (laws_szMarkS k a_0.2.2.2.2.2.1 r4).bind fun r5 =>
 if (r5 : Int) < 0 then
 some (-1)
 else (laws_szLetterS k a_0.2.2.2.2.2.2.1 r5).bind fun r6 =>
 if (r6 : Int) < 0 then
 some (-1)
 else some r6 := by kernel_rfl
theorem laws_toOrchestra_eq (k : Nat) (a_0 : DT71) : laws_toOrchestra (k + 1) a_0 =
 (laws_toEventS k a_0.1).bind fun r1 =>
 (laws_toMeter k a_0.2.1).bind fun r2 =>
 (laws_toTempoS k a_0.2.2.1).bind fun r3 =>
 (laws_toPlayerS k a_0.2.2.2.1).bind fun r4 =>
 (laws_toIntS k a_0.2.2.2.2.1).bind fun r5 =>
 (laws_toMarkS k a_0.2.2.2.2.2.1).bind fun r6 =>
 (laws_toLetterS k a_0.2.2.2.2.2.2.1).bind fun r7 =>
 some (r1, (r2, (r3, (r4, (r5, (r6, (r7, a_0.2.2.2.2.2.2.2))))))) := by kernel_rfl
theorem spec_EqualOrchestras_eq (k : Nat) (a_0 : DT71) (b_1 : DT71) : spec_EqualOrchestras (k + 1) a_0 b_1 =
 if ((a_0.2.1.1 : Int) = b_1.2.1.1) ∧ ((a_0.2.1.2.1 : Int) = b_1.2.1.2.1) then
 if (a_0.2.2.2.2.2.2.2.1 : Int) = b_1.2.2.2.2.2.2.2.1 then
 if (a_0.2.2.2.2.2.2.2.2.1 : Int) = b_1.2.2.2.2.2.2.2.2.1 then
 (spec_EqualScores k a_0.1 b_1.1).bind fun r1 =>
 if r1 = true then
 (spec_EqualInts k a_0.2.2.2.2.1 b_1.2.2.2.2.1).bind fun r2 =>
 if r2 = true then
 (spec_EqualMarks k a_0.2.2.2.2.2.1 b_1.2.2.2.2.2.1).bind fun r3 =>
 if r3 = true then
 (spec_l33Players k a_0.2.2.2.1 b_1.2.2.2.1).bind fun r4 =>
 if r4 = true then
 (spec_l33Lists k a_0 b_1).bind fun r5 =>
 some (decide (r5 = true))
 else some false
 else some false
 else some false
 else some false
 else some false
 else some false
 else some false := by kernel_rfl
theorem impl_EqualOrchestras_eq (k : Nat) (a_0 : DT71) (b_1 : DT71) : impl_EqualOrchestras (k + 1) a_0 b_1 =
 (slices_Equal_impl_Event k a_0.1 b_1.1).bind fun r1 =>
 if r1 = true then
 if ((a_0.2.1.1 : Int) = b_1.2.1.1) ∧ ((a_0.2.1.2.1 : Int) = b_1.2.1.2.1) then
 (slices_Equal_impl_Tempo k a_0.2.2.1 b_1.2.2.1).bind fun r2 =>
 if r2 = true then
 (slices_EqualFunc_impl_Player_116 k a_0.2.2.2.1 b_1.2.2.2.1).bind fun r3 =>
 if r3 = true then
 (slices_Equal___int_int k a_0.2.2.2.2.1 b_1.2.2.2.2.1).bind fun r4 =>
 if r4 = true then
 (slices_Equal_impl_Mark k a_0.2.2.2.2.2.1 b_1.2.2.2.2.2.1).bind fun r5 =>
 if r5 = true then
 (slices_Equal_impl_Letter k a_0.2.2.2.2.2.2.1 b_1.2.2.2.2.2.2.1).bind fun r6 =>
 if r6 = true then
 if (a_0.2.2.2.2.2.2.2.1 : Int) = b_1.2.2.2.2.2.2.2.1 then
 some (decide ((a_0.2.2.2.2.2.2.2.2.1 : Int) = b_1.2.2.2.2.2.2.2.2.1))
 else some false
 else some false
 else some false
 else some false
 else some false
 else some false
 else some false
 else some false := by kernel_rfl
theorem laws_eqOrchestra_eq (k : Nat) (a_0 : DT71) (b_1 : DT71) : laws_eqOrchestra (k + 1) a_0 b_1 =
 (laws_eqEventS k a_0.1 b_1.1).bind fun r1 =>
 if ¬ (r1 = true) then
 some false
 else (laws_eqMeter k a_0.2.1 b_1.2.1).bind fun r2 =>
 if ¬ (r2 = true) then
 some false
 else (laws_eqTempoS k a_0.2.2.1 b_1.2.2.1).bind fun r3 =>
 if ¬ (r3 = true) then
 some false
 else (laws_eqPlayerS k a_0.2.2.2.1 b_1.2.2.2.1).bind fun r4 =>
 if ¬ (r4 = true) then
 some false
 else (laws_eqIntS k a_0.2.2.2.2.1 b_1.2.2.2.2.1).bind fun r5 =>
 if ¬ (r5 = true) then
 some false
 else (laws_eqMarkS k a_0.2.2.2.2.2.1 b_1.2.2.2.2.2.1).bind fun r6 =>
 if ¬ (r6 = true) then
 some false
 else (laws_eqLetterS k a_0.2.2.2.2.2.2.1 b_1.2.2.2.2.2.2.1).bind fun r7 =>
 if ¬ (r7 = true) then
 some false
 else if (a_0.2.2.2.2.2.2.2.1 : Int) ≠ b_1.2.2.2.2.2.2.2.1 then
 some false
 else if (a_0.2.2.2.2.2.2.2.2.1 : Int) ≠ b_1.2.2.2.2.2.2.2.2.1 then
 some false
 else some true := by kernel_rfl
theorem laws_szEventS_eq (k : Nat) (a_0 : (List DT113)) (left_1 : Int) : laws_szEventS (k + 1) a_0 left_1 =
 if ((IntKind.wrap .i64 (left_1 - ((List.length a_0 : Nat) : Int))) : Int) < 0 then
 some (-1)
 else some (IntKind.wrap .i64 (left_1 - ((List.length a_0 : Nat) : Int))) := by kernel_rfl
theorem laws_szTempoS_eq (k : Nat) (a_0 : (List DT65)) (left_1 : Int) : laws_szTempoS (k + 1) a_0 left_1 =
 if ((IntKind.wrap .i64 (left_1 - ((List.length a_0 : Nat) : Int))) : Int) < 0 then
 some (-1)
 else some (IntKind.wrap .i64 (left_1 - ((List.length a_0 : Nat) : Int))) := by kernel_rfl
theorem laws_szPlayerS_eq (k : Nat) (a_0 : (List DT117)) (left_1 : Int) : laws_szPlayerS (k + 1) a_0 left_1 =
 if ((IntKind.wrap .i64 (left_1 - ((List.length a_0 : Nat) : Int))) : Int) < 0 then
 some (-1)
 else laws_szPlayerS.l0 k k a_0 (IntKind.wrap .i64 (left_1 - ((List.length a_0 : Nat) : Int))) 0 := by kernel_rfl
theorem laws_szPlayerS.l0_eq (k m : Nat) (a_0 : (List DT117)) (left_1 : Int) (i_5 : Int) : laws_szPlayerS.l0 k (m + 1) a_0 left_1 i_5 =
 if (i_5 : Int) < ((List.length a_0 : Nat) : Int) then
 if 0 ≤ i_5 then
 if i_5 < ((List.length a_0 : Nat) : Int) then
 (laws_szPlayer k (rd T117 a_0 i_5) left_1).bind fun r1 =>
 if (r1 : Int) < 0 then
 some (-1)
 else laws_szPlayerS.l0 k m a_0 r1 (IntKind.wrap .i64 (i_5 + 1)) else none else none
 else some left_1 := by kernel_rfl
theorem laws_szIntS_eq (k : Nat) (a_0 : (List Int)) (left_1 : Int) : laws_szIntS (k + 1) a_0 left_1 =
 if ((IntKind.wrap .i64 (left_1 - ((List.length a_0 : Nat) : Int))) : Int) < 0 then
 some (-1)
 else some (IntKind.wrap .i64 (left_1 - ((List.length a_0 : Nat) : Int))) := by kernel_rfl
theorem laws_szMarkS_eq (k : Nat) (a_0 : (List DT119)) (left_1 : Int) : laws_szMarkS (k + 1) a_0 left_1 =
 if ((IntKind.wrap .i64 (left_1 - ((List.length a_0 : Nat) : Int))) : Int) < 0 then
 some (-1)
 else some (IntKind.wrap .i64 (left_1 - ((List.length a_0 : Nat) : Int))) := by kernel_rfl
theorem laws_szLetterS_eq (k : Nat) (a_0 : (List DT65)) (left_1 : Int) : laws_szLetterS (k + 1) a_0 left_1 =
 if ((IntKind.wrap .i64 (left_1 - ((List.length a_0 : Nat) : Int))) : Int) < 0 then
 some (-1)
 else some (IntKind.wrap .i64 (left_1 - ((List.length a_0 : Nat) : Int))) := by kernel_rfl
theorem laws_toEventS_eq (k : Nat) (a_0 : (List DT113)) : laws_toEventS (k + 1) a_0 =
 if 0 ≤ ((List.length a_0 : Nat) : Int) then
 if ((List.length a_0 : Nat) : Int) ≤ ((List.length a_0 : Nat) : Int) then
 if ((List.length a_0 : Nat) : Int) * 32 ≤ 211106232532992 then
 laws_toEventS.l0 k k a_0 0 (List.replicate (Int.toNat ((List.length a_0 : Nat) : Int)) (Ty.dflt T113)) else none else none else none := by kernel_rfl
theorem laws_toEventS.l0_eq (k m : Nat) (a_0 : (List DT113)) (i_4 : Int) (s0 : (List DT113)) : laws_toEventS.l0 k (m + 1) a_0 i_4 s0 =
 if (i_4 : Int) < ((List.length a_0 : Nat) : Int) then
 if 0 ≤ i_4 then
 if i_4 < ((List.length a_0 : Nat) : Int) then
 (laws_toEvent k (rd T113 a_0 i_4)).bind fun r1 =>
 if 0 ≤ i_4 then
 if i_4 < ((List.length s0 : Nat) : Int) then
 laws_toEventS.l0 k m a_0 (IntKind.wrap .i64 (i_4 + 1)) (List.set s0 (Int.toNat i_4) r1) else none else none else none else none
 else some s0 := by kernel_rfl
theorem laws_toMeter_eq (k : Nat) (a_0 : DT65) : laws_toMeter (k + 1) a_0 =
 some a_0 := by kernel_rfl
theorem laws_toTempoS_eq (k : Nat) (a_0 : (List DT65)) : laws_toTempoS (k + 1) a_0 =
 if 0 ≤ ((List.length a_0 : Nat) : Int) then
 if ((List.length a_0 : Nat) : Int) ≤ ((List.length a_0 : Nat) : Int) then
 if ((List.length a_0 : Nat) : Int) * 16 ≤ 211106232532992 then
 laws_toTempoS.l0 k k a_0 0 (List.replicate (Int.toNat ((List.length a_0 : Nat) : Int)) (Ty.dflt T65)) else none else none else none := by kernel_rfl
theorem laws_toTempoS.l0_eq (k m : Nat) (a_0 : (List DT65)) (i_4 : Int) (s0 : (List DT65)) : laws_toTempoS.l0 k (m + 1) a_0 i_4 s0 =
 if (i_4 : Int) < ((List.length a_0 : Nat) : Int) then
 if 0 ≤ i_4 then
 if i_4 < ((List.length a_0 : Nat) : Int) then
 (laws_toTempo k (rd T65 a_0 i_4)).bind fun r1 =>
 if 0 ≤ i_4 then
 if i_4 < ((List.length s0 : Nat) : Int) then
 laws_toTempoS.l0 k m a_0 (IntKind.wrap .i64 (i_4 + 1)) (List.set s0 (Int.toNat i_4) r1) else none else none else none else none
 else some s0 := by kernel_rfl
theorem laws_toPlayerS_eq (k : Nat) (a_0 : (List DT117)) : laws_toPlayerS (k + 1) a_0 =
 if 0 ≤ ((List.length a_0 : Nat) : Int) then
 if ((List.length a_0 : Nat) : Int) ≤ ((List.length a_0 : Nat) : Int) then
 if ((List.length a_0 : Nat) : Int) * 48 ≤ 211106232532992 then
 laws_toPlayerS.l0 k k a_0 0 (List.replicate (Int.toNat ((List.length a_0 : Nat) : Int)) (Ty.dflt T117)) else none else none else none := by kernel_rfl
theorem laws_toPlayerS.l0_eq (k m : Nat) (a_0 : (List DT117)) (i_4 : Int) (s0 : (List DT117)) : laws_toPlayerS.l0 k (m + 1) a_0 i_4 s0 =
 if (i_4 : Int) < ((List.length a_0 : Nat) : Int) then
 if 0 ≤ i_4 then
 if i_4 < ((List.length a_0 : Nat) : Int) then
 (laws_toPlayer k (rd T117 a_0 i_4)).bind fun r1 =>
 if 0 ≤ i_4 then
 if i_4 < ((List.length s0 : Nat) : Int) then
 laws_toPlayerS.l0 k m a_0 (IntKind.wrap .i64 (i_4 + 1)) (List.set s0 (Int.toNat i_4) r1) else none else none else none else none
 else some s0 := by kernel_rfl
theorem laws_toIntS_eq (k : Nat) (a_0 : (List Int)) : laws_toIntS (k + 1) a_0 =
 if 0 ≤ ((List.length a_0 : Nat) : Int) then
 if ((List.length a_0 : Nat) : Int) ≤ ((List.length a_0 : Nat) : Int) then
 if ((List.length a_0 : Nat) : Int) * 8 ≤ 211106232532992 then
 laws_toIntS.l0 k k a_0 0 (List.replicate (Int.toNat ((List.length a_0 : Nat) : Int)) (Ty.dflt (.int .i64))) else none else none else none := by kernel_rfl
theorem laws_toIntS.l0_eq (k m : Nat) (a_0 : (List Int)) (i_4 : Int) (s0 : (List Int)) : laws_toIntS.l0 k (m + 1) a_0 i_4 s0 =
 if (i_4 : Int) < ((List.length a_0 : Nat) : Int) then
 if 0 ≤ i_4 then
 if i_4 < ((List.length a_0 : Nat) : Int) then
 if 0 ≤ i_4 then
 if i_4 < ((List.length s0 : Nat) : Int) then
 laws_toIntS.l0 k m a_0 (IntKind.wrap .i64 (i_4 + 1)) (List.set s0 (Int.toNat i_4) (rd (.int .i64) a_0 i_4)) else none else none else none else none
 else some s0 := by kernel_rfl
theorem laws_toMarkS_eq (k : Nat) (a_0 : (List DT119)) : laws_toMarkS (k + 1) a_0 =
 if 0 ≤ ((List.length a_0 : Nat) : Int) then
 if ((List.length a_0 : Nat) : Int) ≤ ((List.length a_0 : Nat) : Int) then
 if ((List.length a_0 : Nat) : Int) * 40 ≤ 211106232532992 then
 laws_toMarkS.l0 k k a_0 0 (List.replicate (Int.toNat ((List.length a_0 : Nat) : Int)) (Ty.dflt T119)) else none else none else none := by kernel_rfl
theorem laws_toMarkS.l0_eq (k m : Nat) (a_0 : (List DT119)) (i_4 : Int) (s0 : (List DT119)) : laws_toMarkS.l0 k (m + 1) a_0 i_4 s0 =
 if (i_4 : Int) < ((List.length a_0 : Nat) : Int) then
 if 0 ≤ i_4 then
 if i_4 < ((List.length a_0 : Nat) : Int) then
 (laws_toMark k (rd T119 a_0 i_4)).bind fun r1 =>
 if 0 ≤ i_4 then
 if i_4 < ((List.length s0 : Nat) : Int) then
 laws_toMarkS.l0 k m a_0 (IntKind.wrap .i64 (i_4 + 1)) (List.set s0 (Int.toNat i_4) r1) else none else none else none else none
 else some s0 := by kernel_rfl
theorem laws_toLetterS_eq (k : Nat) (a_0 : (List DT65)) : laws_toLetterS (k + 1) a_0 =
 if 0 ≤ ((List.length a_0 : Nat) : Int) then
 if ((List.length a_0 : Nat) : Int) ≤ ((List.length a_0 : Nat) : Int) then
 if ((List.length a_0 : Nat) : Int) * 16 ≤ 211106232532992 then
 laws_toLetterS.l0 k k a_0 0 (List.replicate (Int.toNat ((List.length a_0 : Nat) : Int)) (Ty.dflt T65)) else none else none else none := by kernel_rfl
theorem laws_toLetterS.l0_eq (k m : Nat) (a_0 : (List DT65)) (i_4 : Int) (s0 : (List DT65)) : laws_toLetterS.l0 k (m + 1) a_0 i_4 s0 =
 if (i_4 : Int) < ((List.length a_0 : Nat) : Int) then
 if 0 ≤ i_4 then
 if i_4 < ((List.length a_0 : Nat) : Int) then
 (laws_toLetter k (rd T65 a_0 i_4)).bind fun r1 =>
 if 0 ≤ i_4 then
 if i_4 < ((List.length s0 : Nat) : Int) then
 laws_toLetterS.l0 k m a_0 (IntKind.wrap .i64 (i_4 + 1)) (List.set s0 (Int.toNat i_4) r1) else none else none else none else none
 else some s0 := by kernel_rfl
theorem spec_EqualScores_eq (k : Nat) (a_0 : (List DT113)) (b_1 : (List DT113)) : spec_EqualScores (k + 1) a_0 b_1 =
 if (((List.length a_0 : Nat) : Int) : Int) ≠ ((List.length b_1 : Nat) : Int) then
 some false
 else spec_EqualScores.l0 k k a_0 b_1 0 := by kernel_rfl
theorem spec_EqualScores.l0_eq (k m : Nat) (a_0 : (List DT113)) (b_1 : (List DT113)) (i_5 : Int) : spec_EqualScores.l0 k (m + 1) a_0 b_1 i_5 =
 if (i_5 : Int) < ((List.length a_0 : Nat) : Int) then
 if 0 ≤ i_5 then
 if i_5 < ((List.length a_0 : Nat) : Int) then
 if 0 ≤ i_5 then
 if i_5 < ((List.length b_1 : Nat) : Int) then
 if ¬ ((((rd T113 a_0 i_5).1 : Int) = (rd T113 b_1 i_5).1) ∧ ((((rd T113 a_0 i_5).2.1 : Int) = (rd T113 b_1 i_5).2.1) ∧ ((((rd T113 a_0 i_5).2.2.1 : Int) = (rd T113 b_1 i_5).2.2.1) ∧ (((rd T113 a_0 i_5).2.2.2.1 : Int) = (rd T113 b_1 i_5).2.2.2.1)))) then
 some false
 else spec_EqualScores.l0 k m a_0 b_1 (IntKind.wrap .i64 (i_5 + 1)) else none else none else none else none
 else some true := by kernel_rfl
theorem spec_EqualInts_eq (k : Nat) (a_0 : (List Int)) (b_1 : (List Int)) : spec_EqualInts (k + 1) a_0 b_1 =
 if (((List.length a_0 : Nat) : Int) : Int) ≠ ((List.length b_1 : Nat) : Int) then
 some false
 else spec_EqualInts.l0 k k a_0 b_1 0 := by kernel_rfl
theorem spec_EqualInts.l0_eq (k m : Nat) (a_0 : (List Int)) (b_1 : (List Int)) (i_5 : Int) : spec_EqualInts.l0 k (m + 1) a_0 b_1 i_5 =
 if (i_5 : Int) < ((List.length a_0 : Nat) : Int) then
 if 0 ≤ i_5 then
 if i_5 < ((List.length a_0 : Nat) : Int) then
 if 0 ≤ i_5 then
 if i_5 < ((List.length b_1 : Nat) : Int) then
 if ((rd (.int .i64) a_0 i_5) : Int) ≠ (rd (.int .i64) b_1 i_5) then
 some false
 else spec_EqualInts.l0 k m a_0 b_1 (IntKind.wrap .i64 (i_5 + 1)) else none else none else none else none
 else some true := by kernel_rfl
theorem spec_EqualMarks_eq (k : Nat) (a_0 : (List DT119)) (b_1 : (List DT119)) : spec_EqualMarks (k + 1) a_0 b_1 =
 if (((List.length a_0 : Nat) : Int) : Int) ≠ ((List.length b_1 : Nat) : Int) then
 some false
 else spec_EqualMarks.l0 k k a_0 b_1 0 := by kernel_rfl
theorem spec_EqualMarks.l0_eq (k m : Nat) (a_0 : (List DT119)) (b_1 : (List DT119)) (i_5 : Int) : spec_EqualMarks.l0 k (m + 1) a_0 b_1 i_5 =
 if (i_5 : Int) < ((List.length a_0 : Nat) : Int) then
 if 0 ≤ i_5 then
 if i_5 < ((List.length a_0 : Nat) : Int) then
 if 0 ≤ i_5 then
 if i_5 < ((List.length b_1 : Nat) : Int) then
 if ¬ ((((rd T119 a_0 i_5).1 : Int) = (rd T119 b_1 i_5).1) ∧ ((((rd T119 a_0 i_5).2.1 : Int) = (rd T119 b_1 i_5).2.1) ∧ ((((rd T119 a_0 i_5).2.2.1 : Int) = (rd T119 b_1 i_5).2.2.1) ∧ ((((rd T119 a_0 i_5).2.2.2.1 : Int) = (rd T119 b_1 i_5).2.2.2.1) ∧ (((rd T119 a_0 i_5).2.2.2.2.1 : Int) = (rd T119 b_1 i_5).2.2.2.2.1))))) then
 some false
 else spec_EqualMarks.l0 k m a_0 b_1 (IntKind.wrap .i64 (i_5 + 1)) else none else none else none else none
 else some true := by kernel_rfl
theorem spec_l33Players_eq (k : Nat) (a_0 : (List DT117)) (b_1 : (List DT117)) : spec_l33Players (k + 1) a_0 b_1 =
 if (((List.length a_0 : Nat) : Int) : Int) ≠ ((List.length b_1 : Nat) : Int) then
 some false
 else spec_l33Players.l0 k k a_0 b_1 0 := by kernel_rfl
theorem spec_l33Players.l0_eq (k m : Nat) (a_0 : (List DT117)) (b_1 : (List DT117)) (i_5 : Int) : spec_l33Players.l0 k (m + 1) a_0 b_1 i_5 =
 if (i_5 : Int) < ((List.length a_0 : Nat) : Int) then
 if 0 ≤ i_5 then
 if i_5 < ((List.length a_0 : Nat) : Int) then
 if 0 ≤ i_5 then
 if i_5 < ((List.length b_1 : Nat) : Int) then
 if ((rd T117 a_0 i_5).1 : Int) ≠ (rd T117 b_1 i_5).1 then
 some false
 else if 0 ≤ i_5 then
 if i_5 < ((List.length a_0 : Nat) : Int) then
 if 0 ≤ i_5 then
 if i_5 < ((List.length b_1 : Nat) : Int) then
 if ((rd T117 a_0 i_5).2.1 : Int) ≠ (rd T117 b_1 i_5).2.1 then
 some false
 else if 0 ≤ i_5 then
 if i_5 < ((List.length a_0 : Nat) : Int) then
 if 0 ≤ i_5 then
 if i_5 < ((List.length b_1 : Nat) : Int) then
 if ((rd T117 a_0 i_5).2.2.1 : Int) ≠ (rd T117 b_1 i_5).2.2.1 then
 some false
 else if 0 ≤ i_5 then
 if i_5 < ((List.length a_0 : Nat) : Int) then
 if 0 ≤ i_5 then
 if i_5 < ((List.length b_1 : Nat) : Int) then
 (spec_EqualInts k (rd T117 a_0 i_5).2.2.2.1 (rd T117 b_1 i_5).2.2.2.1).bind fun r1 =>
 if ¬ (r1 = true) then
 some false
 else spec_l33Players.l0 k m a_0 b_1 (IntKind.wrap .i64 (i_5 + 1)) else none else none else none else none else none else none else none else none else none else none else none else none else none else none else none else none
 else some true := by kernel_rfl
theorem spec_l33Lists_eq (k : Nat) (a_0 : DT71) (b_1 : DT71) : spec_l33Lists (k + 1) a_0 b_1 =
 if (((List.length a_0.2.2.1 : Nat) : Int) : Int) ≠ ((List.length b_1.2.2.1 : Nat) : Int) then
 some false
 else if (((List.length a_0.2.2.2.2.2.2.1 : Nat) : Int) : Int) ≠ ((List.length b_1.2.2.2.2.2.2.1 : Nat) : Int) then
 some false
 else spec_l33Lists.l0 k k 0 a_0.1 a_0.2.1.1 a_0.2.1.2.1 a_0.2.2.1 a_0.2.2.2.1 a_0.2.2.2.2.1 a_0.2.2.2.2.2.1 a_0.2.2.2.2.2.2.1 a_0.2.2.2.2.2.2.2.1 a_0.2.2.2.2.2.2.2.2.1 b_1.1 b_1.2.1.1 b_1.2.1.2.1 b_1.2.2.1 b_1.2.2.2.1 b_1.2.2.2.2.1 b_1.2.2.2.2.2.1 b_1.2.2.2.2.2.2.1 b_1.2.2.2.2.2.2.2.1 b_1.2.2.2.2.2.2.2.2.1 := by kernel_rfl
theorem spec_l33Lists.l0_eq (k m : Nat) (i_5 : Int) (b0_0 : (List DT113)) (b0_1 : Int) (b0_2 : Int) (b0_3 : (List DT65)) (b0_4 : (List DT117)) (b0_5 : (List Int)) (b0_6 : (List DT119)) (b0_7 : (List DT65)) (b0_8 : Int) (b0_9 : Int) (b1_0 : (List DT113)) (b1_1 : Int) (b1_2 : Int) (b1_3 : (List DT65)) (b1_4 : (List DT117)) (b1_5 : (List Int)) (b1_6 : (List DT119)) (b1_7 : (List DT65)) (b1_8 : Int) (b1_9 : Int) : spec_l33Lists.l0 k (m + 1) i_5 b0_0 b0_1 b0_2 b0_3 b0_4 b0_5 b0_6 b0_7 b0_8 b0_9 b1_0 b1_1 b1_2 b1_3 b1_4 b1_5 b1_6 b1_7 b1_8 b1_9 =
 if (i_5 : Int) < ((List.length b0_3 : Nat) : Int) then
 if 0 ≤ i_5 then
 if i_5 < ((List.length b0_3 : Nat) : Int) then
 if 0 ≤ i_5 then
 if i_5 < ((List.length b1_3 : Nat) : Int) then
 if ¬ ((((rd T65 b0_3 i_5).1 : Int) = (rd T65 b1_3 i_5).1) ∧ (((rd T65 b0_3 i_5).2.1 : Int) = (rd T65 b1_3 i_5).2.1)) then
 some false
 else spec_l33Lists.l0 k m (IntKind.wrap .i64 (i_5 + 1)) b0_0 b0_1 b0_2 b0_3 b0_4 b0_5 b0_6 b0_7 b0_8 b0_9 b1_0 b1_1 b1_2 b1_3 b1_4 b1_5 b1_6 b1_7 b1_8 b1_9 else none else none else none else none
 else spec_l33Lists.l1 k k i_5 0 b0_0 b0_1 b0_2 b0_3 b0_4 b0_5 b0_6 b0_7 b0_8 b0_9 b1_0 b1_1 b1_2 b1_3 b1_4 b1_5 b1_6 b1_7 b1_8 b1_9 := by kernel_rfl
theorem spec_l33Lists.l1_eq (k m : Nat) (i_5 : Int) (i_6 : Int) (b0_0 : (List DT113)) (b0_1 : Int) (b0_2 : Int) (b0_3 : (List DT65)) (b0_4 : (List DT117)) (b0_5 : (List Int)) (b0_6 : (List DT119)) (b0_7 : (List DT65)) (b0_8 : Int) (b0_9 : Int) (b1_0 : (List DT113)) (b1_1 : Int) (b1_2 : Int) (b1_3 : (List DT65)) (b1_4 : (List DT117)) (b1_5 : (List Int)) (b1_6 : (List DT119)) (b1_7 : (List DT65)) (b1_8 : Int) (b1_9 : Int) : spec_l33Lists.l1 k (m + 1) i_5 i_6 b0_0 b0_1 b0_2 b0_3 b0_4 b0_5 b0_6 b0_7 b0_8 b0_9 b1_0 b1_1 b1_2 b1_3 b1_4 b1_5 b1_6 b1_7 b1_8 b1_9 =
 if (i_6 : Int) < ((List.length b0_7 : Nat) : Int) then
 if 0 ≤ i_6 then
 if i_6 < ((List.length b0_7 : Nat) : Int) then
 if 0 ≤ i_6 then
 if i_6 < ((List.length b1_7 : Nat) : Int) then
 if ¬ ((((rd T65 b0_7 i_6).1 : Int) = (rd T65 b1_7 i_6).1) ∧ (((rd T65 b0_7 i_6).2.1 : Int) = (rd T65 b1_7 i_6).2.1)) then
 some false
 else spec_l33Lists.l1 k m i_5 (IntKind.wrap .i64 (i_6 + 1)) b0_0 b0_1 b0_2 b0_3 b0_4 b0_5 b0_6 b0_7 b0_8 b0_9 b1_0 b1_1 b1_2 b1_3 b1_4 b1_5 b1_6 b1_7 b1_8 b1_9 else none else none else none else none
 else some true := by kernel_rfl
theorem slices_Equal_impl_Event_eq (k : Nat) (s1_0 : (List DT113)) (s2_1 : (List DT113)) : slices_Equal_impl_Event (k + 1) s1_0 s2_1 =
 if (((List.length s1_0 : Nat) : Int) : Int) ≠ ((List.length s2_1 : Nat) : Int) then
 some false
 else slices_Equal_impl_Event.l0 k k s1_0 s2_1 ((List.length s1_0 : Nat) : Int) 0 := by kernel_rfl
theorem slices_Equal_impl_Event.l0_eq (k m : Nat) (s1_0 : (List DT113)) (s2_1 : (List DT113)) (t_12 : Int) (t_13 : Int) : slices_Equal_impl_Event.l0 k (m + 1) s1_0 s2_1 t_12 t_13 =
 if (t_13 : Int) < t_12 then
 if 0 ≤ t_13 then
 if t_13 < ((List.length s1_0 : Nat) : Int) then
 if 0 ≤ t_13 then
 if t_13 < ((List.length s2_1 : Nat) : Int) then
 if ¬ ((((rd T113 s1_0 t_13).1 : Int) = (rd T113 s2_1 t_13).1) ∧ ((((rd T113 s1_0 t_13).2.1 : Int) = (rd T113 s2_1 t_13).2.1) ∧ ((((rd T113 s1_0 t_13).2.2.1 : Int) = (rd T113 s2_1 t_13).2.2.1) ∧ (((rd T113 s1_0 t_13).2.2.2.1 : Int) = (rd T113 s2_1 t_13).2.2.2.1)))) then
 some false
 else slices_Equal_impl_Event.l0 k m s1_0 s2_1 t_12 (IntKind.wrap .i64 (t_13 + 1)) else none else none else none else none
 else some true := by kernel_rfl
theorem slices_Equal_impl_Tempo_eq (k : Nat) (s1_0 : (List DT65)) (s2_1 : (List DT65)) : slices_Equal_impl_Tempo (k + 1) s1_0 s2_1 =
 if (((List.length s1_0 : Nat) : Int) : Int) ≠ ((List.length s2_1 : Nat) : Int) then
 some false
 else slices_Equal_impl_Tempo.l0 k k s1_0 s2_1 ((List.length s1_0 : Nat) : Int) 0 := by kernel_rfl
theorem slices_Equal_impl_Tempo.l0_eq (k m : Nat) (s1_0 : (List DT65)) (s2_1 : (List DT65)) (t_12 : Int) (t_13 : Int) : slices_Equal_impl_Tempo.l0 k (m + 1) s1_0 s2_1 t_12 t_13 =
 if (t_13 : Int) < t_12 then
 if 0 ≤ t_13 then
 if t_13 < ((List.length s1_0 : Nat) : Int) then
 if 0 ≤ t_13 then
 if t_13 < ((List.length s2_1 : Nat) : Int) then
 if ¬ ((((rd T65 s1_0 t_13).1 : Int) = (rd T65 s2_1 t_13).1) ∧ (((rd T65 s1_0 t_13).2.1 : Int) = (rd T65 s2_1 t_13).2.1)) then
 some false
 else slices_Equal_impl_Tempo.l0 k m s1_0 s2_1 t_12 (IntKind.wrap .i64 (t_13 + 1)) else none else none else none else none
 else some true := by kernel_rfl
theorem slices_EqualFunc_impl_Player_116_eq (k : Nat) (s1_0 : (List DT117)) (s2_1 : (List DT117)) : slices_EqualFunc_impl_Player_116 (k + 1) s1_0 s2_1 =
 if (((List.length s1_0 : Nat) : Int) : Int) ≠ ((List.length s2_1 : Nat) : Int) then
 some false
 else slices_EqualFunc_impl_Player_116.l0 k k s2_1 s1_0 ((List.length s1_0 : Nat) : Int) 0 := by kernel_rfl
theorem slices_EqualFunc_impl_Player_116.l0_eq (k m : Nat) (s2_1 : (List DT117)) (t_15 : (List DT117)) (t_16 : Int) (t_17 : Int) : slices_EqualFunc_impl_Player_116.l0 k (m + 1) s2_1 t_15 t_16 t_17 =
 if (t_17 : Int) < t_16 then
 if 0 ≤ t_17 then
 if t_17 < ((List.length t_15 : Nat) : Int) then
 if 0 ≤ t_17 then
 if t_17 < ((List.length s2_1 : Nat) : Int) then
 (impl_equalPlayers k (rd T117 t_15 t_17) (rd T117 s2_1 t_17)).bind fun r1 =>
 if ¬ (r1 = true) then
 some false
 else slices_EqualFunc_impl_Player_116.l0 k m s2_1 t_15 t_16 (IntKind.wrap .i64 (t_17 + 1)) else none else none else none else none
 else some true := by kernel_rfl
theorem slices_Equal___int_int_eq (k : Nat) (s1_0 : (List Int)) (s2_1 : (List Int)) : slices_Equal___int_int (k + 1) s1_0 s2_1 =
 if (((List.length s1_0 : Nat) : Int) : Int) ≠ ((List.length s2_1 : Nat) : Int) then
 some false
 else slices_Equal___int_int.l0 k k s1_0 s2_1 ((List.length s1_0 : Nat) : Int) 0 := by kernel_rfl
theorem slices_Equal___int_int.l0_eq (k m : Nat) (s1_0 : (List Int)) (s2_1 : (List Int)) (t_12 : Int) (t_13 : Int) : slices_Equal___int_int.l0 k (m + 1) s1_0 s2_1 t_12 t_13 =
 if (t_13 : Int) < t_12 then
 if 0 ≤ t_13 then
 if t_13 < ((List.length s1_0 : Nat) : Int) then
 if 0 ≤ t_13 then
 if t_13 < ((List.length s2_1 : Nat) : Int) then
 if ((rd (.int .i64) s1_0 t_13) : Int) ≠ (rd (.int .i64) s2_1 t_13) then
 some false
 else slices_Equal___int_int.l0 k m s1_0 s2_1 t_12 (IntKind.wrap .i64 (t_13 + 1)) else none else none else none else none
 else some true := by kernel_rfl
theorem slices_Equal_impl_Mark_eq (k : Nat) (s1_0 : (List DT119)) (s2_1 : (List DT119)) : slices_Equal_impl_Mark (k + 1) s1_0 s2_1 =
 if (((List.length s1_0 : Nat) : Int) : Int) ≠ ((List.length s2_1 : Nat) : Int) then
 some false
 else slices_Equal_impl_Mark.l0 k k s1_0 s2_1 ((List.length s1_0 : Nat) : Int) 0 := by kernel_rfl
theorem slices_Equal_impl_Mark.l0_eq (k m : Nat) (s1_0 : (List DT119)) (s2_1 : (List DT119)) (t_12 : Int) (t_13 : Int) : slices_Equal_impl_Mark.l0 k (m + 1) s1_0 s2_1 t_12 t_13 =
 if (t_13 : Int) < t_12 then
 if 0 ≤ t_13 then
 if t_13 < ((List.length s1_0 : Nat) : Int) then
 if 0 ≤ t_13 then
 if t_13 < ((List.length s2_1 : Nat) : Int) then
 if ¬ ((((rd T119 s1_0 t_13).1 : Int) = (rd T119 s2_1 t_13).1) ∧ ((((rd T119 s1_0 t_13).2.1 : Int) = (rd T119 s2_1 t_13).2.1) ∧ ((((rd T119 s1_0 t_13).2.2.1 : Int) = (rd T119 s2_1 t_13).2.2.1) ∧ ((((rd T119 s1_0 t_13).2.2.2.1 : Int) = (rd T119 s2_1 t_13).2.2.2.1) ∧ (((rd T119 s1_0 t_13).2.2.2.2.1 : Int) = (rd T119 s2_1 t_13).2.2.2.2.1))))) then
 some false
 else slices_Equal_impl_Mark.l0 k m s1_0 s2_1 t_12 (IntKind.wrap .i64 (t_13 + 1)) else none else none else none else none
 else some true := by kernel_rfl
theorem slices_Equal_impl_Letter_eq (k : Nat) (s1_0 : (List DT65)) (s2_1 : (List DT65)) : slices_Equal_impl_Letter (k + 1) s1_0 s2_1 =
 if (((List.length s1_0 : Nat) : Int) : Int) ≠ ((List.length s2_1 : Nat) : Int) then
 some false
 else slices_Equal_impl_Letter.l0 k k s1_0 s2_1 ((List.length s1_0 : Nat) : Int) 0 := by kernel_rfl
theorem slices_Equal_impl_Letter.l0_eq (k m : Nat) (s1_0 : (List DT65)) (s2_1 : (List DT65)) (t_12 : Int) (t_13 : Int) : slices_Equal_impl_Letter.l0 k (m + 1) s1_0 s2_1 t_12 t_13 =
 if (t_13 : Int) < t_12 then
 if 0 ≤ t_13 then
 if t_13 < ((List.length s1_0 : Nat) : Int) then
 if 0 ≤ t_13 then
 if t_13 < ((List.length s2_1 : Nat) : Int) then
 if ¬ ((((rd T65 s1_0 t_13).1 : Int) = (rd T65 s2_1 t_13).1) ∧ (((rd T65 s1_0 t_13).2.1 : Int) = (rd T65 s2_1 t_13).2.1)) then
 some false
 else slices_Equal_impl_Letter.l0 k m s1_0 s2_1 t_12 (IntKind.wrap .i64 (t_13 + 1)) else none else none else none else none
 else some true := by kernel_rfl
theorem laws_eqEventS_eq (k : Nat) (a_0 : (List DT113)) (b_1 : (List DT113)) : laws_eqEventS (k + 1) a_0 b_1 =
 if (((List.length a_0 : Nat) : Int) : Int) ≠ ((List.length b_1 : Nat) : Int) then
 some false
 else laws_eqEventS.l0 k k a_0 b_1 0 := by kernel_rfl
theorem laws_eqEventS.l0_eq (k m : Nat) (a_0 : (List DT113)) (b_1 : (List DT113)) (i_5 : Int) : laws_eqEventS.l0 k (m + 1) a_0 b_1 i_5 =
 if (i_5 : Int) < ((List.length a_0 : Nat) : Int) then
 if 0 ≤ i_5 then
 if i_5 < ((List.length a_0 : Nat) : Int) then
 if 0 ≤ i_5 then
 if i_5 < ((List.length b_1 : Nat) : Int) then
 (laws_eqEvent k (rd T113 a_0 i_5) (rd T113 b_1 i_5)).bind fun r1 =>
 if ¬ (r1 = true) then
 some false
 else laws_eqEventS.l0 k m a_0 b_1 (IntKind.wrap .i64 (i_5 + 1)) else none else none else none else none
 else some true := by kernel_rfl
theorem laws_eqMeter_eq (k : Nat) (a_0 : DT65) (b_1 : DT65) : laws_eqMeter (k + 1) a_0 b_1 =
 if (a_0.1 : Int) ≠ b_1.1 then
 some false
 else if (a_0.2.1 : Int) ≠ b_1.2.1 then
 some false
 else some true := by kernel_rfl
theorem laws_eqTempoS_eq (k : Nat) (a_0 : (List DT65)) (b_1 : (List DT65)) : laws_eqTempoS (k + 1) a_0 b_1 =
 if (((List.length a_0 : Nat) : Int) : Int) ≠ ((List.length b_1 : Nat) : Int) then
 some false
 else laws_eqTempoS.l0 k k a_0 b_1 0 := by kernel_rfl
theorem laws_eqTempoS.l0_eq (k m : Nat) (a_0 : (List DT65)) (b_1 : (List DT65)) (i_5 : Int) : laws_eqTempoS.l0 k (m + 1) a_0 b_1 i_5 =
 if (i_5 : Int) < ((List.length a_0 : Nat) : Int) then
 if 0 ≤ i_5 then
 if i_5 < ((List.length a_0 : Nat) : Int) then
 if 0 ≤ i_5 then
 if i_5 < ((List.length b_1 : Nat) : Int) then
 (laws_eqTempo k (rd T65 a_0 i_5) (rd T65 b_1 i_5)).bind fun r1 =>
 if ¬ (r1 = true) then
 some false
 else laws_eqTempoS.l0 k m a_0 b_1 (IntKind.wrap .i64 (i_5 + 1)) else none else none else none else none
 else some true := by kernel_rfl
theorem laws_eqPlayerS_eq (k : Nat) (a_0 : (List DT117)) (b_1 : (List DT117)) : laws_eqPlayerS (k + 1) a_0 b_1 =
 if (((List.length a_0 : Nat) : Int) : Int) ≠ ((List.length b_1 : Nat) : Int) then
 some false
 else laws_eqPlayerS.l0 k k a_0 b_1 0 := by kernel_rfl
theorem laws_eqPlayerS.l0_eq (k m : Nat) (a_0 : (List DT117)) (b_1 : (List DT117)) (i_5 : Int) : laws_eqPlayerS.l0 k (m + 1) a_0 b_1 i_5 =
 if (i_5 : Int) < ((List.length a_0 : Nat) : Int) then
 if 0 ≤ i_5 then
 if i_5 < ((List.length a_0 : Nat) : Int) then
 if 0 ≤ i_5 then
 if i_5 < ((List.length b_1 : Nat) : Int) then
 (laws_eqPlayer k (rd T117 a_0 i_5) (rd T117 b_1 i_5)).bind fun r1 =>
 if ¬ (r1 = true) then
 some false
 else laws_eqPlayerS.l0 k m a_0 b_1 (IntKind.wrap .i64 (i_5 + 1)) else none else none else none else none
 else some true := by kernel_rfl
theorem laws_eqIntS_eq (k : Nat) (a_0 : (List Int)) (b_1 : (List Int)) : laws_eqIntS (k + 1) a_0 b_1 =
 if (((List.length a_0 : Nat) : Int) : Int) ≠ ((List.length b_1 : Nat) : Int) then
 some false
 else laws_eqIntS.l0 k k a_0 b_1 0 := by kernel_rfl
theorem laws_eqIntS.l0_eq (k m : Nat) (a_0 : (List Int)) (b_1 : (List Int)) (i_5 : Int) : laws_eqIntS.l0 k (m + 1) a_0 b_1 i_5 =
 if (i_5 : Int) < ((List.length a_0 : Nat) : Int) then
 if 0 ≤ i_5 then
 if i_5 < ((List.length a_0 : Nat) : Int) then
 if 0 ≤ i_5 then
 if i_5 < ((List.length b_1 : Nat) : Int) then
 if ((rd (.int .i64) a_0 i_5) : Int) ≠ (rd (.int .i64) b_1 i_5) then
 some false
 else laws_eqIntS.l0 k m a_0 b_1 (IntKind.wrap .i64 (i_5 + 1)) else none else none else none else none
 else some true := by kernel_rfl
theorem laws_eqMarkS_eq (k : Nat) (a_0 : (List DT119)) (b_1 : (List DT119)) : laws_eqMarkS (k + 1) a_0 b_1 =
 if (((List.length a_0 : Nat) : Int) : Int) ≠ ((List.length b_1 : Nat) : Int) then
 some false
 else laws_eqMarkS.l0 k k a_0 b_1 0 := by kernel_rfl
theorem laws_eqMarkS.l0_eq (k m : Nat) (a_0 : (List DT119)) (b_1 : (List DT119)) (i_5 : Int) : laws_eqMarkS.l0 k (m + 1) a_0 b_1 i_5 =
 if (i_5 : Int) < ((List.length a_0 : Nat) : Int) then
 if 0 ≤ i_5 then
 if i_5 < ((List.length a_0 : Nat) : Int) then
 if 0 ≤ i_5 then
 if i_5 < ((List.length b_1 : Nat) : Int) then
 (laws_eqMark k (rd T119 a_0 i_5) (rd T119 b_1 i_5)).bind fun r1 =>
 if ¬ (r1 = true) then
 some false
 else laws_eqMarkS.l0 k m a_0 b_1 (IntKind.wrap .i64 (i_5 + 1)) else none else none else none else none
 else some true := by kernel_rfl
theorem laws_eqLetterS_eq (k : Nat) (a_0 : (List DT65)) (b_1 : (List DT65)) : laws_eqLetterS (k + 1) a_0 b_1 =
 if (((List.length a_0 : Nat) : Int) : Int) ≠ ((List.length b_1 : Nat) : Int) then
 some false
 else laws_eqLetterS.l0 k k a_0 b_1 0 := by kernel_rfl
theorem laws_eqLetterS.l0_eq (k m : Nat) (a_0 : (List DT65)) (b_1 : (List DT65)) (i_5 : Int) : laws_eqLetterS.l0 k (m + 1) a_0 b_1 i_5 =
 if (i_5 : Int) < ((List.length a_0 : Nat) : Int) then
 if 0 ≤ i_5 then
 if i_5 < ((List.length a_0 : Nat) : Int) then
 if 0 ≤ i_5 then
 if i_5 < ((List.length b_1 : Nat) : Int) then
 (laws_eqLetter k (rd T65 a_0 i_5) (rd T65 b_1 i_5)).bind fun r1 =>
 if ¬ (r1 = true) then
 some false
 else laws_eqLetterS.l0 k m a_0 b_1 (IntKind.wrap .i64 (i_5 + 1)) else none else none else none else none
 else some true := by kernel_rfl
theorem laws_szPlayer_eq (k : Nat) (a_0 : DT117) (left_1 : Int) : laws_szPlayer (k + 1) a_0 left_1 =
 (laws_szIntS k a_0.2.2.2.1 left_1).bind fun r1 =>
 if (r1 : Int) < 0 then
 some (-1)
 else some r1 := by kernel_rfl
theorem laws_toEvent_eq (k : Nat) (a_0 : DT113) : laws_toEvent (k + 1) a_0 =
 some a_0 := by kernel_rfl
theorem laws_toTempo_eq (k : Nat) (a_0 : DT65) : laws_toTempo (k + 1) a_0 =
 some a_0 := by kernel_rfl
theorem laws_toPlayer_eq (k : Nat) (a_0 : DT117) : laws_toPlayer (k + 1) a_0 =
 (laws_toIntS k a_0.2.2.2.1).bind fun r1 =>
 some (a_0.1, (a_0.2.1, (a_0.2.2.1, (r1, ())))) := by kernel_rfl
theorem laws_toMark_eq (k : Nat) (a_0 : DT119) : laws_toMark (k + 1) a_0 =
 some a_0 := by kernel_rfl
theorem laws_toLetter_eq (k : Nat) (a_0 : DT65) : laws_toLetter (k + 1) a_0 =
 some a_0 := by kernel_rfl
theorem impl_equalPlayers_eq (k : Nat) (a_0 : DT117) (b_1 : DT117) : impl_equalPlayers (k + 1) a_0 b_1 =
 if (a_0.1 : Int) = b_1.1 then
 if (a_0.2.1 : Int) = b_1.2.1 then
 if (a_0.2.2.1 : Int) = b_1.2.2.1 then
 (slices_Equal___int_int k a_0.2.2.2.1 b_1.2.2.2.1).bind fun r1 =>
 some (decide (r1 = true))
 else some false
 else some false
 else some false := by kernel_rfl
theorem laws_eqEvent_eq (k : Nat) (a_0 : DT113) (b_1 : DT113) : laws_eqEvent (k + 1) a_0 b_1 =
 if (a_0.1 : Int) ≠ b_1.1 then
 some false
 else if (a_0.2.1 : Int) ≠ b_1.2.1 then
 some false
 else if (a_0.2.2.1 : Int) ≠ b_1.2.2.1 then
 some false
 else if (a_0.2.2.2.1 : Int) ≠ b_1.2.2.2.1 then
 some false
 else some true := by kernel_rfl
theorem laws_eqTempo_eq (k : Nat) (a_0 : DT65) (b_1 : DT65) : laws_eqTempo (k + 1) a_0 b_1 =
 if (a_0.1 : Int) ≠ b_1.1 then
 some false
 else if (a_0.2.1 : Int) ≠ b_1.2.1 then
 some false
 else some true := by kernel_rfl
theorem laws_eqPlayer_eq (k : Nat) (a_0 : DT117) (b_1 : DT117) : laws_eqPlayer (k + 1) a_0 b_1 =
 if (a_0.1 : Int) ≠ b_1.1 then
 some false
 else if (a_0.2.1 : Int) ≠ b_1.2.1 then
 some false
 else if (a_0.2.2.1 : Int) ≠ b_1.2.2.1 then
 some false
 else (laws_eqIntS k a_0.2.2.2.1 b_1.2.2.2.1).bind fun r1 =>
 if ¬ (r1 = true) then
 some false
 else some true := by kernel_rfl
theorem laws_eqMark_eq (k : Nat) (a_0 : DT119) (b_1 : DT119) : laws_eqMark (k + 1) a_0 b_1 =
 if (a_0.1 : Int) ≠ b_1.1 then
 some false
 else if (a_0.2.1 : Int) ≠ b_1.2.1 then
 some false
 else if (a_0.2.2.1 : Int) ≠ b_1.2.2.1 then
 some false
 else if (a_0.2.2.2.1 : Int) ≠ b_1.2.2.2.1 then
 some false
 else if (a_0.2.2.2.2.1 : Int) ≠ b_1.2.2.2.2.1 then
 some false
 else some true := by kernel_rfl
theorem laws_eqLetter_eq (k : Nat) (a_0 : DT65) (b_1 : DT65) : laws_eqLetter (k + 1) a_0 b_1 =
 if (a_0.1 : Int) ≠ b_1.1 then
 some false
 else if (a_0.2.1 : Int) ≠ b_1.2.1 then
 some false
 else some true := by kernel_rfl
end Go.QFnExactEqualOrchestras
