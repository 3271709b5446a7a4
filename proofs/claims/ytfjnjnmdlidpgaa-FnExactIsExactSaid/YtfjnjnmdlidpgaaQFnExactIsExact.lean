/- The functions that the law FnExactIsExact reaches, as equations; printed by pe.py. No condition. -/
import Derived.Test.YtfjnjnmdlidpgaaEv
import Derived.Test.YtfjnjnmdlidpgaaProg
import Derived.KernelRfl
set_option linter.unusedVariables false
open Go Go.Flat
namespace Go.QFnExactIsExact
abbrev T23 : Ty := .pair (.int .i64) (.pair (.int .i64) .unit)
abbrev DT23 := Int × (Int × Unit)
abbrev T104 : Ty := .pair (.int .i64) T23
abbrev DT104 := Int × DT23
abbrev T89 : Ty := .pair (.int .i64) T104
abbrev DT89 := Int × DT104
abbrev T120 : Ty := .pair (.int .i64) (.pair (.int .i64) (.pair (.int .i64) (.pair (.list (.int .i64)) .unit)))
abbrev DT120 := Int × (Int × (Int × ((List Int) × Unit)))
abbrev T134 : Ty := .pair (.int .i64) T89
abbrev DT134 := Int × DT89
abbrev T30 : Ty := .pair (.list T89) (.pair T23 (.pair (.list T23) (.pair (.list T120) (.pair (.list (.int .i64)) (.pair (.list T134) (.pair (.list T23) T23))))))
abbrev DT30 := (List DT89) × (DT23 × ((List DT23) × ((List DT120) × ((List Int) × ((List DT134) × ((List DT23) × DT23))))))
noncomputable def C : Cfg := {
  P := Go.Proofs.Try.prog,
  tt := [(1, none), (2, some (.int .i64)), (3, some (.int .i64)), (4, some .bool), (5, some (.int .u8)), (6, some (.int .u8)), (9, some .str), (10, some .str), (11, some .str), (12, some (.int .u64)), (15, none), (16, none), (17, none), (21, some (.int .i32)), (22, some (.list T89)), (23, some T23), (24, some T23), (25, some (.list T23)), (26, some (.list T120)), (27, some (.list (.int .i64))), (28, some (.list T134)), (29, some (.list T23)), (30, some T30), (31, some T30), (32, none), (33, none), (34, some (.list T89)), (35, some T23), (36, some (.list T23)), (37, some (.list T120)), (38, some (.list T134)), (39, some (.list T23)), (40, some T30), (41, some T30), (42, none), (43, none), (44, none), (46, none), (47, some (.list T104)), (49, none), (50, none), (51, none), (52, none), (53, none), (54, none), (55, some (.list T23)), (56, none), (57, none), (58, none), (59, none), (60, none), (61, none), (62, none), (63, none), (65, none), (66, none), (67, none), (68, none), (69, none), (70, none), (71, none), (72, none), (73, none), (74, none), (75, none), (76, none), (77, none), (78, none), (79, none), (80, none), (81, none), (82, none), (83, none), (84, none), (85, some T23), (86, some T23), (88, none), (89, some T89), (90, some T89), (91, none), (92, none), (93, none), (94, none), (95, none), (96, none), (97, none), (98, none), (99, none), (100, none), (101, none), (102, none), (103, none), (104, some T104), (105, some T104), (106, none), (107, none), (108, none), (109, none), (110, some T23), (111, some T23), (113, none), (114, none), (115, some T89), (116, none), (117, none), (118, none), (119, none), (120, some T120), (121, some T120), (122, none), (123, some T23), (124, some T23), (125, some T120), (126, none), (127, none), (128, none), (129, none), (130, none), (131, none), (132, none), (133, some T23), (134, some T134), (135, some T134), (136, none), (137, some T134), (138, some T23), (139, some T23), (140, none), (141, some T23), (142, none), (143, none), (144, none), (145, none), (146, none), (147, none), (148, none), (149, none), (150, none), (151, none), (152, none), (153, none), (154, none), (155, none), (156, none), (157, none), (158, none), (159, none), (160, some (.int .u64)), (161, none), (162, none), (163, none), (164, none), (165, none), (166, none), (167, none), (168, none), (169, none), (170, none), (171, none), (172, none), (173, none), (174, none), (175, some (.int .i64)), (177, none), (178, none), (179, none), (180, none), (181, none), (182, some (.int .u32)), (183, none), (184, some (.int .u64)), (185, none), (186, none), (187, none), (188, some (.int .u64)), (189, none), (190, none), (191, none), (192, none), (193, none), (194, some (.list (.list (.int .i64)))), (195, none), (197, none), (198, none), (204, none), (205, some (.int .u8)), (206, some (.int .u8)), (207, none), (208, none), (209, some (.int .i32)), (210, some (.int .i32))],
  vars := [(15, [1, 3]), (29, [0, 3, 4]), (32, [0, 1, 5]), (36, [0, 1, 5]), (39, [0, 3, 4]), (41, [0, 1, 5]), (49, [0, 3, 4]), (50, [0, 3, 4]), (51, [0, 3, 4]), (52, [0, 3, 4]), (55, [0, 1, 5]), (56, [0, 1, 5]), (57, [0, 1, 5]), (58, [0, 1, 5]), (59, [0, 1, 4, 6, 7]), (60, [0, 3, 4, 6, 7, 8]), (63, [0, 1, 4, 6, 24, 25, 26]), (64, [0, 3, 4, 6, 7, 39, 40, 41]), (71, [0, 3]), (77, [0, 5, 6, 7]), (128, [0, 1, 7, 8]), (163, [0, 1]), (166, [0, 1])],
  sigs := [] }
noncomputable def laws_FnExactIsExact (k : Nat) (aO_0 : DT30) : Option Bool := run C k 4 .bool [.val T30 aO_0]
noncomputable def laws_szOrchestra (k : Nat) (a_0 : DT30) (left_1 : Int) : Option Int := run C k 10 (.int .i64) [.val T30 a_0, .val (.int .i64) left_1]
noncomputable def laws_toOrchestra (k : Nat) (a_0 : DT30) : Option DT30 := run C k 12 T30 [.val T30 a_0]
noncomputable def spec_IsExact (k : Nat) (o_0 : DT30) : Option Bool := run C k 15 .bool [.val T30 o_0]
noncomputable def spec_IsExact.l0 (k m : Nat) (i_3 : Int) (b0_0 : (List DT89)) (b0_1 : Int) (b0_2 : Int) (b0_3 : (List DT23)) (b0_4 : (List DT120)) (b0_5 : (List Int)) (b0_6 : (List DT134)) (b0_7 : (List DT23)) (b0_8 : Int) (b0_9 : Int) : Option Bool := loopRun C k 15 .bool [0] [.r, .l, .r, .b] [] [1, 3] m ⟨[.one (.cell (.ptr 1 0)), .one (.cell (.int .i64 i_3))], [.box (some T30) [.list false T89 b0_0, .int .i64 b0_1, .int .i64 b0_2, .list false T23 b0_3, .list false T120 b0_4, .list false (.int .i64) b0_5, .list false T134 b0_6, .list false T23 b0_7, .int .i64 b0_8, .int .i64 b0_9]]⟩
noncomputable def impl_IsExact (k : Nat) (o_0 : DT30) : Option Bool := run C k 16 .bool [.val T30 o_0]
noncomputable def laws_eqOrchestra (k : Nat) (a_0 : DT30) (b_1 : DT30) : Option Bool := run C k 14 .bool [.val T30 a_0, .val T30 b_1]
noncomputable def laws_szEventS (k : Nat) (a_0 : (List DT89)) (left_1 : Int) : Option Int := run C k 27 (.int .i64) [.val (.list T89) a_0, .val (.int .i64) left_1]
noncomputable def laws_szTempoS (k : Nat) (a_0 : (List DT23)) (left_1 : Int) : Option Int := run C k 44 (.int .i64) [.val (.list T23) a_0, .val (.int .i64) left_1]
noncomputable def laws_szPlayerS (k : Nat) (a_0 : (List DT120)) (left_1 : Int) : Option Int := run C k 36 (.int .i64) [.val (.list T120) a_0, .val (.int .i64) left_1]
noncomputable def laws_szPlayerS.l0 (k m : Nat) (a_0 : (List DT120)) (left_1 : Int) (i_5 : Int) : Option Int := loopRun C k 36 (.int .i64) [0, 0] [.r, .r, .r, .l, .r, .b] [] [0, 1, 5] m ⟨[.one (.cell (.list false T120 a_0)), .one (.cell (.int .i64 left_1)), .one (.cell (.int .i64 i_5))], []⟩
noncomputable def laws_szIntS (k : Nat) (a_0 : (List Int)) (left_1 : Int) : Option Int := run C k 45 (.int .i64) [.val (.list (.int .i64)) a_0, .val (.int .i64) left_1]
noncomputable def laws_szMarkS (k : Nat) (a_0 : (List DT134)) (left_1 : Int) : Option Int := run C k 46 (.int .i64) [.val (.list T134) a_0, .val (.int .i64) left_1]
noncomputable def laws_szLetterS (k : Nat) (a_0 : (List DT23)) (left_1 : Int) : Option Int := run C k 47 (.int .i64) [.val (.list T23) a_0, .val (.int .i64) left_1]
noncomputable def laws_toEventS (k : Nat) (a_0 : (List DT89)) : Option (List DT89) := run C k 29 (.list T89) [.val (.list T89) a_0]
noncomputable def laws_toEventS.l0 (k m : Nat) (a_0 : (List DT89)) (i_4 : Int) (s0 : (List DT89)) : Option (List DT89) := loopRun C k 29 (.list T89) [0] [.r, .r, .l, .r, .b] [] [0, 3, 4] m ⟨[.one (.cell (.list false T89 a_0)), .one (.cell (.ref 1)), .one (.cell (.int .i64 i_4))], [.arr T89 s0 .open]⟩
noncomputable def laws_toMeter (k : Nat) (a_0 : DT23) : Option DT23 := run C k 38 T23 [.val T23 a_0]
noncomputable def laws_toTempoS (k : Nat) (a_0 : (List DT23)) : Option (List DT23) := run C k 49 (.list T23) [.val (.list T23) a_0]
noncomputable def laws_toTempoS.l0 (k m : Nat) (a_0 : (List DT23)) (i_4 : Int) (s0 : (List DT23)) : Option (List DT23) := loopRun C k 49 (.list T23) [0] [.r, .r, .l, .r, .b] [] [0, 3, 4] m ⟨[.one (.cell (.list false T23 a_0)), .one (.cell (.ref 1)), .one (.cell (.int .i64 i_4))], [.arr T23 s0 .open]⟩
noncomputable def laws_toPlayerS (k : Nat) (a_0 : (List DT120)) : Option (List DT120) := run C k 39 (.list T120) [.val (.list T120) a_0]
noncomputable def laws_toPlayerS.l0 (k m : Nat) (a_0 : (List DT120)) (i_4 : Int) (s0 : (List DT120)) : Option (List DT120) := loopRun C k 39 (.list T120) [0] [.r, .r, .l, .r, .b] [] [0, 3, 4] m ⟨[.one (.cell (.list false T120 a_0)), .one (.cell (.ref 1)), .one (.cell (.int .i64 i_4))], [.arr T120 s0 .open]⟩
noncomputable def laws_toIntS (k : Nat) (a_0 : (List Int)) : Option (List Int) := run C k 50 (.list (.int .i64)) [.val (.list (.int .i64)) a_0]
noncomputable def laws_toIntS.l0 (k m : Nat) (a_0 : (List Int)) (i_4 : Int) (s0 : (List Int)) : Option (List Int) := loopRun C k 50 (.list (.int .i64)) [0] [.r, .r, .l, .r, .b] [] [0, 3, 4] m ⟨[.one (.cell (.list false (.int .i64) a_0)), .one (.cell (.ref 1)), .one (.cell (.int .i64 i_4))], [.arr (.int .i64) s0 .open]⟩
noncomputable def laws_toMarkS (k : Nat) (a_0 : (List DT134)) : Option (List DT134) := run C k 51 (.list T134) [.val (.list T134) a_0]
noncomputable def laws_toMarkS.l0 (k m : Nat) (a_0 : (List DT134)) (i_4 : Int) (s0 : (List DT134)) : Option (List DT134) := loopRun C k 51 (.list T134) [0] [.r, .r, .l, .r, .b] [] [0, 3, 4] m ⟨[.one (.cell (.list false T134 a_0)), .one (.cell (.ref 1)), .one (.cell (.int .i64 i_4))], [.arr T134 s0 .open]⟩
noncomputable def laws_toLetterS (k : Nat) (a_0 : (List DT23)) : Option (List DT23) := run C k 52 (.list T23) [.val (.list T23) a_0]
noncomputable def laws_toLetterS.l0 (k m : Nat) (a_0 : (List DT23)) (i_4 : Int) (s0 : (List DT23)) : Option (List DT23) := loopRun C k 52 (.list T23) [0] [.r, .r, .l, .r, .b] [] [0, 3, 4] m ⟨[.one (.cell (.list false T23 a_0)), .one (.cell (.ref 1)), .one (.cell (.int .i64 i_4))], [.arr T23 s0 .open]⟩
noncomputable def spec_TimeOf (k : Nat) (l_0 : (List DT23)) (tick_1 : Int) : Option (DT23 × (Bool × Unit)) := run C k 59 (.pair T23 (.pair .bool .unit)) [.val (.list T23) l_0, .val (.int .i64) tick_1]
noncomputable def spec_TimeOf.l0 (k m : Nat) (l_0 : (List DT23)) (tick_1 : Int) (i_7 : Int) (b0_0 : Int) (b0_1 : Int) (b1_0 : Int) (b1_1 : Int) : Option (DT23 × (Bool × Unit)) := loopRun C k 59 (.pair T23 (.pair .bool .unit)) [0, 0] [.r, .r, .r, .l, .r, .b] [] [0, 1, 4, 6, 7] m ⟨[.one (.cell (.list false T23 l_0)), .one (.cell (.int .i64 tick_1)), .one (.cell (.ptr 1 0)), .one (.cell (.ptr 5 0)), .one (.cell (.int .i64 i_7))], [.box (some T23) [.int .i64 b0_0, .int .i64 b0_1], .box (some T23) [.int .i64 b1_0, .int .i64 b1_1]]⟩
noncomputable def spec_TickAt (k : Nat) (l_0 : (List DT23)) (ms_1 : DT23) : Option (DT23 × (Bool × Unit)) := run C k 60 (.pair T23 (.pair .bool .unit)) [.val (.list T23) l_0, .val T23 ms_1]
noncomputable def spec_TickAt.l0 (k m : Nat) (l_0 : (List DT23)) (k_6 : Int) (i_8 : Int) (b0_0 : Int) (b0_1 : Int) (b1_0 : Int) (b1_1 : Int) (b2_0 : Int) (b2_1 : Int) : Option (DT23 × (Bool × Unit)) := loopRun C k 60 (.pair T23 (.pair .bool .unit)) [0, 0] [.r, .r, .r, .r, .l, .r, .b] [] [0, 3, 4, 6, 7, 8] m ⟨[.one (.cell (.list false T23 l_0)), .one (.cell (.ptr 1 0)), .one (.cell (.ptr 5 0)), .one (.cell (.int .i64 k_6)), .one (.cell (.ptr 9 0)), .one (.cell (.int .i64 i_8))], [.box (some T23) [.int .i64 b0_0, .int .i64 b0_1], .box (some T23) [.int .i64 b1_0, .int .i64 b1_1], .box (some T23) [.int .i64 b2_0, .int .i64 b2_1]]⟩
noncomputable def slices_ContainsFunc_impl_Event_62 (k : Nat) (s_0 : (List DT89)) (c1_0 : DT30) : Option Bool := run C k 61 .bool [.val (.list T89) s_0, .clo 62 [.ro T30 c1_0]]
noncomputable def laws_eqEventS (k : Nat) (a_0 : (List DT89)) (b_1 : (List DT89)) : Option Bool := run C k 32 .bool [.val (.list T89) a_0, .val (.list T89) b_1]
noncomputable def laws_eqEventS.l0 (k m : Nat) (a_0 : (List DT89)) (b_1 : (List DT89)) (i_5 : Int) : Option Bool := loopRun C k 32 .bool [0, 0] [.r, .r, .l, .r, .b] [] [0, 1, 5] m ⟨[.one (.cell (.list false T89 a_0)), .one (.cell (.list false T89 b_1)), .one (.cell (.int .i64 i_5))], []⟩
noncomputable def laws_eqMeter (k : Nat) (a_0 : DT23) (b_1 : DT23) : Option Bool := run C k 54 .bool [.val T23 a_0, .val T23 b_1]
noncomputable def laws_eqTempoS (k : Nat) (a_0 : (List DT23)) (b_1 : (List DT23)) : Option Bool := run C k 55 .bool [.val (.list T23) a_0, .val (.list T23) b_1]
noncomputable def laws_eqTempoS.l0 (k m : Nat) (a_0 : (List DT23)) (b_1 : (List DT23)) (i_5 : Int) : Option Bool := loopRun C k 55 .bool [0, 0] [.r, .r, .l, .r, .b] [] [0, 1, 5] m ⟨[.one (.cell (.list false T23 a_0)), .one (.cell (.list false T23 b_1)), .one (.cell (.int .i64 i_5))], []⟩
noncomputable def laws_eqPlayerS (k : Nat) (a_0 : (List DT120)) (b_1 : (List DT120)) : Option Bool := run C k 41 .bool [.val (.list T120) a_0, .val (.list T120) b_1]
noncomputable def laws_eqPlayerS.l0 (k m : Nat) (a_0 : (List DT120)) (b_1 : (List DT120)) (i_5 : Int) : Option Bool := loopRun C k 41 .bool [0, 0] [.r, .r, .l, .r, .b] [] [0, 1, 5] m ⟨[.one (.cell (.list false T120 a_0)), .one (.cell (.list false T120 b_1)), .one (.cell (.int .i64 i_5))], []⟩
noncomputable def laws_eqIntS (k : Nat) (a_0 : (List Int)) (b_1 : (List Int)) : Option Bool := run C k 56 .bool [.val (.list (.int .i64)) a_0, .val (.list (.int .i64)) b_1]
noncomputable def laws_eqIntS.l0 (k m : Nat) (a_0 : (List Int)) (b_1 : (List Int)) (i_5 : Int) : Option Bool := loopRun C k 56 .bool [0, 0] [.r, .r, .l, .r, .b] [] [0, 1, 5] m ⟨[.one (.cell (.list false (.int .i64) a_0)), .one (.cell (.list false (.int .i64) b_1)), .one (.cell (.int .i64 i_5))], []⟩
noncomputable def laws_eqMarkS (k : Nat) (a_0 : (List DT134)) (b_1 : (List DT134)) : Option Bool := run C k 57 .bool [.val (.list T134) a_0, .val (.list T134) b_1]
noncomputable def laws_eqMarkS.l0 (k m : Nat) (a_0 : (List DT134)) (b_1 : (List DT134)) (i_5 : Int) : Option Bool := loopRun C k 57 .bool [0, 0] [.r, .r, .l, .r, .b] [] [0, 1, 5] m ⟨[.one (.cell (.list false T134 a_0)), .one (.cell (.list false T134 b_1)), .one (.cell (.int .i64 i_5))], []⟩
noncomputable def laws_eqLetterS (k : Nat) (a_0 : (List DT23)) (b_1 : (List DT23)) : Option Bool := run C k 58 .bool [.val (.list T23) a_0, .val (.list T23) b_1]
noncomputable def laws_eqLetterS.l0 (k m : Nat) (a_0 : (List DT23)) (b_1 : (List DT23)) (i_5 : Int) : Option Bool := loopRun C k 58 .bool [0, 0] [.r, .r, .l, .r, .b] [] [0, 1, 5] m ⟨[.one (.cell (.list false T23 a_0)), .one (.cell (.list false T23 b_1)), .one (.cell (.int .i64 i_5))], []⟩
noncomputable def laws_szPlayer (k : Nat) (a_0 : DT120) (left_1 : Int) : Option Int := run C k 97 (.int .i64) [.val T120 a_0, .val (.int .i64) left_1]
noncomputable def laws_toEvent (k : Nat) (a_0 : DT89) : Option DT89 := run C k 91 T89 [.val T89 a_0]
noncomputable def laws_toTempo (k : Nat) (a_0 : DT23) : Option DT23 := run C k 111 T23 [.val T23 a_0]
noncomputable def laws_toPlayer (k : Nat) (a_0 : DT120) : Option DT120 := run C k 99 T120 [.val T120 a_0]
noncomputable def laws_toMark (k : Nat) (a_0 : DT134) : Option DT134 := run C k 112 T134 [.val T134 a_0]
noncomputable def laws_toLetter (k : Nat) (a_0 : DT23) : Option DT23 := run C k 113 T23 [.val T23 a_0]
noncomputable def spec_IsTempo (k : Nat) (l_0 : (List DT23)) : Option Bool := run C k 71 .bool [.val (.list T23) l_0]
noncomputable def spec_IsTempo.l0 (k m : Nat) (l_0 : (List DT23)) (i_3 : Int) : Option Bool := loopRun C k 71 .bool [0] [.r, .l, .r, .b] [] [0, 3] m ⟨[.one (.cell (.list false T23 l_0)), .one (.cell (.int .i64 i_3))], []⟩
noncomputable def spec_l1In (k : Nat) (x_0 : Int) (least_1 : Int) (most_2 : Int) : Option Bool := run C k 74 .bool [.val (.int .i64) x_0, .val (.int .i64) least_1, .val (.int .i64) most_2]
noncomputable def spec_Min (k : Nat) (a_0 : Int) (b_1 : Int) : Option Int := run C k 122 (.int .i64) [.val (.int .i64) a_0, .val (.int .i64) b_1]
noncomputable def spec_MakeRatio (k : Nat) (n_0 : Int) (d_1 : Int) : Option (DT23 × (Bool × Unit)) := run C k 123 (.pair T23 (.pair .bool .unit)) [.val (.int .i64) n_0, .val (.int .i64) d_1]
noncomputable def spec_AddRatio (k : Nat) (a_0 : DT23) (b_1 : DT23) : Option (DT23 × (Bool × Unit)) := run C k 124 (.pair T23 (.pair .bool .unit)) [.val T23 a_0, .val T23 b_1]
noncomputable def spec_IsRatio (k : Nat) (r_0 : DT23) : Option Bool := run C k 125 .bool [.val T23 r_0]
noncomputable def spec_LessRatio (k : Nat) (a_0 : DT23) (b_1 : DT23) : Option Bool := run C k 126 .bool [.val T23 a_0, .val T23 b_1]
noncomputable def spec_MulRatio (k : Nat) (a_0 : DT23) (b_1 : DT23) : Option (DT23 × (Bool × Unit)) := run C k 127 (.pair T23 (.pair .bool .unit)) [.val T23 a_0, .val T23 b_1]
noncomputable def slices_IndexFunc_impl_Event_62 (k : Nat) (s_0 : (List DT89)) (c1_0 : DT30) : Option Int := run C k 128 (.int .i64) [.val (.list T89) s_0, .clo 62 [.ro T30 c1_0]]
noncomputable def slices_IndexFunc_impl_Event_62.l0 (k m : Nat) (s_0 : (List DT89)) (f_1_c : DT30) (t_7 : Int) (t_8 : Int) : Option Int := loopRun C k 128 (.int .i64) [0, 0] [.r, .l, .r, .b] [] [0, 1, 7, 8] m ⟨[.one (.cell (.list false T89 s_0)), .one (.cell (.clo 62 [.ro T30 f_1_c])), .one (.cell (.int .i64 t_7)), .one (.cell (.int .i64 t_8))], []⟩
noncomputable def laws_eqEvent (k : Nat) (a_0 : DT89) (b_1 : DT89) : Option Bool := run C k 96 .bool [.val T89 a_0, .val T89 b_1]
noncomputable def laws_eqTempo (k : Nat) (a_0 : DT23) (b_1 : DT23) : Option Bool := run C k 119 .bool [.val T23 a_0, .val T23 b_1]
noncomputable def laws_eqPlayer (k : Nat) (a_0 : DT120) (b_1 : DT120) : Option Bool := run C k 101 .bool [.val T120 a_0, .val T120 b_1]
noncomputable def laws_eqMark (k : Nat) (a_0 : DT134) (b_1 : DT134) : Option Bool := run C k 120 .bool [.val T134 a_0, .val T134 b_1]
noncomputable def laws_eqLetter (k : Nat) (a_0 : DT23) (b_1 : DT23) : Option Bool := run C k 121 .bool [.val T23 a_0, .val T23 b_1]
noncomputable def spec_l4Abs (k : Nat) (n_0 : Int) : Option Int := run C k 164 (.int .i64) [.val (.int .i64) n_0]
noncomputable def spec_l4Gcd (k : Nat) (a_0 : Int) (b_1 : Int) : Option Int := run C k 163 (.int .i64) [.val (.int .i64) a_0, .val (.int .i64) b_1]
noncomputable def spec_l4Gcd.l0 (k m : Nat) (a_0 : Int) (b_1 : Int) : Option Int := loopRun C k 163 (.int .i64) [0, 0] [.r, .l, .b] [] [0, 1] m ⟨[.one (.cell (.int .i64 a_0)), .one (.cell (.int .i64 b_1))], []⟩
noncomputable def impl_IsExact_1 (k : Nat) (e_0 : DT89) (a_1 : DT30) : Option Bool := run C k 62 .bool [.val T89 e_0, .rp T30 a_1]
noncomputable def impl_TimeOf (k : Nat) (l_0 : (List DT23)) (tick_1 : Int) : Option (DT23 × (Bool × Unit)) := run C k 63 (.pair T23 (.pair .bool .unit)) [.val (.list T23) l_0, .val (.int .i64) tick_1]
noncomputable def impl_TimeOf.l0 (k m : Nat) (l_0 : (List DT23)) (tick_1 : Int) (t_24 : (List DT23)) (t_25 : Int) (t_26 : Int) (b0_0 : Int) (b0_1 : Int) (b1_0 : Int) (b1_1 : Int) : Option (DT23 × (Bool × Unit)) := loopRun C k 63 (.pair T23 (.pair .bool .unit)) [0, 0] [.r, .r, .r, .l, .r, .b] [] [0, 1, 4, 6, 24, 25, 26] m ⟨[.one (.cell (.list false T23 l_0)), .one (.cell (.int .i64 tick_1)), .one (.cell (.ptr 1 0)), .one (.cell (.ptr 5 0)), .one (.cell (.list false T23 t_24)), .one (.cell (.int .i64 t_25)), .one (.cell (.int .i64 t_26))], [.box (some T23) [.int .i64 b0_0, .int .i64 b0_1], .box (some T23) [.int .i64 b1_0, .int .i64 b1_1]]⟩
noncomputable def impl_TickAt (k : Nat) (l_0 : (List DT23)) (ms_1 : DT23) : Option (DT23 × (Bool × Unit)) := run C k 64 (.pair T23 (.pair .bool .unit)) [.val (.list T23) l_0, .val T23 ms_1]
noncomputable def impl_TickAt.l0 (k m : Nat) (l_0 : (List DT23)) (t_39 : (List DT23)) (t_40 : Int) (t_41 : Int) (b0_0 : Int) (b0_1 : Int) (b1_0 : Int) (b1_1 : Int) (b2_0 : Int) (b2_1 : Int) (b3_0 : Int) (b3_1 : Int) : Option (DT23 × (Bool × Unit)) := loopRun C k 64 (.pair T23 (.pair .bool .unit)) [0, 0] [.r, .r, .r, .l, .r, .b] [] [0, 3, 4, 6, 7, 39, 40, 41] m ⟨[.one (.cell (.list false T23 l_0)), .one (.cell (.ptr 1 0)), .one (.cell (.ptr 5 0)), .one (.cell (.ptr 9 0)), .one (.cell (.ptr 13 0)), .one (.cell (.list false T23 t_39)), .one (.cell (.int .i64 t_40)), .one (.cell (.int .i64 t_41))], [.box (some T23) [.int .i64 b0_0, .int .i64 b0_1], .box (some T23) [.int .i64 b1_0, .int .i64 b1_1], .box (some T23) [.int .i64 b2_0, .int .i64 b2_1], .box (some T23) [.int .i64 b3_0, .int .i64 b3_1]]⟩
noncomputable def impl_IsTempo (k : Nat) (l_0 : (List DT23)) : Option Bool := run C k 77 .bool [.val (.list T23) l_0]
noncomputable def impl_IsTempo.l0 (k m : Nat) (l_0 : (List DT23)) (t_5 : (List DT23)) (t_6 : Int) (t_7 : Int) : Option Bool := loopRun C k 77 .bool [0] [.r, .l, .r, .b] [] [0, 5, 6, 7] m ⟨[.one (.cell (.list false T23 l_0)), .one (.cell (.list false T23 t_5)), .one (.cell (.int .i64 t_6)), .one (.cell (.int .i64 t_7))], []⟩
noncomputable def impl_InRange (k : Nat) (n_0 : Int) (low_1 : Int) (high_2 : Int) : Option Bool := run C k 80 .bool [.val (.int .i64) n_0, .val (.int .i64) low_1, .val (.int .i64) high_2]
noncomputable def impl_MakeRatio (k : Nat) (n_0 : Int) (d_1 : Int) : Option (DT23 × (Bool × Unit)) := run C k 129 (.pair T23 (.pair .bool .unit)) [.val (.int .i64) n_0, .val (.int .i64) d_1]
noncomputable def impl_AddRatio (k : Nat) (a_0 : DT23) (b_1 : DT23) : Option (DT23 × (Bool × Unit)) := run C k 130 (.pair T23 (.pair .bool .unit)) [.val T23 a_0, .val T23 b_1]
noncomputable def impl_IsRatio (k : Nat) (r_0 : DT23) : Option Bool := run C k 131 .bool [.val T23 r_0]
noncomputable def impl_LessRatio (k : Nat) (a_0 : DT23) (b_1 : DT23) : Option Bool := run C k 132 .bool [.val T23 a_0, .val T23 b_1]
noncomputable def impl_MulRatio (k : Nat) (a_0 : DT23) (b_1 : DT23) : Option (DT23 × (Bool × Unit)) := run C k 133 (.pair T23 (.pair .bool .unit)) [.val T23 a_0, .val T23 b_1]
noncomputable def impl_lowest (k : Nat) (n_0 : Int) (d_1 : Int) : Option (DT23 × (Bool × Unit)) := run C k 165 (.pair T23 (.pair .bool .unit)) [.val (.int .i64) n_0, .val (.int .i64) d_1]
noncomputable def impl_divisor (k : Nat) (a_0 : Int) (b_1 : Int) : Option Int := run C k 166 (.int .i64) [.val (.int .i64) a_0, .val (.int .i64) b_1]
noncomputable def impl_divisor.l0 (k m : Nat) (a_0 : Int) (b_1 : Int) : Option Int := loopRun C k 166 (.int .i64) [0, 0] [.r, .l, .b] [] [0, 1] m ⟨[.one (.cell (.int .i64 a_0)), .one (.cell (.int .i64 b_1))], []⟩
theorem laws_FnExactIsExact_eq (k : Nat) (aO_0 : DT30) : laws_FnExactIsExact (k + 1) aO_0 =
 (laws_szOrchestra k aO_0 1048576).bind fun r1 =>
 if (r1 : Int) < 0 then
 some true
 else (laws_toOrchestra k aO_0).bind fun r2 =>
 (spec_IsExact k r2).bind fun r3 =>
 (laws_toOrchestra k aO_0).bind fun r4 =>
 (impl_IsExact k r4).bind fun r5 =>
 if ¬ ((decide (r5 = true)) = (decide (r3 = true))) then
 some false
 else (laws_toOrchestra k aO_0).bind fun r6 =>
 (laws_eqOrchestra k r4 r6).bind fun r7 =>
 if ¬ (r7 = true) then
 some false
 else some true := by kernel_rfl
theorem laws_szOrchestra_eq (k : Nat) (a_0 : DT30) (left_1 : Int) : laws_szOrchestra (k + 1) a_0 left_1 =
 (laws_szEventS k a_0.1 left_1).bind fun r1 =>
 if (r1 : Int) < 0 then
 some (-1)
 else (laws_szTempoS k a_0.2.2.1 r1).bind fun r2 =>
 if (r2 : Int) < 0 then
 some (-1)
 else (laws_szPlayerS k a_0.2.2.2.1 r2).bind fun r3 =>
 if (r3 : Int) < 0 then
 some (-1)
 else (laws_szIntS k a_0.2.2.2.2.1 r3).bind fun r4 =>
 if (r4 : Int) < 0 then
 some (-1)
 else (laws_szMarkS k a_0.2.2.2.2.2.1 r4).bind fun r5 =>
 if (r5 : Int) < 0 then
 some (-1)
 else (laws_szLetterS k a_0.2.2.2.2.2.2.1 r5).bind fun r6 =>
 if (r6 : Int) < 0 then
 some (-1)
 else some r6 := by kernel_rfl
theorem laws_toOrchestra_eq (k : Nat) (a_0 : DT30) : laws_toOrchestra (k + 1) a_0 =
 (laws_toEventS k a_0.1).bind fun r1 =>
 (laws_toMeter k a_0.2.1).bind fun r2 =>
 (laws_toTempoS k a_0.2.2.1).bind fun r3 =>
 (laws_toPlayerS k a_0.2.2.2.1).bind fun r4 =>
 (laws_toIntS k a_0.2.2.2.2.1).bind fun r5 =>
 (laws_toMarkS k a_0.2.2.2.2.2.1).bind fun r6 =>
 (laws_toLetterS k a_0.2.2.2.2.2.2.1).bind fun r7 =>
 some (r1, (r2, (r3, (r4, (r5, (r6, (r7, a_0.2.2.2.2.2.2.2))))))) := by kernel_rfl
theorem spec_IsExact_eq (k : Nat) (o_0 : DT30) : spec_IsExact (k + 1) o_0 =
 spec_IsExact.l0 k k 0 o_0.1 o_0.2.1.1 o_0.2.1.2.1 o_0.2.2.1 o_0.2.2.2.1 o_0.2.2.2.2.1 o_0.2.2.2.2.2.1 o_0.2.2.2.2.2.2.1 o_0.2.2.2.2.2.2.2.1 o_0.2.2.2.2.2.2.2.2.1 := by kernel_rfl
theorem spec_IsExact.l0_eq (k m : Nat) (i_3 : Int) (b0_0 : (List DT89)) (b0_1 : Int) (b0_2 : Int) (b0_3 : (List DT23)) (b0_4 : (List DT120)) (b0_5 : (List Int)) (b0_6 : (List DT134)) (b0_7 : (List DT23)) (b0_8 : Int) (b0_9 : Int) : spec_IsExact.l0 k (m + 1) i_3 b0_0 b0_1 b0_2 b0_3 b0_4 b0_5 b0_6 b0_7 b0_8 b0_9 =
 if (i_3 : Int) < ((List.length b0_0 : Nat) : Int) then
 if 0 ≤ i_3 then
 if i_3 < ((List.length b0_0 : Nat) : Int) then
 (spec_TimeOf k b0_3 (rd T89 b0_0 i_3).1).bind fun r1 =>
 (spec_TickAt k b0_3 r1.1).bind fun r2 =>
 if ¬ (r1.2.1 = true) then
 some false
 else if ¬ (r2.2.1 = true) then
 some false
 else if 0 ≤ i_3 then
 if i_3 < ((List.length b0_0 : Nat) : Int) then
 if ¬ (((r2.1.1 : Int) = (rd T89 b0_0 i_3).1) ∧ ((r2.1.2.1 : Int) = 1)) then
 some false
 else spec_IsExact.l0 k m (IntKind.wrap .i64 (i_3 + 1)) b0_0 b0_1 b0_2 b0_3 b0_4 b0_5 b0_6 b0_7 b0_8 b0_9 else none else none else none else none
 else some true := by kernel_rfl
theorem impl_IsExact_eq (k : Nat) (o_0 : DT30) : impl_IsExact (k + 1) o_0 =
 (slices_ContainsFunc_impl_Event_62 k o_0.1 o_0).bind fun r1 =>
 some (decide (¬ (r1 = true))) := by kernel_rfl
theorem laws_eqOrchestra_eq (k : Nat) (a_0 : DT30) (b_1 : DT30) : laws_eqOrchestra (k + 1) a_0 b_1 =
 (laws_eqEventS k a_0.1 b_1.1).bind fun r1 =>
 if ¬ (r1 = true) then
 some false
 else (laws_eqMeter k a_0.2.1 b_1.2.1).bind fun r2 =>
 if ¬ (r2 = true) then
 some false
 else (laws_eqTempoS k a_0.2.2.1 b_1.2.2.1).bind fun r3 =>
 if ¬ (r3 = true) then
 some false
 else (laws_eqPlayerS k a_0.2.2.2.1 b_1.2.2.2.1).bind fun r4 =>
 if ¬ (r4 = true) then
 some false
 else (laws_eqIntS k a_0.2.2.2.2.1 b_1.2.2.2.2.1).bind fun r5 =>
 if ¬ (r5 = true) then
 some false
 else (laws_eqMarkS k a_0.2.2.2.2.2.1 b_1.2.2.2.2.2.1).bind fun r6 =>
 if ¬ (r6 = true) then
 some false
 else (laws_eqLetterS k a_0.2.2.2.2.2.2.1 b_1.2.2.2.2.2.2.1).bind fun r7 =>
 if ¬ (r7 = true) then
 some false
 else if (a_0.2.2.2.2.2.2.2.1 : Int) ≠ b_1.2.2.2.2.2.2.2.1 then
 some false
 else if (a_0.2.2.2.2.2.2.2.2.1 : Int) ≠ b_1.2.2.2.2.2.2.2.2.1 then
 some false
 else some true := by kernel_rfl
theorem laws_szEventS_eq (k : Nat) (a_0 : (List DT89)) (left_1 : Int) : laws_szEventS (k + 1) a_0 left_1 =
 if ((IntKind.wrap .i64 (left_1 - ((List.length a_0 : Nat) : Int))) : Int) < 0 then
 some (-1)
 else some (IntKind.wrap .i64 (left_1 - ((List.length a_0 : Nat) : Int))) := by kernel_rfl
theorem laws_szTempoS_eq (k : Nat) (a_0 : (List DT23)) (left_1 : Int) : laws_szTempoS (k + 1) a_0 left_1 =
 if ((IntKind.wrap .i64 (left_1 - ((List.length a_0 : Nat) : Int))) : Int) < 0 then
 some (-1)
 else some (IntKind.wrap .i64 (left_1 - ((List.length a_0 : Nat) : Int))) := by kernel_rfl
theorem laws_szPlayerS_eq (k : Nat) (a_0 : (List DT120)) (left_1 : Int) : laws_szPlayerS (k + 1) a_0 left_1 =
 if ((IntKind.wrap .i64 (left_1 - ((List.length a_0 : Nat) : Int))) : Int) < 0 then
 some (-1)
 else laws_szPlayerS.l0 k k a_0 (IntKind.wrap .i64 (left_1 - ((List.length a_0 : Nat) : Int))) 0 := by kernel_rfl
theorem laws_szPlayerS.l0_eq (k m : Nat) (a_0 : (List DT120)) (left_1 : Int) (i_5 : Int) : laws_szPlayerS.l0 k (m + 1) a_0 left_1 i_5 =
 if (i_5 : Int) < ((List.length a_0 : Nat) : Int) then
 if 0 ≤ i_5 then
 if i_5 < ((List.length a_0 : Nat) : Int) then
 (laws_szPlayer k (rd T120 a_0 i_5) left_1).bind fun r1 =>
 if (r1 : Int) < 0 then
 some (-1)
 else laws_szPlayerS.l0 k m a_0 r1 (IntKind.wrap .i64 (i_5 + 1)) else none else none
 else some left_1 := by kernel_rfl
theorem laws_szIntS_eq (k : Nat) (a_0 : (List Int)) (left_1 : Int) : laws_szIntS (k + 1) a_0 left_1 =
 if ((IntKind.wrap .i64 (left_1 - ((List.length a_0 : Nat) : Int))) : Int) < 0 then
 some (-1)
 else some (IntKind.wrap .i64 (left_1 - ((List.length a_0 : Nat) : Int))) := by kernel_rfl
theorem laws_szMarkS_eq (k : Nat) (a_0 : (List DT134)) (left_1 : Int) : laws_szMarkS (k + 1) a_0 left_1 =
 if ((IntKind.wrap .i64 (left_1 - ((List.length a_0 : Nat) : Int))) : Int) < 0 then
 some (-1)
 else some (IntKind.wrap .i64 (left_1 - ((List.length a_0 : Nat) : Int))) := by kernel_rfl
theorem laws_szLetterS_eq (k : Nat) (a_0 : (List DT23)) (left_1 : Int) : laws_szLetterS (k + 1) a_0 left_1 =
 if ((IntKind.wrap .i64 (left_1 - ((List.length a_0 : Nat) : Int))) : Int) < 0 then
 some (-1)
 else some (IntKind.wrap .i64 (left_1 - ((List.length a_0 : Nat) : Int))) := by kernel_rfl
theorem laws_toEventS_eq (k : Nat) (a_0 : (List DT89)) : laws_toEventS (k + 1) a_0 =
 if 0 ≤ ((List.length a_0 : Nat) : Int) then
 if ((List.length a_0 : Nat) : Int) ≤ ((List.length a_0 : Nat) : Int) then
 if ((List.length a_0 : Nat) : Int) * 32 ≤ 211106232532992 then
 laws_toEventS.l0 k k a_0 0 (List.replicate (Int.toNat ((List.length a_0 : Nat) : Int)) (Ty.dflt T89)) else none else none else none := by kernel_rfl
theorem laws_toEventS.l0_eq (k m : Nat) (a_0 : (List DT89)) (i_4 : Int) (s0 : (List DT89)) : laws_toEventS.l0 k (m + 1) a_0 i_4 s0 =
 if (i_4 : Int) < ((List.length a_0 : Nat) : Int) then
 if 0 ≤ i_4 then
 if i_4 < ((List.length a_0 : Nat) : Int) then
 (laws_toEvent k (rd T89 a_0 i_4)).bind fun r1 =>
 if 0 ≤ i_4 then
 if i_4 < ((List.length s0 : Nat) : Int) then
 laws_toEventS.l0 k m a_0 (IntKind.wrap .i64 (i_4 + 1)) (List.set s0 (Int.toNat i_4) r1) else none else none else none else none
 else some s0 := by kernel_rfl
theorem laws_toMeter_eq (k : Nat) (a_0 : DT23) : laws_toMeter (k + 1) a_0 =
 some a_0 := by kernel_rfl
theorem laws_toTempoS_eq (k : Nat) (a_0 : (List DT23)) : laws_toTempoS (k + 1) a_0 =
 if 0 ≤ ((List.length a_0 : Nat) : Int) then
 if ((List.length a_0 : Nat) : Int) ≤ ((List.length a_0 : Nat) : Int) then
 if ((List.length a_0 : Nat) : Int) * 16 ≤ 211106232532992 then
 laws_toTempoS.l0 k k a_0 0 (List.replicate (Int.toNat ((List.length a_0 : Nat) : Int)) (Ty.dflt T23)) else none else none else none := by kernel_rfl
theorem laws_toTempoS.l0_eq (k m : Nat) (a_0 : (List DT23)) (i_4 : Int) (s0 : (List DT23)) : laws_toTempoS.l0 k (m + 1) a_0 i_4 s0 =
 if (i_4 : Int) < ((List.length a_0 : Nat) : Int) then
 if 0 ≤ i_4 then
 if i_4 < ((List.length a_0 : Nat) : Int) then
 (laws_toTempo k (rd T23 a_0 i_4)).bind fun r1 =>
 if 0 ≤ i_4 then
 if i_4 < ((List.length s0 : Nat) : Int) then
 laws_toTempoS.l0 k m a_0 (IntKind.wrap .i64 (i_4 + 1)) (List.set s0 (Int.toNat i_4) r1) else none else none else none else none
 else some s0 := by kernel_rfl
theorem laws_toPlayerS_eq (k : Nat) (a_0 : (List DT120)) : laws_toPlayerS (k + 1) a_0 =
 if 0 ≤ ((List.length a_0 : Nat) : Int) then
 if ((List.length a_0 : Nat) : Int) ≤ ((List.length a_0 : Nat) : Int) then
 if ((List.length a_0 : Nat) : Int) * 48 ≤ 211106232532992 then
 laws_toPlayerS.l0 k k a_0 0 (List.replicate (Int.toNat ((List.length a_0 : Nat) : Int)) (Ty.dflt T120)) else none else none else none := by kernel_rfl
theorem laws_toPlayerS.l0_eq (k m : Nat) (a_0 : (List DT120)) (i_4 : Int) (s0 : (List DT120)) : laws_toPlayerS.l0 k (m + 1) a_0 i_4 s0 =
 if (i_4 : Int) < ((List.length a_0 : Nat) : Int) then
 if 0 ≤ i_4 then
 if i_4 < ((List.length a_0 : Nat) : Int) then
 (laws_toPlayer k (rd T120 a_0 i_4)).bind fun r1 =>
 if 0 ≤ i_4 then
 if i_4 < ((List.length s0 : Nat) : Int) then
 laws_toPlayerS.l0 k m a_0 (IntKind.wrap .i64 (i_4 + 1)) (List.set s0 (Int.toNat i_4) r1) else none else none else none else none
 else some s0 := by kernel_rfl
theorem laws_toIntS_eq (k : Nat) (a_0 : (List Int)) : laws_toIntS (k + 1) a_0 =
 if 0 ≤ ((List.length a_0 : Nat) : Int) then
 if ((List.length a_0 : Nat) : Int) ≤ ((List.length a_0 : Nat) : Int) then
 if ((List.length a_0 : Nat) : Int) * 8 ≤ 211106232532992 then
 laws_toIntS.l0 k k a_0 0 (List.replicate (Int.toNat ((List.length a_0 : Nat) : Int)) (Ty.dflt (.int .i64))) else none else none else none := by kernel_rfl
theorem laws_toIntS.l0_eq (k m : Nat) (a_0 : (List Int)) (i_4 : Int) (s0 : (List Int)) : laws_toIntS.l0 k (m + 1) a_0 i_4 s0 =
 if (i_4 : Int) < ((List.length a_0 : Nat) : Int) then
 if 0 ≤ i_4 then
 if i_4 < ((List.length a_0 : Nat) : Int) then
 if 0 ≤ i_4 then
 if i_4 < ((List.length s0 : Nat) : Int) then
 laws_toIntS.l0 k m a_0 (IntKind.wrap .i64 (i_4 + 1)) (List.set s0 (Int.toNat i_4) (rd (.int .i64) a_0 i_4)) else none else none else none else none
 else some s0 := by kernel_rfl
theorem laws_toMarkS_eq (k : Nat) (a_0 : (List DT134)) : laws_toMarkS (k + 1) a_0 =
 if 0 ≤ ((List.length a_0 : Nat) : Int) then
 if ((List.length a_0 : Nat) : Int) ≤ ((List.length a_0 : Nat) : Int) then
 if ((List.length a_0 : Nat) : Int) * 40 ≤ 211106232532992 then
 laws_toMarkS.l0 k k a_0 0 (List.replicate (Int.toNat ((List.length a_0 : Nat) : Int)) (Ty.dflt T134)) else none else none else none := by kernel_rfl
theorem laws_toMarkS.l0_eq (k m : Nat) (a_0 : (List DT134)) (i_4 : Int) (s0 : (List DT134)) : laws_toMarkS.l0 k (m + 1) a_0 i_4 s0 =
 if (i_4 : Int) < ((List.length a_0 : Nat) : Int) then
 if 0 ≤ i_4 then
 if i_4 < ((List.length a_0 : Nat) : Int) then
 (laws_toMark k (rd T134 a_0 i_4)).bind fun r1 =>
 if 0 ≤ i_4 then
 if i_4 < ((List.length s0 : Nat) : Int) then
 laws_toMarkS.l0 k m a_0 (IntKind.wrap .i64 (i_4 + 1)) (List.set s0 (Int.toNat i_4) r1) else none else none else none else none
 else some s0 := by kernel_rfl
theorem laws_toLetterS_eq (k : Nat) (a_0 : (List DT23)) : laws_toLetterS (k + 1) a_0 =
 if 0 ≤ ((List.length a_0 : Nat) : Int) then
 if ((List.length a_0 : Nat) : Int) ≤ ((List.length a_0 : Nat) : Int) then
 if ((List.length a_0 : Nat) : Int) * 16 ≤ 211106232532992 then
 laws_toLetterS.l0 k k a_0 0 (List.replicate (Int.toNat ((List.length a_0 : Nat) : Int)) (Ty.dflt T23)) else none else none else none := by kernel_rfl
theorem laws_toLetterS.l0_eq (k m : Nat) (a_0 : (List DT23)) (i_4 : Int) (s0 : (List DT23)) : laws_toLetterS.l0 k (m + 1) a_0 i_4 s0 =
 if (i_4 : Int) < ((List.length a_0 : Nat) : Int) then
 if 0 ≤ i_4 then
 if i_4 < ((List.length a_0 : Nat) : Int) then
 (laws_toLetter k (rd T23 a_0 i_4)).bind fun r1 =>
 if 0 ≤ i_4 then
 if i_4 < ((List.length s0 : Nat) : Int) then
 laws_toLetterS.l0 k m a_0 (IntKind.wrap .i64 (i_4 + 1)) (List.set s0 (Int.toNat i_4) r1) else none else none else none else none
 else some s0 := by kernel_rfl
theorem spec_TimeOf_eq (k : Nat) (l_0 : (List DT23)) (tick_1 : Int) : spec_TimeOf (k + 1) l_0 tick_1 =
 (spec_IsTempo k l_0).bind fun r1 =>
 if ¬ (r1 = true) then
 some ((0, (0, ())), (false, ()))
 else (spec_l1In k tick_1 0 2000).bind fun r2 =>
 if ¬ (r2 = true) then
 some ((0, (0, ())), (false, ()))
 else spec_TimeOf.l0 k k l_0 tick_1 0 0 0 0 1 := by kernel_rfl
theorem spec_TimeOf.l0_eq (k m : Nat) (l_0 : (List DT23)) (tick_1 : Int) (i_7 : Int) (b0_0 : Int) (b0_1 : Int) (b1_0 : Int) (b1_1 : Int) : spec_TimeOf.l0 k (m + 1) l_0 tick_1 i_7 b0_0 b0_1 b1_0 b1_1 =
 if (i_7 : Int) < ((List.length l_0 : Nat) : Int) then
 if 0 ≤ i_7 then
 if i_7 < ((List.length l_0 : Nat) : Int) then
 if LT.lt (α := Int) (rd T23 l_0 i_7).1 tick_1 then
 if ((IntKind.wrap .i64 (i_7 + 1)) : Int) < ((List.length l_0 : Nat) : Int) then
 if 0 ≤ (IntKind.wrap .i64 (i_7 + 1)) then
 if (IntKind.wrap .i64 (i_7 + 1)) < ((List.length l_0 : Nat) : Int) then
 (spec_Min k tick_1 (rd T23 l_0 (IntKind.wrap .i64 (i_7 + 1))).1).bind fun r3 =>
 if 0 ≤ i_7 then
 if i_7 < ((List.length l_0 : Nat) : Int) then
 if 0 ≤ i_7 then
 if i_7 < ((List.length l_0 : Nat) : Int) then
 (spec_MakeRatio k (IntKind.wrap .i64 ((IntKind.wrap .i64 (r3 - (rd T23 l_0 i_7).1)) * 5000)) (rd T23 l_0 i_7).2.1).bind fun r4 =>
 (spec_AddRatio k (b1_0, (b1_1, ())) r4.1).bind fun r5 =>
 if ¬ (r5.2.1 = true) then
 some ((0, (0, ())), (false, ()))
 else spec_TimeOf.l0 k m l_0 tick_1 (IntKind.wrap .i64 (i_7 + 1)) b0_0 b0_1 r5.1.1 r5.1.2.1 else none else none else none else none else none else none
 else if 0 ≤ i_7 then
 if i_7 < ((List.length l_0 : Nat) : Int) then
 if 0 ≤ i_7 then
 if i_7 < ((List.length l_0 : Nat) : Int) then
 (spec_MakeRatio k (IntKind.wrap .i64 ((IntKind.wrap .i64 (tick_1 - (rd T23 l_0 i_7).1)) * 5000)) (rd T23 l_0 i_7).2.1).bind fun r6 =>
 (spec_AddRatio k (b1_0, (b1_1, ())) r6.1).bind fun r7 =>
 if ¬ (r7.2.1 = true) then
 some ((0, (0, ())), (false, ()))
 else spec_TimeOf.l0 k m l_0 tick_1 (IntKind.wrap .i64 (i_7 + 1)) b0_0 b0_1 r7.1.1 r7.1.2.1 else none else none else none else none
 else some ((b1_0, (b1_1, ())), (true, ())) else none else none
 else some ((b1_0, (b1_1, ())), (true, ())) := by kernel_rfl
theorem spec_TickAt_eq (k : Nat) (l_0 : (List DT23)) (ms_1 : DT23) : spec_TickAt (k + 1) l_0 ms_1 =
 (spec_IsTempo k l_0).bind fun r1 =>
 if ¬ (r1 = true) then
 some ((0, (0, ())), (false, ()))
 else (spec_IsRatio k ms_1).bind fun r2 =>
 if ¬ (r2 = true) then
 some ((0, (0, ())), (false, ()))
 else if (ms_1.1 : Int) < 0 then
 some ((0, (0, ())), (false, ()))
 else spec_TickAt.l0 k k l_0 0 1 ms_1.1 ms_1.2.1 0 0 0 1 := by kernel_rfl
theorem spec_TickAt.l0_eq (k m : Nat) (l_0 : (List DT23)) (k_6 : Int) (i_8 : Int) (b0_0 : Int) (b0_1 : Int) (b1_0 : Int) (b1_1 : Int) (b2_0 : Int) (b2_1 : Int) : spec_TickAt.l0 k (m + 1) l_0 k_6 i_8 b0_0 b0_1 b1_0 b1_1 b2_0 b2_1 =
 if (i_8 : Int) < ((List.length l_0 : Nat) : Int) then
 if 0 ≤ i_8 then
 if i_8 < ((List.length l_0 : Nat) : Int) then
 (spec_TimeOf k l_0 (rd T23 l_0 i_8).1).bind fun r3 =>
 if ¬ (r3.2.1 = true) then
 some ((0, (0, ())), (false, ()))
 else (spec_LessRatio k (b0_0, (b0_1, ())) r3.1).bind fun r4 =>
 if r4 = true then
 (spec_AddRatio k (b0_0, (b0_1, ())) (IntKind.wrap .i64 (-b2_0), (b2_1, ()))).bind fun r5 =>
 if 0 ≤ k_6 then
 if k_6 < ((List.length l_0 : Nat) : Int) then
 (spec_MakeRatio k (rd T23 l_0 k_6).2.1 5000).bind fun r6 =>
 (spec_MulRatio k r5.1 r6.1).bind fun r7 =>
 if 0 ≤ k_6 then
 if k_6 < ((List.length l_0 : Nat) : Int) then
 (spec_AddRatio k r7.1 ((rd T23 l_0 k_6).1, (1, ()))).bind fun r8 =>
 if ¬ (r5.2.1 = true) then
 some ((0, (0, ())), (false, ()))
 else if ¬ (r7.2.1 = true) then
 some ((0, (0, ())), (false, ()))
 else if ¬ (r8.2.1 = true) then
 some ((0, (0, ())), (false, ()))
 else some (r8.1, (true, ())) else none else none else none else none
 else spec_TickAt.l0 k m l_0 i_8 (IntKind.wrap .i64 (i_8 + 1)) b0_0 b0_1 b1_0 b1_1 r3.1.1 r3.1.2.1 else none else none
 else (spec_AddRatio k (b0_0, (b0_1, ())) (IntKind.wrap .i64 (-b2_0), (b2_1, ()))).bind fun r9 =>
 if 0 ≤ k_6 then
 if k_6 < ((List.length l_0 : Nat) : Int) then
 (spec_MakeRatio k (rd T23 l_0 k_6).2.1 5000).bind fun r10 =>
 (spec_MulRatio k r9.1 r10.1).bind fun r11 =>
 if 0 ≤ k_6 then
 if k_6 < ((List.length l_0 : Nat) : Int) then
 (spec_AddRatio k r11.1 ((rd T23 l_0 k_6).1, (1, ()))).bind fun r12 =>
 if ¬ (r9.2.1 = true) then
 some ((0, (0, ())), (false, ()))
 else if ¬ (r11.2.1 = true) then
 some ((0, (0, ())), (false, ()))
 else if ¬ (r12.2.1 = true) then
 some ((0, (0, ())), (false, ()))
 else some (r12.1, (true, ())) else none else none else none else none := by kernel_rfl
theorem slices_ContainsFunc_impl_Event_62_eq (k : Nat) (s_0 : (List DT89)) (c1_0 : DT30) : slices_ContainsFunc_impl_Event_62 (k + 1) s_0 c1_0 =
 (slices_IndexFunc_impl_Event_62 k s_0 c1_0).bind fun r1 =>
 some (decide ((0 : Int) ≤ r1)) := by kernel_rfl
theorem laws_eqEventS_eq (k : Nat) (a_0 : (List DT89)) (b_1 : (List DT89)) : laws_eqEventS (k + 1) a_0 b_1 =
 if (((List.length a_0 : Nat) : Int) : Int) ≠ ((List.length b_1 : Nat) : Int) then
 some false
 else laws_eqEventS.l0 k k a_0 b_1 0 := by kernel_rfl
theorem laws_eqEventS.l0_eq (k m : Nat) (a_0 : (List DT89)) (b_1 : (List DT89)) (i_5 : Int) : laws_eqEventS.l0 k (m + 1) a_0 b_1 i_5 =
 if (i_5 : Int) < ((List.length a_0 : Nat) : Int) then
 if 0 ≤ i_5 then
 if i_5 < ((List.length a_0 : Nat) : Int) then
 if 0 ≤ i_5 then
 if i_5 < ((List.length b_1 : Nat) : Int) then
 (laws_eqEvent k (rd T89 a_0 i_5) (rd T89 b_1 i_5)).bind fun r1 =>
 if ¬ (r1 = true) then
 some false
 else laws_eqEventS.l0 k m a_0 b_1 (IntKind.wrap .i64 (i_5 + 1)) else none else none else none else none
 else some true := by kernel_rfl
theorem laws_eqMeter_eq (k : Nat) (a_0 : DT23) (b_1 : DT23) : laws_eqMeter (k + 1) a_0 b_1 =
 if (a_0.1 : Int) ≠ b_1.1 then
 some false
 else if (a_0.2.1 : Int) ≠ b_1.2.1 then
 some false
 else some true := by kernel_rfl
theorem laws_eqTempoS_eq (k : Nat) (a_0 : (List DT23)) (b_1 : (List DT23)) : laws_eqTempoS (k + 1) a_0 b_1 =
 if (((List.length a_0 : Nat) : Int) : Int) ≠ ((List.length b_1 : Nat) : Int) then
 some false
 else laws_eqTempoS.l0 k k a_0 b_1 0 := by kernel_rfl
theorem laws_eqTempoS.l0_eq (k m : Nat) (a_0 : (List DT23)) (b_1 : (List DT23)) (i_5 : Int) : laws_eqTempoS.l0 k (m + 1) a_0 b_1 i_5 =
 if (i_5 : Int) < ((List.length a_0 : Nat) : Int) then
 if 0 ≤ i_5 then
 if i_5 < ((List.length a_0 : Nat) : Int) then
 if 0 ≤ i_5 then
 if i_5 < ((List.length b_1 : Nat) : Int) then
 (laws_eqTempo k (rd T23 a_0 i_5) (rd T23 b_1 i_5)).bind fun r1 =>
 if ¬ (r1 = true) then
 some false
 else laws_eqTempoS.l0 k m a_0 b_1 (IntKind.wrap .i64 (i_5 + 1)) else none else none else none else none
 else some true := by kernel_rfl
theorem laws_eqPlayerS_eq (k : Nat) (a_0 : (List DT120)) (b_1 : (List DT120)) : laws_eqPlayerS (k + 1) a_0 b_1 =
 if (((List.length a_0 : Nat) : Int) : Int) ≠ ((List.length b_1 : Nat) : Int) then
 some false
 else laws_eqPlayerS.l0 k k a_0 b_1 0 := by kernel_rfl
theorem laws_eqPlayerS.l0_eq (k m : Nat) (a_0 : (List DT120)) (b_1 : (List DT120)) (i_5 : Int) : laws_eqPlayerS.l0 k (m + 1) a_0 b_1 i_5 =
 if (i_5 : Int) < ((List.length a_0 : Nat) : Int) then
 if 0 ≤ i_5 then
 if i_5 < ((List.length a_0 : Nat) : Int) then
 if 0 ≤ i_5 then
 if i_5 < ((List.length b_1 : Nat) : Int) then
 (laws_eqPlayer k (rd T120 a_0 i_5) (rd T120 b_1 i_5)).bind fun r1 =>
 if ¬ (r1 = true) then
 some false
 else laws_eqPlayerS.l0 k m a_0 b_1 (IntKind.wrap .i64 (i_5 + 1)) else none else none else none else none
 else some true := by kernel_rfl
theorem laws_eqIntS_eq (k : Nat) (a_0 : (List Int)) (b_1 : (List Int)) : laws_eqIntS (k + 1) a_0 b_1 =
 if (((List.length a_0 : Nat) : Int) : Int) ≠ ((List.length b_1 : Nat) : Int) then
 some false
 else laws_eqIntS.l0 k k a_0 b_1 0 := by kernel_rfl
theorem laws_eqIntS.l0_eq (k m : Nat) (a_0 : (List Int)) (b_1 : (List Int)) (i_5 : Int) : laws_eqIntS.l0 k (m + 1) a_0 b_1 i_5 =
 if (i_5 : Int) < ((List.length a_0 : Nat) : Int) then
 if 0 ≤ i_5 then
 if i_5 < ((List.length a_0 : Nat) : Int) then
 if 0 ≤ i_5 then
 if i_5 < ((List.length b_1 : Nat) : Int) then
 if Ne (α := Int) (rd (.int .i64) a_0 i_5) (rd (.int .i64) b_1 i_5) then
 some false
 else laws_eqIntS.l0 k m a_0 b_1 (IntKind.wrap .i64 (i_5 + 1)) else none else none else none else none
 else some true := by kernel_rfl
theorem laws_eqMarkS_eq (k : Nat) (a_0 : (List DT134)) (b_1 : (List DT134)) : laws_eqMarkS (k + 1) a_0 b_1 =
 if (((List.length a_0 : Nat) : Int) : Int) ≠ ((List.length b_1 : Nat) : Int) then
 some false
 else laws_eqMarkS.l0 k k a_0 b_1 0 := by kernel_rfl
theorem laws_eqMarkS.l0_eq (k m : Nat) (a_0 : (List DT134)) (b_1 : (List DT134)) (i_5 : Int) : laws_eqMarkS.l0 k (m + 1) a_0 b_1 i_5 =
 if (i_5 : Int) < ((List.length a_0 : Nat) : Int) then
 if 0 ≤ i_5 then
 if i_5 < ((List.length a_0 : Nat) : Int) then
 if 0 ≤ i_5 then
 if i_5 < ((List.length b_1 : Nat) : Int) then
 (laws_eqMark k (rd T134 a_0 i_5) (rd T134 b_1 i_5)).bind fun r1 =>
 if ¬ (r1 = true) then
 some false
 else laws_eqMarkS.l0 k m a_0 b_1 (IntKind.wrap .i64 (i_5 + 1)) else none else none else none else none
 else some true := by kernel_rfl
theorem laws_eqLetterS_eq (k : Nat) (a_0 : (List DT23)) (b_1 : (List DT23)) : laws_eqLetterS (k + 1) a_0 b_1 =
 if (((List.length a_0 : Nat) : Int) : Int) ≠ ((List.length b_1 : Nat) : Int) then
 some false
 else laws_eqLetterS.l0 k k a_0 b_1 0 := by kernel_rfl
theorem laws_eqLetterS.l0_eq (k m : Nat) (a_0 : (List DT23)) (b_1 : (List DT23)) (i_5 : Int) : laws_eqLetterS.l0 k (m + 1) a_0 b_1 i_5 =
 if (i_5 : Int) < ((List.length a_0 : Nat) : Int) then
 if 0 ≤ i_5 then
 if i_5 < ((List.length a_0 : Nat) : Int) then
 if 0 ≤ i_5 then
 if i_5 < ((List.length b_1 : Nat) : Int) then
 (laws_eqLetter k (rd T23 a_0 i_5) (rd T23 b_1 i_5)).bind fun r1 =>
 if ¬ (r1 = true) then
 some false
 else laws_eqLetterS.l0 k m a_0 b_1 (IntKind.wrap .i64 (i_5 + 1)) else none else none else none else none
 else some true := by kernel_rfl
theorem laws_szPlayer_eq (k : Nat) (a_0 : DT120) (left_1 : Int) : laws_szPlayer (k + 1) a_0 left_1 =
 (laws_szIntS k a_0.2.2.2.1 left_1).bind fun r1 =>
 if (r1 : Int) < 0 then
 some (-1)
 else some r1 := by kernel_rfl
theorem laws_toEvent_eq (k : Nat) (a_0 : DT89) : laws_toEvent (k + 1) a_0 =
 some a_0 := by kernel_rfl
theorem laws_toTempo_eq (k : Nat) (a_0 : DT23) : laws_toTempo (k + 1) a_0 =
 some a_0 := by kernel_rfl
theorem laws_toPlayer_eq (k : Nat) (a_0 : DT120) : laws_toPlayer (k + 1) a_0 =
 (laws_toIntS k a_0.2.2.2.1).bind fun r1 =>
 some (a_0.1, (a_0.2.1, (a_0.2.2.1, (r1, ())))) := by kernel_rfl
theorem laws_toMark_eq (k : Nat) (a_0 : DT134) : laws_toMark (k + 1) a_0 =
 some a_0 := by kernel_rfl
theorem laws_toLetter_eq (k : Nat) (a_0 : DT23) : laws_toLetter (k + 1) a_0 =
 some a_0 := by kernel_rfl
theorem spec_IsTempo_eq (k : Nat) (l_0 : (List DT23)) : spec_IsTempo (k + 1) l_0 =
 spec_IsTempo.l0 k k l_0 0 := by kernel_rfl
theorem spec_IsTempo.l0_eq (k m : Nat) (l_0 : (List DT23)) (i_3 : Int) : spec_IsTempo.l0 k (m + 1) l_0 i_3 =
 if (i_3 : Int) < ((List.length l_0 : Nat) : Int) then
 if 0 ≤ i_3 then
 if i_3 < ((List.length l_0 : Nat) : Int) then
 (spec_l1In k (rd T23 l_0 i_3).2.1 20 300).bind fun r1 =>
 if ¬ (r1 = true) then
 some false
 else if 0 ≤ i_3 then
 if i_3 < ((List.length l_0 : Nat) : Int) then
 (spec_l1In k (rd T23 l_0 i_3).1 0 2000).bind fun r2 =>
 if ¬ (r2 = true) then
 some false
 else if (i_3 : Int) = 0 then
 if 0 ≤ i_3 then
 if i_3 < ((List.length l_0 : Nat) : Int) then
 if Ne (α := Int) (rd T23 l_0 i_3).1 0 then
 some false
 else if (0 : Int) < i_3 then
 if 0 ≤ (IntKind.wrap .i64 (i_3 - 1)) then
 if (IntKind.wrap .i64 (i_3 - 1)) < ((List.length l_0 : Nat) : Int) then
 if 0 ≤ i_3 then
 if i_3 < ((List.length l_0 : Nat) : Int) then
 if LE.le (α := Int) (rd T23 l_0 i_3).1 (rd T23 l_0 (IntKind.wrap .i64 (i_3 - 1))).1 then
 some false
 else spec_IsTempo.l0 k m l_0 (IntKind.wrap .i64 (i_3 + 1)) else none else none else none else none
 else spec_IsTempo.l0 k m l_0 (IntKind.wrap .i64 (i_3 + 1)) else none else none
 else if (0 : Int) < i_3 then
 if 0 ≤ (IntKind.wrap .i64 (i_3 - 1)) then
 if (IntKind.wrap .i64 (i_3 - 1)) < ((List.length l_0 : Nat) : Int) then
 if 0 ≤ i_3 then
 if i_3 < ((List.length l_0 : Nat) : Int) then
 if LE.le (α := Int) (rd T23 l_0 i_3).1 (rd T23 l_0 (IntKind.wrap .i64 (i_3 - 1))).1 then
 some false
 else spec_IsTempo.l0 k m l_0 (IntKind.wrap .i64 (i_3 + 1)) else none else none else none else none
 else spec_IsTempo.l0 k m l_0 (IntKind.wrap .i64 (i_3 + 1)) else none else none else none else none
 else (spec_l1In k ((List.length l_0 : Nat) : Int) 1 8).bind fun r3 =>
 some (decide (r3 = true)) := by kernel_rfl
theorem spec_l1In_eq (k : Nat) (x_0 : Int) (least_1 : Int) (most_2 : Int) : spec_l1In (k + 1) x_0 least_1 most_2 =
 if (least_1 : Int) ≤ x_0 then
 some (decide ((x_0 : Int) ≤ most_2))
 else some false := by kernel_rfl
theorem spec_Min_eq (k : Nat) (a_0 : Int) (b_1 : Int) : spec_Min (k + 1) a_0 b_1 =
 if (b_1 : Int) < a_0 then
 some b_1
 else some a_0 := by kernel_rfl
theorem spec_MakeRatio_eq (k : Nat) (n_0 : Int) (d_1 : Int) : spec_MakeRatio (k + 1) n_0 d_1 =
 (spec_l1In k n_0 (IntKind.wrap .i64 (-1000000000000000)) 1000000000000000).bind fun r1 =>
 if ¬ (r1 = true) then
 some ((0, (0, ())), (false, ()))
 else (spec_l1In k d_1 (IntKind.wrap .i64 (-1000000000000000)) 1000000000000000).bind fun r2 =>
 if ¬ (r2 = true) then
 some ((0, (0, ())), (false, ()))
 else if (d_1 : Int) = 0 then
 some ((0, (0, ())), (false, ()))
 else if (d_1 : Int) < 0 then
 (spec_l4Abs k (IntKind.wrap .i64 (-n_0))).bind fun r3 =>
 (spec_l4Gcd k r3 (IntKind.wrap .i64 (-d_1))).bind fun r4 =>
 if r4 = (0 : Int) then
 none
 else if r4 = (0 : Int) then
 none
 else (spec_IsRatio k (IntKind.wrap .i64 (Int.tdiv (IntKind.wrap .i64 (-n_0)) r4), (IntKind.wrap .i64 (Int.tdiv (IntKind.wrap .i64 (-d_1)) r4), ()))).bind fun r5 =>
 if ¬ (r5 = true) then
 some ((0, (0, ())), (false, ()))
 else some ((IntKind.wrap .i64 (Int.tdiv (IntKind.wrap .i64 (-n_0)) r4), (IntKind.wrap .i64 (Int.tdiv (IntKind.wrap .i64 (-d_1)) r4), ())), (true, ()))
 else (spec_l4Abs k n_0).bind fun r6 =>
 (spec_l4Gcd k r6 d_1).bind fun r7 =>
 if r7 = (0 : Int) then
 none
 else if r7 = (0 : Int) then
 none
 else (spec_IsRatio k (IntKind.wrap .i64 (Int.tdiv n_0 r7), (IntKind.wrap .i64 (Int.tdiv d_1 r7), ()))).bind fun r8 =>
 if ¬ (r8 = true) then
 some ((0, (0, ())), (false, ()))
 else some ((IntKind.wrap .i64 (Int.tdiv n_0 r7), (IntKind.wrap .i64 (Int.tdiv d_1 r7), ())), (true, ())) := by kernel_rfl
theorem spec_AddRatio_eq (k : Nat) (a_0 : DT23) (b_1 : DT23) : spec_AddRatio (k + 1) a_0 b_1 =
 (spec_IsRatio k a_0).bind fun r1 =>
 if ¬ (r1 = true) then
 some ((0, (0, ())), (false, ()))
 else (spec_IsRatio k b_1).bind fun r2 =>
 if ¬ (r2 = true) then
 some ((0, (0, ())), (false, ()))
 else (spec_l4Gcd k a_0.2.1 b_1.2.1).bind fun r3 =>
 if r3 = (0 : Int) then
 none
 else if r3 = (0 : Int) then
 none
 else if r3 = (0 : Int) then
 none
 else (spec_l4Abs k (IntKind.wrap .i64 ((IntKind.wrap .i64 (a_0.1 * (IntKind.wrap .i64 (Int.tdiv b_1.2.1 r3)))) + (IntKind.wrap .i64 (b_1.1 * (IntKind.wrap .i64 (Int.tdiv a_0.2.1 r3))))))).bind fun r4 =>
 (spec_l4Gcd k r4 (IntKind.wrap .i64 ((IntKind.wrap .i64 (Int.tdiv a_0.2.1 r3)) * b_1.2.1))).bind fun r5 =>
 if r5 = (0 : Int) then
 none
 else if r5 = (0 : Int) then
 none
 else (spec_IsRatio k (IntKind.wrap .i64 (Int.tdiv (IntKind.wrap .i64 ((IntKind.wrap .i64 (a_0.1 * (IntKind.wrap .i64 (Int.tdiv b_1.2.1 r3)))) + (IntKind.wrap .i64 (b_1.1 * (IntKind.wrap .i64 (Int.tdiv a_0.2.1 r3)))))) r5), (IntKind.wrap .i64 (Int.tdiv (IntKind.wrap .i64 ((IntKind.wrap .i64 (Int.tdiv a_0.2.1 r3)) * b_1.2.1)) r5), ()))).bind fun r6 =>
 if ¬ (r6 = true) then
 some ((0, (0, ())), (false, ()))
 else some ((IntKind.wrap .i64 (Int.tdiv (IntKind.wrap .i64 ((IntKind.wrap .i64 (a_0.1 * (IntKind.wrap .i64 (Int.tdiv b_1.2.1 r3)))) + (IntKind.wrap .i64 (b_1.1 * (IntKind.wrap .i64 (Int.tdiv a_0.2.1 r3)))))) r5), (IntKind.wrap .i64 (Int.tdiv (IntKind.wrap .i64 ((IntKind.wrap .i64 (Int.tdiv a_0.2.1 r3)) * b_1.2.1)) r5), ())), (true, ())) := by kernel_rfl
theorem spec_IsRatio_eq (k : Nat) (r_0 : DT23) : spec_IsRatio (k + 1) r_0 =
 (spec_l1In k r_0.2.1 1 1000000).bind fun r1 =>
 if r1 = true then
 (spec_l1In k r_0.1 (-1000000000) 1000000000).bind fun r2 =>
 if r2 = true then
 (spec_l4Abs k r_0.1).bind fun r3 =>
 (spec_l4Gcd k r3 r_0.2.1).bind fun r4 =>
 some (decide ((r4 : Int) = 1))
 else some false
 else some false := by kernel_rfl
theorem spec_LessRatio_eq (k : Nat) (a_0 : DT23) (b_1 : DT23) : spec_LessRatio (k + 1) a_0 b_1 =
 (spec_IsRatio k a_0).bind fun r1 =>
 if r1 = true then
 (spec_IsRatio k b_1).bind fun r2 =>
 if r2 = true then
 some (decide (((IntKind.wrap .i64 (a_0.1 * b_1.2.1)) : Int) < (IntKind.wrap .i64 (b_1.1 * a_0.2.1))))
 else some false
 else some false := by kernel_rfl
theorem spec_MulRatio_eq (k : Nat) (a_0 : DT23) (b_1 : DT23) : spec_MulRatio (k + 1) a_0 b_1 =
 (spec_IsRatio k a_0).bind fun r1 =>
 if ¬ (r1 = true) then
 some ((0, (0, ())), (false, ()))
 else (spec_IsRatio k b_1).bind fun r2 =>
 if ¬ (r2 = true) then
 some ((0, (0, ())), (false, ()))
 else (spec_l4Abs k a_0.1).bind fun r3 =>
 (spec_l4Gcd k r3 b_1.2.1).bind fun r4 =>
 (spec_l4Abs k b_1.1).bind fun r5 =>
 (spec_l4Gcd k r5 a_0.2.1).bind fun r6 =>
 if r4 = (0 : Int) then
 none
 else if r6 = (0 : Int) then
 none
 else if r6 = (0 : Int) then
 none
 else if r4 = (0 : Int) then
 none
 else (spec_IsRatio k (IntKind.wrap .i64 ((IntKind.wrap .i64 (Int.tdiv a_0.1 r4)) * (IntKind.wrap .i64 (Int.tdiv b_1.1 r6))), (IntKind.wrap .i64 ((IntKind.wrap .i64 (Int.tdiv a_0.2.1 r6)) * (IntKind.wrap .i64 (Int.tdiv b_1.2.1 r4))), ()))).bind fun r7 =>
 if ¬ (r7 = true) then
 some ((0, (0, ())), (false, ()))
 else some ((IntKind.wrap .i64 ((IntKind.wrap .i64 (Int.tdiv a_0.1 r4)) * (IntKind.wrap .i64 (Int.tdiv b_1.1 r6))), (IntKind.wrap .i64 ((IntKind.wrap .i64 (Int.tdiv a_0.2.1 r6)) * (IntKind.wrap .i64 (Int.tdiv b_1.2.1 r4))), ())), (true, ())) := by kernel_rfl
theorem slices_IndexFunc_impl_Event_62_eq (k : Nat) (s_0 : (List DT89)) (c1_0 : DT30) : slices_IndexFunc_impl_Event_62 (k + 1) s_0 c1_0 =
 slices_IndexFunc_impl_Event_62.l0 k k s_0 c1_0 ((List.length s_0 : Nat) : Int) 0 := by kernel_rfl
theorem slices_IndexFunc_impl_Event_62.l0_eq (k m : Nat) (s_0 : (List DT89)) (f_1_c : DT30) (t_7 : Int) (t_8 : Int) : slices_IndexFunc_impl_Event_62.l0 k (m + 1) s_0 f_1_c t_7 t_8 =
 if (t_8 : Int) < t_7 then
 if 0 ≤ t_8 then
 if t_8 < ((List.length s_0 : Nat) : Int) then
 (impl_IsExact_1 k (rd T89 s_0 t_8) f_1_c).bind fun r1 =>
 if r1 = true then
 some t_8
 else slices_IndexFunc_impl_Event_62.l0 k m s_0 f_1_c t_7 (IntKind.wrap .i64 (t_8 + 1)) else none else none
 else some (-1) := by kernel_rfl
theorem laws_eqEvent_eq (k : Nat) (a_0 : DT89) (b_1 : DT89) : laws_eqEvent (k + 1) a_0 b_1 =
 if (a_0.1 : Int) ≠ b_1.1 then
 some false
 else if (a_0.2.1 : Int) ≠ b_1.2.1 then
 some false
 else if (a_0.2.2.1 : Int) ≠ b_1.2.2.1 then
 some false
 else if (a_0.2.2.2.1 : Int) ≠ b_1.2.2.2.1 then
 some false
 else some true := by kernel_rfl
theorem laws_eqTempo_eq (k : Nat) (a_0 : DT23) (b_1 : DT23) : laws_eqTempo (k + 1) a_0 b_1 =
 if (a_0.1 : Int) ≠ b_1.1 then
 some false
 else if (a_0.2.1 : Int) ≠ b_1.2.1 then
 some false
 else some true := by kernel_rfl
theorem laws_eqPlayer_eq (k : Nat) (a_0 : DT120) (b_1 : DT120) : laws_eqPlayer (k + 1) a_0 b_1 =
 if (a_0.1 : Int) ≠ b_1.1 then
 some false
 else if (a_0.2.1 : Int) ≠ b_1.2.1 then
 some false
 else if (a_0.2.2.1 : Int) ≠ b_1.2.2.1 then
 some false
 else (laws_eqIntS k a_0.2.2.2.1 b_1.2.2.2.1).bind fun r1 =>
 if ¬ (r1 = true) then
 some false
 else some true := by kernel_rfl
theorem laws_eqMark_eq (k : Nat) (a_0 : DT134) (b_1 : DT134) : laws_eqMark (k + 1) a_0 b_1 =
 if (a_0.1 : Int) ≠ b_1.1 then
 some false
 else if (a_0.2.1 : Int) ≠ b_1.2.1 then
 some false
 else if (a_0.2.2.1 : Int) ≠ b_1.2.2.1 then
 some false
 else if (a_0.2.2.2.1 : Int) ≠ b_1.2.2.2.1 then
 some false
 else if (a_0.2.2.2.2.1 : Int) ≠ b_1.2.2.2.2.1 then
 some false
 else some true := by kernel_rfl
theorem laws_eqLetter_eq (k : Nat) (a_0 : DT23) (b_1 : DT23) : laws_eqLetter (k + 1) a_0 b_1 =
 if (a_0.1 : Int) ≠ b_1.1 then
 some false
 else if (a_0.2.1 : Int) ≠ b_1.2.1 then
 some false
 else some true := by kernel_rfl
theorem spec_l4Abs_eq (k : Nat) (n_0 : Int) : spec_l4Abs (k + 1) n_0 =
 if (n_0 : Int) < 0 then
 some (IntKind.wrap .i64 (-n_0))
 else some n_0 := by kernel_rfl
theorem spec_l4Gcd_eq (k : Nat) (a_0 : Int) (b_1 : Int) : spec_l4Gcd (k + 1) a_0 b_1 =
 spec_l4Gcd.l0 k k a_0 b_1 := by kernel_rfl
theorem spec_l4Gcd.l0_eq (k m : Nat) (a_0 : Int) (b_1 : Int) : spec_l4Gcd.l0 k (m + 1) a_0 b_1 =
 if (b_1 : Int) ≠ 0 then
 if b_1 = (0 : Int) then
 none
 else spec_l4Gcd.l0 k m b_1 (Int.tmod a_0 b_1)
 else some a_0 := by kernel_rfl
theorem impl_IsExact_1_eq (k : Nat) (e_0 : DT89) (a_1 : DT30) : impl_IsExact_1 (k + 1) e_0 a_1 =
 (impl_TimeOf k a_1.2.2.1 e_0.1).bind fun r1 =>
 (impl_TickAt k a_1.2.2.1 r1.1).bind fun r2 =>
 if ¬ (r1.2.1 = true) then
 some true
 else if ¬ (r2.2.1 = true) then
 some true
 else some (decide (¬ (((r2.1.1 : Int) = e_0.1) ∧ ((r2.1.2.1 : Int) = 1)))) := by kernel_rfl
theorem impl_TimeOf_eq (k : Nat) (l_0 : (List DT23)) (tick_1 : Int) : impl_TimeOf (k + 1) l_0 tick_1 =
 (impl_IsTempo k l_0).bind fun r1 =>
 if ¬ (r1 = true) then
 some ((0, (0, ())), (false, ()))
 else (impl_InRange k tick_1 0 2000).bind fun r2 =>
 if ¬ (r2 = true) then
 some ((0, (0, ())), (false, ()))
 else impl_TimeOf.l0 k k l_0 tick_1 l_0 ((List.length l_0 : Nat) : Int) 0 0 0 0 1 := by kernel_rfl
theorem impl_TimeOf.l0_eq (k m : Nat) (l_0 : (List DT23)) (tick_1 : Int) (t_24 : (List DT23)) (t_25 : Int) (t_26 : Int) (b0_0 : Int) (b0_1 : Int) (b1_0 : Int) (b1_1 : Int) : impl_TimeOf.l0 k (m + 1) l_0 tick_1 t_24 t_25 t_26 b0_0 b0_1 b1_0 b1_1 =
 if (t_26 : Int) < t_25 then
 if 0 ≤ t_26 then
 if t_26 < ((List.length t_24 : Nat) : Int) then
 if ((IntKind.wrap .i64 (t_26 + 1)) : Int) < ((List.length l_0 : Nat) : Int) then
 if 0 ≤ (IntKind.wrap .i64 (t_26 + 1)) then
 if (IntKind.wrap .i64 (t_26 + 1)) < ((List.length l_0 : Nat) : Int) then
 if LE.le (α := Int) (min tick_1 (rd T23 l_0 (IntKind.wrap .i64 (t_26 + 1))).1 : Int) (rd T23 t_24 t_26).1 then
 some ((b1_0, (b1_1, ())), (true, ()))
 else (impl_MakeRatio k (IntKind.wrap .i64 ((IntKind.wrap .i64 ((min tick_1 (rd T23 l_0 (IntKind.wrap .i64 (t_26 + 1))).1 : Int) - (rd T23 t_24 t_26).1)) * 5000)) (rd T23 t_24 t_26).2.1).bind fun r3 =>
 (impl_AddRatio k (b1_0, (b1_1, ())) r3.1).bind fun r4 =>
 if ¬ (r3.2.1 = true) then
 some ((0, (0, ())), (false, ()))
 else if ¬ (r4.2.1 = true) then
 some ((0, (0, ())), (false, ()))
 else impl_TimeOf.l0 k m l_0 tick_1 t_24 t_25 (IntKind.wrap .i64 (t_26 + 1)) b0_0 b0_1 r4.1.1 r4.1.2.1 else none else none
 else if LE.le (α := Int) tick_1 (rd T23 t_24 t_26).1 then
 some ((b1_0, (b1_1, ())), (true, ()))
 else (impl_MakeRatio k (IntKind.wrap .i64 ((IntKind.wrap .i64 (tick_1 - (rd T23 t_24 t_26).1)) * 5000)) (rd T23 t_24 t_26).2.1).bind fun r5 =>
 (impl_AddRatio k (b1_0, (b1_1, ())) r5.1).bind fun r6 =>
 if ¬ (r5.2.1 = true) then
 some ((0, (0, ())), (false, ()))
 else if ¬ (r6.2.1 = true) then
 some ((0, (0, ())), (false, ()))
 else impl_TimeOf.l0 k m l_0 tick_1 t_24 t_25 (IntKind.wrap .i64 (t_26 + 1)) b0_0 b0_1 r6.1.1 r6.1.2.1 else none else none
 else some ((b1_0, (b1_1, ())), (true, ())) := by kernel_rfl
theorem impl_TickAt_eq (k : Nat) (l_0 : (List DT23)) (ms_1 : DT23) : impl_TickAt (k + 1) l_0 ms_1 =
 (impl_IsTempo k l_0).bind fun r1 =>
 if ¬ (r1 = true) then
 some ((0, (0, ())), (false, ()))
 else (impl_IsRatio k ms_1).bind fun r2 =>
 if ¬ (r2 = true) then
 some ((0, (0, ())), (false, ()))
 else if (ms_1.1 : Int) < 0 then
 some ((0, (0, ())), (false, ()))
 else if 0 ≤ 0 then
 if 0 < ((List.length l_0 : Nat) : Int) then
 if 0 ≤ 1 then
 if 1 ≤ ((List.length l_0 : Nat) : Int) then
 impl_TickAt.l0 k k l_0 (List.take ((Int.toNat ((List.length l_0 : Nat) : Int)) - (Int.toNat 1)) (List.drop (Int.toNat 1) l_0)) ((List.length (List.take ((Int.toNat ((List.length l_0 : Nat) : Int)) - (Int.toNat 1)) (List.drop (Int.toNat 1) l_0)) : Nat) : Int) 0 ms_1.1 ms_1.2.1 0 0 (rd T23 l_0 0).1 (rd T23 l_0 0).2.1 0 1 else none else none else none else none := by kernel_rfl
theorem impl_TickAt.l0_eq (k m : Nat) (l_0 : (List DT23)) (t_39 : (List DT23)) (t_40 : Int) (t_41 : Int) (b0_0 : Int) (b0_1 : Int) (b1_0 : Int) (b1_1 : Int) (b2_0 : Int) (b2_1 : Int) (b3_0 : Int) (b3_1 : Int) : impl_TickAt.l0 k (m + 1) l_0 t_39 t_40 t_41 b0_0 b0_1 b1_0 b1_1 b2_0 b2_1 b3_0 b3_1 =
 if (t_41 : Int) < t_40 then
 if 0 ≤ t_41 then
 if t_41 < ((List.length t_39 : Nat) : Int) then
 (impl_TimeOf k l_0 (rd T23 t_39 t_41).1).bind fun r3 =>
 if ¬ (r3.2.1 = true) then
 some ((0, (0, ())), (false, ()))
 else (impl_LessRatio k (b0_0, (b0_1, ())) r3.1).bind fun r4 =>
 if r4 = true then
 (impl_AddRatio k (b0_0, (b0_1, ())) (IntKind.wrap .i64 (-b3_0), (b3_1, ()))).bind fun r5 =>
 (impl_MakeRatio k b2_1 5000).bind fun r6 =>
 (impl_MulRatio k r5.1 r6.1).bind fun r7 =>
 (impl_AddRatio k (b2_0, (1, ())) r7.1).bind fun r8 =>
 if ¬ (r5.2.1 = true) then
 some ((0, (0, ())), (false, ()))
 else if ¬ (r6.2.1 = true) then
 some ((0, (0, ())), (false, ()))
 else if ¬ (r7.2.1 = true) then
 some ((0, (0, ())), (false, ()))
 else if ¬ (r8.2.1 = true) then
 some ((0, (0, ())), (false, ()))
 else some (r8.1, (true, ()))
 else impl_TickAt.l0 k m l_0 t_39 t_40 (IntKind.wrap .i64 (t_41 + 1)) b0_0 b0_1 b1_0 b1_1 (rd T23 t_39 t_41).1 (rd T23 t_39 t_41).2.1 r3.1.1 r3.1.2.1 else none else none
 else (impl_AddRatio k (b0_0, (b0_1, ())) (IntKind.wrap .i64 (-b3_0), (b3_1, ()))).bind fun r9 =>
 (impl_MakeRatio k b2_1 5000).bind fun r10 =>
 (impl_MulRatio k r9.1 r10.1).bind fun r11 =>
 (impl_AddRatio k (b2_0, (1, ())) r11.1).bind fun r12 =>
 if ¬ (r9.2.1 = true) then
 some ((0, (0, ())), (false, ()))
 else if ¬ (r10.2.1 = true) then
 some ((0, (0, ())), (false, ()))
 else if ¬ (r11.2.1 = true) then
 some ((0, (0, ())), (false, ()))
 else if ¬ (r12.2.1 = true) then
 some ((0, (0, ())), (false, ()))
 else some (r12.1, (true, ())) := by kernel_rfl
theorem impl_IsTempo_eq (k : Nat) (l_0 : (List DT23)) : impl_IsTempo (k + 1) l_0 =
 impl_IsTempo.l0 k k l_0 l_0 ((List.length l_0 : Nat) : Int) 0 := by kernel_rfl
theorem impl_IsTempo.l0_eq (k m : Nat) (l_0 : (List DT23)) (t_5 : (List DT23)) (t_6 : Int) (t_7 : Int) : impl_IsTempo.l0 k (m + 1) l_0 t_5 t_6 t_7 =
 if (t_7 : Int) < t_6 then
 if 0 ≤ t_7 then
 if t_7 < ((List.length t_5 : Nat) : Int) then
 if (t_7 : Int) = 0 then
 if Ne (α := Int) (rd T23 t_5 t_7).1 0 then
 some false
 else if (0 : Int) < t_7 then
 if 0 ≤ (IntKind.wrap .i64 (t_7 - 1)) then
 if (IntKind.wrap .i64 (t_7 - 1)) < ((List.length l_0 : Nat) : Int) then
 if LE.le (α := Int) (rd T23 t_5 t_7).1 (rd T23 l_0 (IntKind.wrap .i64 (t_7 - 1))).1 then
 some false
 else if LT.lt (α := Int) 2000 (rd T23 t_5 t_7).1 then
 some false
 else (impl_InRange k (rd T23 t_5 t_7).2.1 20 300).bind fun r1 =>
 if ¬ (r1 = true) then
 some false
 else impl_IsTempo.l0 k m l_0 t_5 t_6 (IntKind.wrap .i64 (t_7 + 1)) else none else none
 else if LT.lt (α := Int) 2000 (rd T23 t_5 t_7).1 then
 some false
 else (impl_InRange k (rd T23 t_5 t_7).2.1 20 300).bind fun r2 =>
 if ¬ (r2 = true) then
 some false
 else impl_IsTempo.l0 k m l_0 t_5 t_6 (IntKind.wrap .i64 (t_7 + 1))
 else if (0 : Int) < t_7 then
 if 0 ≤ (IntKind.wrap .i64 (t_7 - 1)) then
 if (IntKind.wrap .i64 (t_7 - 1)) < ((List.length l_0 : Nat) : Int) then
 if LE.le (α := Int) (rd T23 t_5 t_7).1 (rd T23 l_0 (IntKind.wrap .i64 (t_7 - 1))).1 then
 some false
 else if LT.lt (α := Int) 2000 (rd T23 t_5 t_7).1 then
 some false
 else (impl_InRange k (rd T23 t_5 t_7).2.1 20 300).bind fun r3 =>
 if ¬ (r3 = true) then
 some false
 else impl_IsTempo.l0 k m l_0 t_5 t_6 (IntKind.wrap .i64 (t_7 + 1)) else none else none
 else if LT.lt (α := Int) 2000 (rd T23 t_5 t_7).1 then
 some false
 else (impl_InRange k (rd T23 t_5 t_7).2.1 20 300).bind fun r4 =>
 if ¬ (r4 = true) then
 some false
 else impl_IsTempo.l0 k m l_0 t_5 t_6 (IntKind.wrap .i64 (t_7 + 1)) else none else none
 else (impl_InRange k ((List.length l_0 : Nat) : Int) 1 8).bind fun r5 =>
 some (decide (r5 = true)) := by kernel_rfl
theorem impl_InRange_eq (k : Nat) (n_0 : Int) (low_1 : Int) (high_2 : Int) : impl_InRange (k + 1) n_0 low_1 high_2 =
 if (low_1 : Int) ≤ n_0 then
 some (decide ((n_0 : Int) ≤ high_2))
 else some false := by kernel_rfl
theorem impl_MakeRatio_eq (k : Nat) (n_0 : Int) (d_1 : Int) : impl_MakeRatio (k + 1) n_0 d_1 =
 (impl_InRange k n_0 (-1000000000000000) 1000000000000000).bind fun r1 =>
 if ¬ (r1 = true) then
 some ((0, (0, ())), (false, ()))
 else (impl_InRange k d_1 (-1000000000000000) 1000000000000000).bind fun r2 =>
 if ¬ (r2 = true) then
 some ((0, (0, ())), (false, ()))
 else (impl_lowest k n_0 d_1).bind fun r3 =>
 some (r3.1, (decide (r3.2.1 = true), ())) := by kernel_rfl
theorem impl_AddRatio_eq (k : Nat) (a_0 : DT23) (b_1 : DT23) : impl_AddRatio (k + 1) a_0 b_1 =
 (impl_IsRatio k a_0).bind fun r1 =>
 if ¬ (r1 = true) then
 some ((0, (0, ())), (false, ()))
 else (impl_IsRatio k b_1).bind fun r2 =>
 if ¬ (r2 = true) then
 some ((0, (0, ())), (false, ()))
 else (impl_lowest k (IntKind.wrap .i64 ((IntKind.wrap .i64 (a_0.1 * b_1.2.1)) + (IntKind.wrap .i64 (b_1.1 * a_0.2.1)))) (IntKind.wrap .i64 (a_0.2.1 * b_1.2.1))).bind fun r3 =>
 some (r3.1, (decide (r3.2.1 = true), ())) := by kernel_rfl
theorem impl_IsRatio_eq (k : Nat) (r_0 : DT23) : impl_IsRatio (k + 1) r_0 =
 (impl_InRange k r_0.2.1 1 1000000).bind fun r1 =>
 if r1 = true then
 (impl_InRange k r_0.1 (-1000000000) 1000000000).bind fun r2 =>
 if r2 = true then
 (impl_divisor k (max r_0.1 (IntKind.wrap .i64 (-r_0.1)) : Int) r_0.2.1).bind fun r3 =>
 some (decide ((r3 : Int) = 1))
 else some false
 else some false := by kernel_rfl
theorem impl_LessRatio_eq (k : Nat) (a_0 : DT23) (b_1 : DT23) : impl_LessRatio (k + 1) a_0 b_1 =
 (impl_IsRatio k a_0).bind fun r1 =>
 if r1 = true then
 (impl_IsRatio k b_1).bind fun r2 =>
 if r2 = true then
 some (decide (((IntKind.wrap .i64 (a_0.1 * b_1.2.1)) : Int) < (IntKind.wrap .i64 (b_1.1 * a_0.2.1))))
 else some false
 else some false := by kernel_rfl
theorem impl_MulRatio_eq (k : Nat) (a_0 : DT23) (b_1 : DT23) : impl_MulRatio (k + 1) a_0 b_1 =
 (impl_IsRatio k a_0).bind fun r1 =>
 if ¬ (r1 = true) then
 some ((0, (0, ())), (false, ()))
 else (impl_IsRatio k b_1).bind fun r2 =>
 if ¬ (r2 = true) then
 some ((0, (0, ())), (false, ()))
 else (impl_lowest k (IntKind.wrap .i64 (a_0.1 * b_1.1)) (IntKind.wrap .i64 (a_0.2.1 * b_1.2.1))).bind fun r3 =>
 some (r3.1, (decide (r3.2.1 = true), ())) := by kernel_rfl
theorem impl_lowest_eq (k : Nat) (n_0 : Int) (d_1 : Int) : impl_lowest (k + 1) n_0 d_1 =
 if (d_1 : Int) < 0 then
 if ((IntKind.wrap .i64 (-d_1)) : Int) = 0 then
 some ((0, (0, ())), (false, ()))
 else (impl_divisor k (max (IntKind.wrap .i64 (-n_0)) (IntKind.wrap .i64 (-(IntKind.wrap .i64 (-n_0)))) : Int) (IntKind.wrap .i64 (-d_1))).bind fun r1 =>
 if r1 = (0 : Int) then
 none
 else if r1 = (0 : Int) then
 none
 else (impl_IsRatio k (IntKind.wrap .i64 (Int.tdiv (IntKind.wrap .i64 (-n_0)) r1), (IntKind.wrap .i64 (Int.tdiv (IntKind.wrap .i64 (-d_1)) r1), ()))).bind fun r2 =>
 if ¬ (r2 = true) then
 some ((0, (0, ())), (false, ()))
 else some ((IntKind.wrap .i64 (Int.tdiv (IntKind.wrap .i64 (-n_0)) r1), (IntKind.wrap .i64 (Int.tdiv (IntKind.wrap .i64 (-d_1)) r1), ())), (true, ()))
 else if (d_1 : Int) = 0 then
 some ((0, (0, ())), (false, ()))
 else (impl_divisor k (max n_0 (IntKind.wrap .i64 (-n_0)) : Int) d_1).bind fun r3 =>
 if r3 = (0 : Int) then
 none
 else if r3 = (0 : Int) then
 none
 else (impl_IsRatio k (IntKind.wrap .i64 (Int.tdiv n_0 r3), (IntKind.wrap .i64 (Int.tdiv d_1 r3), ()))).bind fun r4 =>
 if ¬ (r4 = true) then
 some ((0, (0, ())), (false, ()))
 else some ((IntKind.wrap .i64 (Int.tdiv n_0 r3), (IntKind.wrap .i64 (Int.tdiv d_1 r3), ())), (true, ())) := by kernel_rfl
theorem impl_divisor_eq (k : Nat) (a_0 : Int) (b_1 : Int) : impl_divisor (k + 1) a_0 b_1 =
 impl_divisor.l0 k k a_0 b_1 := by kernel_rfl
theorem impl_divisor.l0_eq (k m : Nat) (a_0 : Int) (b_1 : Int) : impl_divisor.l0 k (m + 1) a_0 b_1 =
 if (b_1 : Int) ≠ 0 then
 if b_1 = (0 : Int) then
 none
 else impl_divisor.l0 k m b_1 (Int.tmod a_0 b_1)
 else some a_0 := by kernel_rfl
end Go.QFnExactIsExact
