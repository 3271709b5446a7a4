/- The functions that the law FnExactIsPlayable reaches, as equations; printed by pe.py. No condition. -/
import Derived.Test.YtfjnjnmdlidpgaaEv
import Derived.Test.YtfjnjnmdlidpgaaProg
import Derived.KernelRfl
set_option linter.unusedVariables false
open Go Go.Flat
namespace Go.QFnExactIsPlayable
abbrev T23 : Ty := .pair (.int .i64) (.pair (.int .i64) .unit)
abbrev DT23 := Int × (Int × Unit)
abbrev T104 : Ty := .pair (.int .i64) T23
abbrev DT104 := Int × DT23
abbrev T89 : Ty := .pair (.int .i64) T104
abbrev DT89 := Int × DT104
abbrev T120 : Ty := .pair (.int .i64) (.pair (.int .i64) (.pair (.int .i64) (.pair (.list (.int .i64)) .unit)))
abbrev DT120 := Int × (Int × (Int × ((List Int) × Unit)))
abbrev T134 : Ty := .pair (.int .i64) T89
abbrev DT134 := Int × DT89
abbrev T30 : Ty := .pair (.list T89) (.pair T23 (.pair (.list T23) (.pair (.list T120) (.pair (.list (.int .i64)) (.pair (.list T134) (.pair (.list T23) T23))))))
abbrev DT30 := (List DT89) × (DT23 × ((List DT23) × ((List DT120) × ((List Int) × ((List DT134) × ((List DT23) × DT23))))))
noncomputable def C : Cfg := {
  P := Go.Proofs.Try.prog,
  tt := [(1, none), (2, some (.int .i64)), (3, some (.int .i64)), (4, some .bool), (5, some (.int .u8)), (6, some (.int .u8)), (9, some .str), (10, some .str), (11, some .str), (12, some (.int .u64)), (15, none), (16, none), (17, none), (21, some (.int .i32)), (22, some (.list T89)), (23, some T23), (24, some T23), (25, some (.list T23)), (26, some (.list T120)), (27, some (.list (.int .i64))), (28, some (.list T134)), (29, some (.list T23)), (30, some T30), (31, some T30), (32, none), (33, none), (34, some (.list T89)), (35, some T23), (36, some (.list T23)), (37, some (.list T120)), (38, some (.list T134)), (39, some (.list T23)), (40, some T30), (41, some T30), (42, none), (43, none), (44, none), (46, none), (47, some (.list T104)), (49, none), (50, none), (51, none), (52, none), (53, none), (54, none), (55, some (.list T23)), (56, none), (57, none), (58, none), (59, none), (60, none), (61, none), (62, none), (63, none), (65, none), (66, none), (67, none), (68, none), (69, none), (70, none), (71, none), (72, none), (73, none), (74, none), (75, none), (76, none), (77, none), (78, none), (79, none), (80, none), (81, none), (82, none), (83, none), (84, none), (85, some T23), (86, some T23), (88, none), (89, some T89), (90, some T89), (91, none), (92, none), (93, none), (94, none), (95, none), (96, none), (97, none), (98, none), (99, none), (100, none), (101, none), (102, none), (103, none), (104, some T104), (105, some T104), (106, none), (107, none), (108, none), (109, none), (110, some T23), (111, some T23), (113, none), (114, none), (115, some T89), (116, none), (117, none), (118, none), (119, none), (120, some T120), (121, some T120), (122, none), (123, some T23), (124, some T23), (125, some T120), (126, none), (127, none), (128, none), (129, none), (130, none), (131, none), (132, none), (133, some T23), (134, some T134), (135, some T134), (136, none), (137, some T134), (138, some T23), (139, some T23), (140, none), (141, some T23), (142, none), (143, none), (144, none), (145, none), (146, none), (147, none), (148, none), (149, none), (150, none), (151, none), (152, none), (153, none), (154, none), (155, none), (156, none), (157, none), (158, none), (159, none), (160, some (.int .u64)), (161, none), (162, none), (163, none), (164, none), (165, none), (166, none), (167, none), (168, none), (169, none), (170, none), (171, none), (172, none), (173, none), (174, none), (175, some (.int .i64)), (177, none), (178, none), (179, none), (180, none), (181, none), (182, some (.int .u32)), (183, none), (184, some (.int .u64)), (185, none), (186, none), (187, none), (188, some (.int .u64)), (189, none), (190, none), (191, none), (192, none), (193, none), (194, some (.list (.list (.int .i64)))), (195, none), (197, none), (198, none), (204, none), (205, some (.int .u8)), (206, some (.int .u8)), (207, none), (208, none), (209, some (.int .i32)), (210, some (.int .i32))],
  vars := [(29, [0, 3, 4]), (32, [0, 1, 5]), (36, [0, 1, 5]), (39, [0, 3, 4]), (41, [0, 1, 5]), (48, [0, 1, 2, 7, 8, 9]), (49, [0, 3, 4]), (50, [0, 3, 4]), (51, [0, 3, 4]), (52, [0, 3, 4]), (53, [0, 2, 4, 22, 23, 24]), (55, [0, 1, 5]), (56, [0, 1, 5]), (57, [0, 1, 5]), (58, [0, 1, 5]), (69, [0, 3]), (75, [0, 5, 6, 7]), (82, [0, 1, 7, 8]), (109, [0, 1, 5]), (110, [0, 3, 4, 5]), (114, [0, 3, 7, 8, 9]), (128, [0, 1, 7, 8]), (142, [0, 1, 5, 6]), (159, [0, 1, 2, 7]), (160, [0, 1, 2, 9, 10, 11]), (161, [0, 1, 7, 8]), (162, [0, 1, 2, 9, 10, 11]), (167, [3, 6, 7, 8]), (169, [0, 1, 5, 6])],
  sigs := [(169, { io := [0] })] }
noncomputable def laws_FnExactIsPlayable (k : Nat) (aO_0 : DT30) : Option Bool := run C k 3 .bool [.val T30 aO_0]
noncomputable def laws_szOrchestra (k : Nat) (a_0 : DT30) (left_1 : Int) : Option Int := run C k 10 (.int .i64) [.val T30 a_0, .val (.int .i64) left_1]
noncomputable def laws_toOrchestra (k : Nat) (a_0 : DT30) : Option DT30 := run C k 12 T30 [.val T30 a_0]
noncomputable def spec_IsPlayable (k : Nat) (o_0 : DT30) : Option Bool := run C k 11 .bool [.val T30 o_0]
noncomputable def impl_IsPlayable (k : Nat) (o_0 : DT30) : Option Bool := run C k 13 .bool [.val T30 o_0]
noncomputable def laws_eqOrchestra (k : Nat) (a_0 : DT30) (b_1 : DT30) : Option Bool := run C k 14 .bool [.val T30 a_0, .val T30 b_1]
noncomputable def laws_szEventS (k : Nat) (a_0 : (List DT89)) (left_1 : Int) : Option Int := run C k 27 (.int .i64) [.val (.list T89) a_0, .val (.int .i64) left_1]
noncomputable def laws_szTempoS (k : Nat) (a_0 : (List DT23)) (left_1 : Int) : Option Int := run C k 44 (.int .i64) [.val (.list T23) a_0, .val (.int .i64) left_1]
noncomputable def laws_szPlayerS (k : Nat) (a_0 : (List DT120)) (left_1 : Int) : Option Int := run C k 36 (.int .i64) [.val (.list T120) a_0, .val (.int .i64) left_1]
noncomputable def laws_szPlayerS.l0 (k m : Nat) (a_0 : (List DT120)) (left_1 : Int) (i_5 : Int) : Option Int := loopRun C k 36 (.int .i64) [0, 0] [.r, .r, .r, .l, .r, .b] [] [0, 1, 5] m ⟨[.one (.cell (.list false T120 a_0)), .one (.cell (.int .i64 left_1)), .one (.cell (.int .i64 i_5))], []⟩
noncomputable def laws_szIntS (k : Nat) (a_0 : (List Int)) (left_1 : Int) : Option Int := run C k 45 (.int .i64) [.val (.list (.int .i64)) a_0, .val (.int .i64) left_1]
noncomputable def laws_szMarkS (k : Nat) (a_0 : (List DT134)) (left_1 : Int) : Option Int := run C k 46 (.int .i64) [.val (.list T134) a_0, .val (.int .i64) left_1]
noncomputable def laws_szLetterS (k : Nat) (a_0 : (List DT23)) (left_1 : Int) : Option Int := run C k 47 (.int .i64) [.val (.list T23) a_0, .val (.int .i64) left_1]
noncomputable def laws_toEventS (k : Nat) (a_0 : (List DT89)) : Option (List DT89) := run C k 29 (.list T89) [.val (.list T89) a_0]
noncomputable def laws_toEventS.l0 (k m : Nat) (a_0 : (List DT89)) (i_4 : Int) (s0 : (List DT89)) : Option (List DT89) := loopRun C k 29 (.list T89) [0] [.r, .r, .l, .r, .b] [] [0, 3, 4] m ⟨[.one (.cell (.list false T89 a_0)), .one (.cell (.ref 1)), .one (.cell (.int .i64 i_4))], [.arr T89 s0 .open]⟩
noncomputable def laws_toMeter (k : Nat) (a_0 : DT23) : Option DT23 := run C k 38 T23 [.val T23 a_0]
noncomputable def laws_toTempoS (k : Nat) (a_0 : (List DT23)) : Option (List DT23) := run C k 49 (.list T23) [.val (.list T23) a_0]
noncomputable def laws_toTempoS.l0 (k m : Nat) (a_0 : (List DT23)) (i_4 : Int) (s0 : (List DT23)) : Option (List DT23) := loopRun C k 49 (.list T23) [0] [.r, .r, .l, .r, .b] [] [0, 3, 4] m ⟨[.one (.cell (.list false T23 a_0)), .one (.cell (.ref 1)), .one (.cell (.int .i64 i_4))], [.arr T23 s0 .open]⟩
noncomputable def laws_toPlayerS (k : Nat) (a_0 : (List DT120)) : Option (List DT120) := run C k 39 (.list T120) [.val (.list T120) a_0]
noncomputable def laws_toPlayerS.l0 (k m : Nat) (a_0 : (List DT120)) (i_4 : Int) (s0 : (List DT120)) : Option (List DT120) := loopRun C k 39 (.list T120) [0] [.r, .r, .l, .r, .b] [] [0, 3, 4] m ⟨[.one (.cell (.list false T120 a_0)), .one (.cell (.ref 1)), .one (.cell (.int .i64 i_4))], [.arr T120 s0 .open]⟩
noncomputable def laws_toIntS (k : Nat) (a_0 : (List Int)) : Option (List Int) := run C k 50 (.list (.int .i64)) [.val (.list (.int .i64)) a_0]
noncomputable def laws_toIntS.l0 (k m : Nat) (a_0 : (List Int)) (i_4 : Int) (s0 : (List Int)) : Option (List Int) := loopRun C k 50 (.list (.int .i64)) [0] [.r, .r, .l, .r, .b] [] [0, 3, 4] m ⟨[.one (.cell (.list false (.int .i64) a_0)), .one (.cell (.ref 1)), .one (.cell (.int .i64 i_4))], [.arr (.int .i64) s0 .open]⟩
noncomputable def laws_toMarkS (k : Nat) (a_0 : (List DT134)) : Option (List DT134) := run C k 51 (.list T134) [.val (.list T134) a_0]
noncomputable def laws_toMarkS.l0 (k m : Nat) (a_0 : (List DT134)) (i_4 : Int) (s0 : (List DT134)) : Option (List DT134) := loopRun C k 51 (.list T134) [0] [.r, .r, .l, .r, .b] [] [0, 3, 4] m ⟨[.one (.cell (.list false T134 a_0)), .one (.cell (.ref 1)), .one (.cell (.int .i64 i_4))], [.arr T134 s0 .open]⟩
noncomputable def laws_toLetterS (k : Nat) (a_0 : (List DT23)) : Option (List DT23) := run C k 52 (.list T23) [.val (.list T23) a_0]
noncomputable def laws_toLetterS.l0 (k m : Nat) (a_0 : (List DT23)) (i_4 : Int) (s0 : (List DT23)) : Option (List DT23) := loopRun C k 52 (.list T23) [0] [.r, .r, .l, .r, .b] [] [0, 3, 4] m ⟨[.one (.cell (.list false T23 a_0)), .one (.cell (.ref 1)), .one (.cell (.int .i64 i_4))], [.arr T23 s0 .open]⟩
noncomputable def spec_IsSeating (k : Nat) (l_0 : (List DT120)) (score_1 : (List DT89)) (seats_2 : (List Int)) : Option Bool := run C k 48 .bool [.val (.list T120) l_0, .val (.list T89) score_1, .val (.list (.int .i64)) seats_2]
noncomputable def spec_IsSeating.l0 (k m : Nat) (l_0 : (List DT120)) (score_1 : (List DT89)) (seats_2 : (List Int)) (i_7 : Int) : Option Bool := loopRun C k 48 .bool [0, 0, 0] [.r, .l, .r, .b] [] [0, 1, 2, 7] m ⟨[.one (.cell (.list false T120 l_0)), .one (.cell (.list false T89 score_1)), .one (.cell (.list false (.int .i64) seats_2)), .one (.cell (.int .i64 i_7))], []⟩
noncomputable def spec_IsSeating.l1 (k m m1 : Nat) (l_0 : (List DT120)) (score_1 : (List DT89)) (seats_2 : (List Int)) (i_7 : Int) (good_8 : Bool) (k_9 : Int) : Option Bool := loopRun C k 48 .bool [0, 0, 0] [.r, .l, .r, .b, .p, .r, .l, .b, .r, .l, .r, .b] [⟨[0, 1, 2, 7], m1⟩] [0, 1, 2, 7, 8, 9] m ⟨[.one (.cell (.list false T120 l_0)), .one (.cell (.list false T89 score_1)), .one (.cell (.list false (.int .i64) seats_2)), .one (.cell (.int .i64 i_7)), .one (.cell (.prop (good_8 = true) (instDecidableEqBool good_8 true))), .one (.cell (.int .i64 k_9))], []⟩
noncomputable def impl_IsSeating (k : Nat) (l_0 : (List DT120)) (score_1 : (List DT89)) (seats_2 : (List Int)) : Option Bool := run C k 53 .bool [.val (.list T120) l_0, .val (.list T89) score_1, .val (.list (.int .i64)) seats_2]
noncomputable def impl_IsSeating.l0 (k m : Nat) (l_0 : (List DT120)) (seats_2 : (List Int)) (t_22 : (List Int)) (t_23 : Int) (t_24 : Int) (b0_0 : (List DT89)) : Option Bool := loopRun C k 53 .bool [0, 0, 0] [.r, .r, .l, .r, .b] [] [0, 2, 4, 22, 23, 24] m ⟨[.one (.cell (.list false T120 l_0)), .one (.cell (.list false (.int .i64) seats_2)), .one (.cell (.ptr 1 0)), .one (.cell (.list false (.int .i64) t_22)), .one (.cell (.int .i64 t_23)), .one (.cell (.int .i64 t_24))], [.box (some (.list T89)) [.list false T89 b0_0]]⟩
noncomputable def laws_eqEventS (k : Nat) (a_0 : (List DT89)) (b_1 : (List DT89)) : Option Bool := run C k 32 .bool [.val (.list T89) a_0, .val (.list T89) b_1]
noncomputable def laws_eqEventS.l0 (k m : Nat) (a_0 : (List DT89)) (b_1 : (List DT89)) (i_5 : Int) : Option Bool := loopRun C k 32 .bool [0, 0] [.r, .r, .l, .r, .b] [] [0, 1, 5] m ⟨[.one (.cell (.list false T89 a_0)), .one (.cell (.list false T89 b_1)), .one (.cell (.int .i64 i_5))], []⟩
noncomputable def laws_eqMeter (k : Nat) (a_0 : DT23) (b_1 : DT23) : Option Bool := run C k 54 .bool [.val T23 a_0, .val T23 b_1]
noncomputable def laws_eqTempoS (k : Nat) (a_0 : (List DT23)) (b_1 : (List DT23)) : Option Bool := run C k 55 .bool [.val (.list T23) a_0, .val (.list T23) b_1]
noncomputable def laws_eqTempoS.l0 (k m : Nat) (a_0 : (List DT23)) (b_1 : (List DT23)) (i_5 : Int) : Option Bool := loopRun C k 55 .bool [0, 0] [.r, .r, .l, .r, .b] [] [0, 1, 5] m ⟨[.one (.cell (.list false T23 a_0)), .one (.cell (.list false T23 b_1)), .one (.cell (.int .i64 i_5))], []⟩
noncomputable def laws_eqPlayerS (k : Nat) (a_0 : (List DT120)) (b_1 : (List DT120)) : Option Bool := run C k 41 .bool [.val (.list T120) a_0, .val (.list T120) b_1]
noncomputable def laws_eqPlayerS.l0 (k m : Nat) (a_0 : (List DT120)) (b_1 : (List DT120)) (i_5 : Int) : Option Bool := loopRun C k 41 .bool [0, 0] [.r, .r, .l, .r, .b] [] [0, 1, 5] m ⟨[.one (.cell (.list false T120 a_0)), .one (.cell (.list false T120 b_1)), .one (.cell (.int .i64 i_5))], []⟩
noncomputable def laws_eqIntS (k : Nat) (a_0 : (List Int)) (b_1 : (List Int)) : Option Bool := run C k 56 .bool [.val (.list (.int .i64)) a_0, .val (.list (.int .i64)) b_1]
noncomputable def laws_eqIntS.l0 (k m : Nat) (a_0 : (List Int)) (b_1 : (List Int)) (i_5 : Int) : Option Bool := loopRun C k 56 .bool [0, 0] [.r, .r, .l, .r, .b] [] [0, 1, 5] m ⟨[.one (.cell (.list false (.int .i64) a_0)), .one (.cell (.list false (.int .i64) b_1)), .one (.cell (.int .i64 i_5))], []⟩
noncomputable def laws_eqMarkS (k : Nat) (a_0 : (List DT134)) (b_1 : (List DT134)) : Option Bool := run C k 57 .bool [.val (.list T134) a_0, .val (.list T134) b_1]
noncomputable def laws_eqMarkS.l0 (k m : Nat) (a_0 : (List DT134)) (b_1 : (List DT134)) (i_5 : Int) : Option Bool := loopRun C k 57 .bool [0, 0] [.r, .r, .l, .r, .b] [] [0, 1, 5] m ⟨[.one (.cell (.list false T134 a_0)), .one (.cell (.list false T134 b_1)), .one (.cell (.int .i64 i_5))], []⟩
noncomputable def laws_eqLetterS (k : Nat) (a_0 : (List DT23)) (b_1 : (List DT23)) : Option Bool := run C k 58 .bool [.val (.list T23) a_0, .val (.list T23) b_1]
noncomputable def laws_eqLetterS.l0 (k m : Nat) (a_0 : (List DT23)) (b_1 : (List DT23)) (i_5 : Int) : Option Bool := loopRun C k 58 .bool [0, 0] [.r, .r, .l, .r, .b] [] [0, 1, 5] m ⟨[.one (.cell (.list false T23 a_0)), .one (.cell (.list false T23 b_1)), .one (.cell (.int .i64 i_5))], []⟩
noncomputable def laws_szPlayer (k : Nat) (a_0 : DT120) (left_1 : Int) : Option Int := run C k 97 (.int .i64) [.val T120 a_0, .val (.int .i64) left_1]
noncomputable def laws_toEvent (k : Nat) (a_0 : DT89) : Option DT89 := run C k 91 T89 [.val T89 a_0]
noncomputable def laws_toTempo (k : Nat) (a_0 : DT23) : Option DT23 := run C k 111 T23 [.val T23 a_0]
noncomputable def laws_toPlayer (k : Nat) (a_0 : DT120) : Option DT120 := run C k 99 T120 [.val T120 a_0]
noncomputable def laws_toMark (k : Nat) (a_0 : DT134) : Option DT134 := run C k 112 T134 [.val T134 a_0]
noncomputable def laws_toLetter (k : Nat) (a_0 : DT23) : Option DT23 := run C k 113 T23 [.val T23 a_0]
noncomputable def spec_ArePlayers (k : Nat) (l_0 : (List DT120)) : Option Bool := run C k 110 .bool [.val (.list T120) l_0]
noncomputable def spec_ArePlayers.l0 (k m : Nat) (l_0 : (List DT120)) (i_3 : Int) : Option Bool := loopRun C k 110 .bool [0] [.r, .l, .r, .b] [] [0, 3] m ⟨[.one (.cell (.list false T120 l_0)), .one (.cell (.int .i64 i_3))], []⟩
noncomputable def spec_ArePlayers.l1 (k m m1 : Nat) (l_0 : (List DT120)) (i_3 : Int) (k_5 : Int) (b0_0 : Int) (b0_1 : Int) (b0_2 : Int) (b0_3 : (List Int)) : Option Bool := loopRun C k 110 .bool [0] [.r, .l, .r, .b, .p, .r, .l, .b, .r, .r, .r, .b] [⟨[0, 3], m1⟩] [0, 3, 4, 5] m ⟨[.one (.cell (.list false T120 l_0)), .one (.cell (.int .i64 i_3)), .one (.cell (.ptr 1 0)), .one (.cell (.int .i64 k_5))], [.box (some T120) [.int .i64 b0_0, .int .i64 b0_1, .int .i64 b0_2, .list true (.int .i64) b0_3]]⟩
noncomputable def spec_IsScore (k : Nat) (l_0 : (List DT89)) : Option Bool := run C k 69 .bool [.val (.list T89) l_0]
noncomputable def spec_IsScore.l0 (k m : Nat) (l_0 : (List DT89)) (i_3 : Int) : Option Bool := loopRun C k 69 .bool [0] [.r, .l, .r, .b] [] [0, 3] m ⟨[.one (.cell (.list false T89 l_0)), .one (.cell (.int .i64 i_3))], []⟩
noncomputable def spec_CanPlay (k : Nat) (p_0 : DT120) (l_1 : (List DT89)) (voice_2 : Int) : Option Bool := run C k 108 .bool [.val T120 p_0, .val (.list T89) l_1, .val (.int .i64) voice_2]
noncomputable def spec_l27Has (k : Nat) (l_0 : (List Int)) (n_1 : Int) : Option Bool := run C k 109 .bool [.val (.list (.int .i64)) l_0, .val (.int .i64) n_1]
noncomputable def spec_l27Has.l0 (k m : Nat) (l_0 : (List Int)) (n_1 : Int) (i_5 : Int) : Option Bool := loopRun C k 109 .bool [0, 0] [.r, .l, .r, .b] [] [0, 1, 5] m ⟨[.one (.cell (.list false (.int .i64) l_0)), .one (.cell (.int .i64 n_1)), .one (.cell (.int .i64 i_5))], []⟩
noncomputable def impl_ArePlayers (k : Nat) (l_0 : (List DT120)) : Option Bool := run C k 114 .bool [.val (.list T120) l_0]
noncomputable def impl_ArePlayers.l0 (k m : Nat) (l_0 : (List DT120)) (t_7 : (List DT120)) (t_8 : Int) (t_9 : Int) (s0 : (List Int)) : Option Bool := loopRun C k 114 .bool [0] [.r, .r, .l, .r, .b] [] [0, 3, 7, 8, 9] m ⟨[.one (.cell (.list false T120 l_0)), .one (.cell (.ref 1)), .one (.cell (.list false T120 t_7)), .one (.cell (.int .i64 t_8)), .one (.cell (.int .i64 t_9))], [.arr (.int .i64) s0 .open]⟩
noncomputable def impl_IsScore (k : Nat) (l_0 : (List DT89)) : Option Bool := run C k 75 .bool [.val (.list T89) l_0]
noncomputable def impl_IsScore.l0 (k m : Nat) (l_0 : (List DT89)) (t_5 : (List DT89)) (t_6 : Int) (t_7 : Int) : Option Bool := loopRun C k 75 .bool [0] [.r, .l, .r, .b] [] [0, 5, 6, 7] m ⟨[.one (.cell (.list false T89 l_0)), .one (.cell (.list false T89 t_5)), .one (.cell (.int .i64 t_6)), .one (.cell (.int .i64 t_7))], []⟩
noncomputable def slices_Contains___int_int (k : Nat) (s_0 : (List Int)) (v_1 : Int) : Option Bool := run C k 115 .bool [.val (.list (.int .i64)) s_0, .val (.int .i64) v_1]
noncomputable def slices_ContainsFunc_impl_Player_117 (k : Nat) (s_0 : (List DT120)) (c1_0 : Int) (c1_1 : (List DT89)) (c1_2 : Int) : Option Bool := run C k 116 .bool [.val (.list T120) s_0, .clo 117 [.ro (.int .i64) c1_0, .ro (.list T89) c1_1, .ro (.int .i64) c1_2]]
noncomputable def laws_eqEvent (k : Nat) (a_0 : DT89) (b_1 : DT89) : Option Bool := run C k 96 .bool [.val T89 a_0, .val T89 b_1]
noncomputable def laws_eqTempo (k : Nat) (a_0 : DT23) (b_1 : DT23) : Option Bool := run C k 119 .bool [.val T23 a_0, .val T23 b_1]
noncomputable def laws_eqPlayer (k : Nat) (a_0 : DT120) (b_1 : DT120) : Option Bool := run C k 101 .bool [.val T120 a_0, .val T120 b_1]
noncomputable def laws_eqMark (k : Nat) (a_0 : DT134) (b_1 : DT134) : Option Bool := run C k 120 .bool [.val T134 a_0, .val T134 b_1]
noncomputable def laws_eqLetter (k : Nat) (a_0 : DT23) (b_1 : DT23) : Option Bool := run C k 121 .bool [.val T23 a_0, .val T23 b_1]
noncomputable def spec_l1In (k : Nat) (x_0 : Int) (least_1 : Int) (most_2 : Int) : Option Bool := run C k 74 .bool [.val (.int .i64) x_0, .val (.int .i64) least_1, .val (.int .i64) most_2]
noncomputable def spec_l8Ok (k : Nat) (e_0 : DT89) : Option Bool := run C k 137 .bool [.val T89 e_0]
noncomputable def spec_l8Before (k : Nat) (a_0 : DT89) (b_1 : DT89) : Option Bool := run C k 138 .bool [.val T89 a_0, .val T89 b_1]
noncomputable def spec_VoiceOf (k : Nat) (l_0 : (List DT89)) (voice_1 : Int) : Option (List DT89) := run C k 142 (.list T89) [.val (.list T89) l_0, .val (.int .i64) voice_1]
noncomputable def spec_VoiceOf.l0 (k m : Nat) (l_0 : (List DT89)) (voice_1 : Int) (i_6 : Int) (s0 : (List DT89)) : Option (List DT89) := loopRun C k 142 (.list T89) [0, 0] [.r, .r, .l, .r, .b] [] [0, 1, 5, 6] m ⟨[.one (.cell (.list false T89 l_0)), .one (.cell (.int .i64 voice_1)), .one (.cell (.ref 1)), .one (.cell (.int .i64 i_6))], [.arr T89 s0 .open]⟩
noncomputable def spec_FitsRange (k : Nat) (l_0 : (List DT89)) (low_1 : Int) (high_2 : Int) : Option Bool := run C k 159 .bool [.val (.list T89) l_0, .val (.int .i64) low_1, .val (.int .i64) high_2]
noncomputable def spec_FitsRange.l0 (k m : Nat) (l_0 : (List DT89)) (low_1 : Int) (high_2 : Int) (i_7 : Int) : Option Bool := loopRun C k 159 .bool [0, 0, 0] [.r, .l, .r, .b] [] [0, 1, 2, 7] m ⟨[.one (.cell (.list false T89 l_0)), .one (.cell (.int .i64 low_1)), .one (.cell (.int .i64 high_2)), .one (.cell (.int .i64 i_7))], []⟩
noncomputable def impl_InRange (k : Nat) (n_0 : Int) (low_1 : Int) (high_2 : Int) : Option Bool := run C k 80 .bool [.val (.int .i64) n_0, .val (.int .i64) low_1, .val (.int .i64) high_2]
noncomputable def impl_ascending (k : Nat) (l_0 : (List Int)) (low_1 : Int) (high_2 : Int) : Option Bool := run C k 160 .bool [.val (.list (.int .i64)) l_0, .val (.int .i64) low_1, .val (.int .i64) high_2]
noncomputable def impl_ascending.l0 (k m : Nat) (l_0 : (List Int)) (low_1 : Int) (high_2 : Int) (t_9 : (List Int)) (t_10 : Int) (t_11 : Int) : Option Bool := loopRun C k 160 .bool [0, 0, 0] [.r, .l, .r, .b] [] [0, 1, 2, 9, 10, 11] m ⟨[.one (.cell (.list false (.int .i64) l_0)), .one (.cell (.int .i64 low_1)), .one (.cell (.int .i64 high_2)), .one (.cell (.list false (.int .i64) t_9)), .one (.cell (.int .i64 t_10)), .one (.cell (.int .i64 t_11))], []⟩
noncomputable def impl_eventOrder (k : Nat) (a_0 : DT89) (b_1 : DT89) : Option Int := run C k 140 (.int .i64) [.val T89 a_0, .val T89 b_1]
noncomputable def slices_Index___int_int (k : Nat) (s_0 : (List Int)) (v_1 : Int) : Option Int := run C k 82 (.int .i64) [.val (.list (.int .i64)) s_0, .val (.int .i64) v_1]
noncomputable def slices_Index___int_int.l0 (k m : Nat) (s_0 : (List Int)) (v_1 : Int) (t_7 : Int) (t_8 : Int) : Option Int := loopRun C k 82 (.int .i64) [0, 0] [.r, .l, .r, .b] [] [0, 1, 7, 8] m ⟨[.one (.cell (.list false (.int .i64) s_0)), .one (.cell (.int .i64 v_1)), .one (.cell (.int .i64 t_7)), .one (.cell (.int .i64 t_8))], []⟩
noncomputable def slices_IndexFunc_impl_Player_117 (k : Nat) (s_0 : (List DT120)) (c1_0 : Int) (c1_1 : (List DT89)) (c1_2 : Int) : Option Int := run C k 161 (.int .i64) [.val (.list T120) s_0, .clo 117 [.ro (.int .i64) c1_0, .ro (.list T89) c1_1, .ro (.int .i64) c1_2]]
noncomputable def slices_IndexFunc_impl_Player_117.l0 (k m : Nat) (s_0 : (List DT120)) (f_1_c : Int) (f_1_c_1 : (List DT89)) (f_1_c_2 : Int) (t_7 : Int) (t_8 : Int) : Option Int := loopRun C k 161 (.int .i64) [0, 0] [.r, .l, .r, .b] [] [0, 1, 7, 8] m ⟨[.one (.cell (.list false T120 s_0)), .one (.cell (.clo 117 [.ro (.int .i64) f_1_c, .ro (.list T89) f_1_c_1, .ro (.int .i64) f_1_c_2])), .one (.cell (.int .i64 t_7)), .one (.cell (.int .i64 t_8))], []⟩
noncomputable def cmp_Compare_int (k : Nat) (x_0 : Int) (y_1 : Int) : Option Int := run C k 168 (.int .i64) [.val (.int .i64) x_0, .val (.int .i64) y_1]
noncomputable def cmp_Or_int (k : Nat) (vals_0 : (List Int)) : Option Int := run C k 167 (.int .i64) [.val (.list (.int .i64)) vals_0]
noncomputable def cmp_Or_int.l0 (k m : Nat) (zero_3 : Int) (t_6 : (List Int)) (t_7 : Int) (t_8 : Int) : Option Int := loopRun C k 167 (.int .i64) [0] [.r, .r, .l, .r, .b] [] [3, 6, 7, 8] m ⟨[.one (.cell (.int .i64 zero_3)), .one (.cell (.list false (.int .i64) t_6)), .one (.cell (.int .i64 t_7)), .one (.cell (.int .i64 t_8))], []⟩
noncomputable def impl_IsSeating_1 (k : Nat) (p_0 : DT120) (a_1 : Int) (a_2 : (List DT89)) (a_3 : Int) : Option Bool := run C k 117 .bool [.val T120 p_0, .rp (.int .i64) a_1, .rp (.list T89) a_2, .rp (.int .i64) a_3]
noncomputable def cmp_isNaN_int (k : Nat) (x_0 : Int) : Option Bool := run C k 187 .bool [.val (.int .i64) x_0]
noncomputable def impl_CanPlay (k : Nat) (p_0 : DT120) (l_1 : (List DT89)) (voice_2 : Int) : Option Bool := run C k 118 .bool [.val T120 p_0, .val (.list T89) l_1, .val (.int .i64) voice_2]
noncomputable def impl_VoiceOf (k : Nat) (l_0 : (List DT89)) (voice_1 : Int) : Option (List DT89) := run C k 143 (.list T89) [.val (.list T89) l_0, .val (.int .i64) voice_1]
noncomputable def impl_FitsRange (k : Nat) (l_0 : (List DT89)) (low_1 : Int) (high_2 : Int) : Option Bool := run C k 162 .bool [.val (.list T89) l_0, .val (.int .i64) low_1, .val (.int .i64) high_2]
noncomputable def impl_FitsRange.l0 (k m : Nat) (l_0 : (List DT89)) (low_1 : Int) (high_2 : Int) (t_9 : (List DT89)) (t_10 : Int) (t_11 : Int) : Option Bool := loopRun C k 162 .bool [0, 0, 0] [.r, .l, .r, .b] [] [0, 1, 2, 9, 10, 11] m ⟨[.one (.cell (.list false T89 l_0)), .one (.cell (.int .i64 low_1)), .one (.cell (.int .i64 high_2)), .one (.cell (.list false T89 t_9)), .one (.cell (.int .i64 t_10)), .one (.cell (.int .i64 t_11))], []⟩
noncomputable def impl_clone_impl_Event (k : Nat) (l_0 : (List DT89)) : Option (List DT89) := run C k 154 (.list T89) [.val (.list T89) l_0]
noncomputable def slices_DeleteFunc_impl_Event_170 (k : Nat) (s_0 : (List DT89)) (c1_0 : Int) : Option (List DT89) := run C k 169 (.list T89) [.ioArr T89 s_0, .clo 170 [.ro (.int .i64) c1_0]]
noncomputable def slices_DeleteFunc_impl_Event_170.l0 (k m : Nat) (del_1_c : Int) (i_5 : Int) (j_6 : Int) (s0 : (List DT89)) : Option (List DT89) := loopRun C k 169 (.list T89) [0, 0] [.r, .r, .r, .l, .r, .b] [] [0, 1, 5, 6] m ⟨[.one (.cell (.ref 1)), .one (.cell (.clo 170 [.ro (.int .i64) del_1_c])), .one (.cell (.int .i64 i_5)), .one (.cell (.int .i64 j_6))], [.arr T89 s0 .open]⟩
noncomputable def slices_IndexFunc_impl_Event_170 (k : Nat) (s_0 : (List DT89)) (c1_0 : Int) : Option Int := run C k 128 (.int .i64) [.val (.list T89) s_0, .clo 170 [.ro (.int .i64) c1_0]]
noncomputable def slices_IndexFunc_impl_Event_170.l0 (k m : Nat) (s_0 : (List DT89)) (f_1_c : Int) (t_7 : Int) (t_8 : Int) : Option Int := loopRun C k 128 (.int .i64) [0, 0] [.r, .l, .r, .b] [] [0, 1, 7, 8] m ⟨[.one (.cell (.list false T89 s_0)), .one (.cell (.clo 170 [.ro (.int .i64) f_1_c])), .one (.cell (.int .i64 t_7)), .one (.cell (.int .i64 t_8))], []⟩
noncomputable def impl_VoiceOf_1 (k : Nat) (e_0 : DT89) (a_1 : Int) : Option Bool := run C k 170 .bool [.val T89 e_0, .rp (.int .i64) a_1]
theorem laws_FnExactIsPlayable_eq (k : Nat) (aO_0 : DT30) : laws_FnExactIsPlayable (k + 1) aO_0 =
 (laws_szOrchestra k aO_0 1048576).bind fun r1 =>
 if (r1 : Int) < 0 then
 some true
 else (laws_toOrchestra k aO_0).bind fun r2 =>
 (spec_IsPlayable k r2).bind fun r3 =>
 (laws_toOrchestra k aO_0).bind fun r4 =>
 (impl_IsPlayable k r4).bind fun r5 =>
 if ¬ ((decide (r5 = true)) = (decide (r3 = true))) then
 some false
 else (laws_toOrchestra k aO_0).bind fun r6 =>
 (laws_eqOrchestra k r4 r6).bind fun r7 =>
 if ¬ (r7 = true) then
 some false
 else some true := by kernel_rfl
theorem laws_szOrchestra_eq (k : Nat) (a_0 : DT30) (left_1 : Int) : laws_szOrchestra (k + 1) a_0 left_1 =
 (laws_szEventS k a_0.1 left_1).bind fun r1 =>
 if (r1 : Int) < 0 then
 some (-1)
 else (laws_szTempoS k a_0.2.2.1 r1).bind fun r2 =>
 if (r2 : Int) < 0 then
 some (-1)
 else (laws_szPlayerS k a_0.2.2.2.1 r2).bind fun r3 =>
 if (r3 : Int) < 0 then
 some (-1)
 else (laws_szIntS k a_0.2.2.2.2.1 r3).bind fun r4 =>
 if (r4 : Int) < 0 then
 some (-1)
 else (laws_szMarkS k a_0.2.2.2.2.2.1 r4).bind fun r5 =>
 if (r5 : Int) < 0 then
 some (-1)
 else (laws_szLetterS k a_0.2.2.2.2.2.2.1 r5).bind fun r6 =>
 if (r6 : Int) < 0 then
 some (-1)
 else some r6 := by kernel_rfl
theorem laws_toOrchestra_eq (k : Nat) (a_0 : DT30) : laws_toOrchestra (k + 1) a_0 =
 (laws_toEventS k a_0.1).bind fun r1 =>
 (laws_toMeter k a_0.2.1).bind fun r2 =>
 (laws_toTempoS k a_0.2.2.1).bind fun r3 =>
 (laws_toPlayerS k a_0.2.2.2.1).bind fun r4 =>
 (laws_toIntS k a_0.2.2.2.2.1).bind fun r5 =>
 (laws_toMarkS k a_0.2.2.2.2.2.1).bind fun r6 =>
 (laws_toLetterS k a_0.2.2.2.2.2.2.1).bind fun r7 =>
 some (r1, (r2, (r3, (r4, (r5, (r6, (r7, a_0.2.2.2.2.2.2.2))))))) := by kernel_rfl
theorem spec_IsPlayable_eq (k : Nat) (o_0 : DT30) : spec_IsPlayable (k + 1) o_0 =
 (spec_IsSeating k o_0.2.2.2.1 o_0.1 o_0.2.2.2.2.1).bind fun r1 =>
 some (decide (r1 = true)) := by kernel_rfl
theorem impl_IsPlayable_eq (k : Nat) (o_0 : DT30) : impl_IsPlayable (k + 1) o_0 =
 (impl_IsSeating k o_0.2.2.2.1 o_0.1 o_0.2.2.2.2.1).bind fun r1 =>
 some (decide (r1 = true)) := by kernel_rfl
theorem laws_eqOrchestra_eq (k : Nat) (a_0 : DT30) (b_1 : DT30) : laws_eqOrchestra (k + 1) a_0 b_1 =
 (laws_eqEventS k a_0.1 b_1.1).bind fun r1 =>
 if ¬ (r1 = true) then
 some false
 else (laws_eqMeter k a_0.2.1 b_1.2.1).bind fun r2 =>
 if ¬ (r2 = true) then
 some false
 else (laws_eqTempoS k a_0.2.2.1 b_1.2.2.1).bind fun r3 =>
 if ¬ (r3 = true) then
 some false
 else (laws_eqPlayerS k a_0.2.2.2.1 b_1.2.2.2.1).bind fun r4 =>
 if ¬ (r4 = true) then
 some false
 else (laws_eqIntS k a_0.2.2.2.2.1 b_1.2.2.2.2.1).bind fun r5 =>
 if ¬ (r5 = true) then
 some false
 else (laws_eqMarkS k a_0.2.2.2.2.2.1 b_1.2.2.2.2.2.1).bind fun r6 =>
 if ¬ (r6 = true) then
 some false
 else (laws_eqLetterS k a_0.2.2.2.2.2.2.1 b_1.2.2.2.2.2.2.1).bind fun r7 =>
 if ¬ (r7 = true) then
 some false
 else if (a_0.2.2.2.2.2.2.2.1 : Int) ≠ b_1.2.2.2.2.2.2.2.1 then
 some false
 else if (a_0.2.2.2.2.2.2.2.2.1 : Int) ≠ b_1.2.2.2.2.2.2.2.2.1 then
 some false
 else some true := by kernel_rfl
theorem laws_szEventS_eq (k : Nat) (a_0 : (List DT89)) (left_1 : Int) : laws_szEventS (k + 1) a_0 left_1 =
 if ((IntKind.wrap .i64 (left_1 - ((List.length a_0 : Nat) : Int))) : Int) < 0 then
 some (-1)
 else some (IntKind.wrap .i64 (left_1 - ((List.length a_0 : Nat) : Int))) := by kernel_rfl
theorem laws_szTempoS_eq (k : Nat) (a_0 : (List DT23)) (left_1 : Int) : laws_szTempoS (k + 1) a_0 left_1 =
 if ((IntKind.wrap .i64 (left_1 - ((List.length a_0 : Nat) : Int))) : Int) < 0 then
 some (-1)
 else some (IntKind.wrap .i64 (left_1 - ((List.length a_0 : Nat) : Int))) := by kernel_rfl
theorem laws_szPlayerS_eq (k : Nat) (a_0 : (List DT120)) (left_1 : Int) : laws_szPlayerS (k + 1) a_0 left_1 =
 if ((IntKind.wrap .i64 (left_1 - ((List.length a_0 : Nat) : Int))) : Int) < 0 then
 some (-1)
 else laws_szPlayerS.l0 k k a_0 (IntKind.wrap .i64 (left_1 - ((List.length a_0 : Nat) : Int))) 0 := by kernel_rfl
theorem laws_szPlayerS.l0_eq (k m : Nat) (a_0 : (List DT120)) (left_1 : Int) (i_5 : Int) : laws_szPlayerS.l0 k (m + 1) a_0 left_1 i_5 =
 if (i_5 : Int) < ((List.length a_0 : Nat) : Int) then
 if 0 ≤ i_5 then
 if i_5 < ((List.length a_0 : Nat) : Int) then
 (laws_szPlayer k (rd T120 a_0 i_5) left_1).bind fun r1 =>
 if (r1 : Int) < 0 then
 some (-1)
 else laws_szPlayerS.l0 k m a_0 r1 (IntKind.wrap .i64 (i_5 + 1)) else none else none
 else some left_1 := by kernel_rfl
theorem laws_szIntS_eq (k : Nat) (a_0 : (List Int)) (left_1 : Int) : laws_szIntS (k + 1) a_0 left_1 =
 if ((IntKind.wrap .i64 (left_1 - ((List.length a_0 : Nat) : Int))) : Int) < 0 then
 some (-1)
 else some (IntKind.wrap .i64 (left_1 - ((List.length a_0 : Nat) : Int))) := by kernel_rfl
theorem laws_szMarkS_eq (k : Nat) (a_0 : (List DT134)) (left_1 : Int) : laws_szMarkS (k + 1) a_0 left_1 =
 if ((IntKind.wrap .i64 (left_1 - ((List.length a_0 : Nat) : Int))) : Int) < 0 then
 some (-1)
 else some (IntKind.wrap .i64 (left_1 - ((List.length a_0 : Nat) : Int))) := by kernel_rfl
theorem laws_szLetterS_eq (k : Nat) (a_0 : (List DT23)) (left_1 : Int) : laws_szLetterS (k + 1) a_0 left_1 =
 if ((IntKind.wrap .i64 (left_1 - ((List.length a_0 : Nat) : Int))) : Int) < 0 then
 some (-1)
 else some (IntKind.wrap .i64 (left_1 - ((List.length a_0 : Nat) : Int))) := by kernel_rfl
theorem laws_toEventS_eq (k : Nat) (a_0 : (List DT89)) : laws_toEventS (k + 1) a_0 =
 if 0 ≤ ((List.length a_0 : Nat) : Int) then
 if ((List.length a_0 : Nat) : Int) ≤ ((List.length a_0 : Nat) : Int) then
 if ((List.length a_0 : Nat) : Int) * 32 ≤ 211106232532992 then
 laws_toEventS.l0 k k a_0 0 (List.replicate (Int.toNat ((List.length a_0 : Nat) : Int)) (Ty.dflt T89)) else none else none else none := by kernel_rfl
theorem laws_toEventS.l0_eq (k m : Nat) (a_0 : (List DT89)) (i_4 : Int) (s0 : (List DT89)) : laws_toEventS.l0 k (m + 1) a_0 i_4 s0 =
 if (i_4 : Int) < ((List.length a_0 : Nat) : Int) then
 if 0 ≤ i_4 then
 if i_4 < ((List.length a_0 : Nat) : Int) then
 (laws_toEvent k (rd T89 a_0 i_4)).bind fun r1 =>
 if 0 ≤ i_4 then
 if i_4 < ((List.length s0 : Nat) : Int) then
 laws_toEventS.l0 k m a_0 (IntKind.wrap .i64 (i_4 + 1)) (List.set s0 (Int.toNat i_4) r1) else none else none else none else none
 else some s0 := by kernel_rfl
theorem laws_toMeter_eq (k : Nat) (a_0 : DT23) : laws_toMeter (k + 1) a_0 =
 some a_0 := by kernel_rfl
theorem laws_toTempoS_eq (k : Nat) (a_0 : (List DT23)) : laws_toTempoS (k + 1) a_0 =
 if 0 ≤ ((List.length a_0 : Nat) : Int) then
 if ((List.length a_0 : Nat) : Int) ≤ ((List.length a_0 : Nat) : Int) then
 if ((List.length a_0 : Nat) : Int) * 16 ≤ 211106232532992 then
 laws_toTempoS.l0 k k a_0 0 (List.replicate (Int.toNat ((List.length a_0 : Nat) : Int)) (Ty.dflt T23)) else none else none else none := by kernel_rfl
theorem laws_toTempoS.l0_eq (k m : Nat) (a_0 : (List DT23)) (i_4 : Int) (s0 : (List DT23)) : laws_toTempoS.l0 k (m + 1) a_0 i_4 s0 =
 if (i_4 : Int) < ((List.length a_0 : Nat) : Int) then
 if 0 ≤ i_4 then
 if i_4 < ((List.length a_0 : Nat) : Int) then
 (laws_toTempo k (rd T23 a_0 i_4)).bind fun r1 =>
 if 0 ≤ i_4 then
 if i_4 < ((List.length s0 : Nat) : Int) then
 laws_toTempoS.l0 k m a_0 (IntKind.wrap .i64 (i_4 + 1)) (List.set s0 (Int.toNat i_4) r1) else none else none else none else none
 else some s0 := by kernel_rfl
theorem laws_toPlayerS_eq (k : Nat) (a_0 : (List DT120)) : laws_toPlayerS (k + 1) a_0 =
 if 0 ≤ ((List.length a_0 : Nat) : Int) then
 if ((List.length a_0 : Nat) : Int) ≤ ((List.length a_0 : Nat) : Int) then
 if ((List.length a_0 : Nat) : Int) * 48 ≤ 211106232532992 then
 laws_toPlayerS.l0 k k a_0 0 (List.replicate (Int.toNat ((List.length a_0 : Nat) : Int)) (Ty.dflt T120)) else none else none else none := by kernel_rfl
theorem laws_toPlayerS.l0_eq (k m : Nat) (a_0 : (List DT120)) (i_4 : Int) (s0 : (List DT120)) : laws_toPlayerS.l0 k (m + 1) a_0 i_4 s0 =
 if (i_4 : Int) < ((List.length a_0 : Nat) : Int) then
 if 0 ≤ i_4 then
 if i_4 < ((List.length a_0 : Nat) : Int) then
 (laws_toPlayer k (rd T120 a_0 i_4)).bind fun r1 =>
 if 0 ≤ i_4 then
 if i_4 < ((List.length s0 : Nat) : Int) then
 laws_toPlayerS.l0 k m a_0 (IntKind.wrap .i64 (i_4 + 1)) (List.set s0 (Int.toNat i_4) r1) else none else none else none else none
 else some s0 := by kernel_rfl
theorem laws_toIntS_eq (k : Nat) (a_0 : (List Int)) : laws_toIntS (k + 1) a_0 =
 if 0 ≤ ((List.length a_0 : Nat) : Int) then
 if ((List.length a_0 : Nat) : Int) ≤ ((List.length a_0 : Nat) : Int) then
 if ((List.length a_0 : Nat) : Int) * 8 ≤ 211106232532992 then
 laws_toIntS.l0 k k a_0 0 (List.replicate (Int.toNat ((List.length a_0 : Nat) : Int)) (Ty.dflt (.int .i64))) else none else none else none := by kernel_rfl
theorem laws_toIntS.l0_eq (k m : Nat) (a_0 : (List Int)) (i_4 : Int) (s0 : (List Int)) : laws_toIntS.l0 k (m + 1) a_0 i_4 s0 =
 if (i_4 : Int) < ((List.length a_0 : Nat) : Int) then
 if 0 ≤ i_4 then
 if i_4 < ((List.length a_0 : Nat) : Int) then
 if 0 ≤ i_4 then
 if i_4 < ((List.length s0 : Nat) : Int) then
 laws_toIntS.l0 k m a_0 (IntKind.wrap .i64 (i_4 + 1)) (List.set s0 (Int.toNat i_4) (rd (.int .i64) a_0 i_4)) else none else none else none else none
 else some s0 := by kernel_rfl
theorem laws_toMarkS_eq (k : Nat) (a_0 : (List DT134)) : laws_toMarkS (k + 1) a_0 =
 if 0 ≤ ((List.length a_0 : Nat) : Int) then
 if ((List.length a_0 : Nat) : Int) ≤ ((List.length a_0 : Nat) : Int) then
 if ((List.length a_0 : Nat) : Int) * 40 ≤ 211106232532992 then
 laws_toMarkS.l0 k k a_0 0 (List.replicate (Int.toNat ((List.length a_0 : Nat) : Int)) (Ty.dflt T134)) else none else none else none := by kernel_rfl
theorem laws_toMarkS.l0_eq (k m : Nat) (a_0 : (List DT134)) (i_4 : Int) (s0 : (List DT134)) : laws_toMarkS.l0 k (m + 1) a_0 i_4 s0 =
 if (i_4 : Int) < ((List.length a_0 : Nat) : Int) then
 if 0 ≤ i_4 then
 if i_4 < ((List.length a_0 : Nat) : Int) then
 (laws_toMark k (rd T134 a_0 i_4)).bind fun r1 =>
 if 0 ≤ i_4 then
 if i_4 < ((List.length s0 : Nat) : Int) then
 laws_toMarkS.l0 k m a_0 (IntKind.wrap .i64 (i_4 + 1)) (List.set s0 (Int.toNat i_4) r1) else none else none else none else none
 else some s0 := by kernel_rfl
theorem laws_toLetterS_eq (k : Nat) (a_0 : (List DT23)) : laws_toLetterS (k + 1) a_0 =
 if 0 ≤ ((List.length a_0 : Nat) : Int) then
 if ((List.length a_0 : Nat) : Int) ≤ ((List.length a_0 : Nat) : Int) then
 if ((List.length a_0 : Nat) : Int) * 16 ≤ 211106232532992 then
 laws_toLetterS.l0 k k a_0 0 (List.replicate (Int.toNat ((List.length a_0 : Nat) : Int)) (Ty.dflt T23)) else none else none else none := by kernel_rfl
theorem laws_toLetterS.l0_eq (k m : Nat) (a_0 : (List DT23)) (i_4 : Int) (s0 : (List DT23)) : laws_toLetterS.l0 k (m + 1) a_0 i_4 s0 =
 if (i_4 : Int) < ((List.length a_0 : Nat) : Int) then
 if 0 ≤ i_4 then
 if i_4 < ((List.length a_0 : Nat) : Int) then
 (laws_toLetter k (rd T23 a_0 i_4)).bind fun r1 =>
 if 0 ≤ i_4 then
 if i_4 < ((List.length s0 : Nat) : Int) then
 laws_toLetterS.l0 k m a_0 (IntKind.wrap .i64 (i_4 + 1)) (List.set s0 (Int.toNat i_4) r1) else none else none else none else none
 else some s0 := by kernel_rfl
theorem spec_IsSeating_eq (k : Nat) (l_0 : (List DT120)) (score_1 : (List DT89)) (seats_2 : (List Int)) : spec_IsSeating (k + 1) l_0 score_1 seats_2 =
 spec_IsSeating.l0 k k l_0 score_1 seats_2 0 := by kernel_rfl
theorem spec_IsSeating.l0_eq (k m : Nat) (l_0 : (List DT120)) (score_1 : (List DT89)) (seats_2 : (List Int)) (i_7 : Int) : spec_IsSeating.l0 k (m + 1) l_0 score_1 seats_2 i_7 =
 if (i_7 : Int) < ((List.length seats_2 : Nat) : Int) then
 spec_IsSeating.l1 k k m l_0 score_1 seats_2 i_7 false 0
 else (spec_ArePlayers k l_0).bind fun r1 =>
 if r1 = true then
 (spec_IsScore k score_1).bind fun r2 =>
 if r2 = true then
 some (decide ((((List.length seats_2 : Nat) : Int) : Int) ≤ 4))
 else some false
 else some false := by kernel_rfl
theorem spec_IsSeating.l1_eq (k m m1 : Nat) (l_0 : (List DT120)) (score_1 : (List DT89)) (seats_2 : (List Int)) (i_7 : Int) (good_8 : Bool) (k_9 : Int) : spec_IsSeating.l1 k (m + 1) m1 l_0 score_1 seats_2 i_7 good_8 k_9 =
 if (k_9 : Int) < ((List.length l_0 : Nat) : Int) then
 if good_8 = true then
 spec_IsSeating.l1 k m m1 l_0 score_1 seats_2 i_7 true (IntKind.wrap .i64 (k_9 + 1))
 else if 0 ≤ k_9 then
 if k_9 < ((List.length l_0 : Nat) : Int) then
 if 0 ≤ i_7 then
 if i_7 < ((List.length seats_2 : Nat) : Int) then
 if Eq (α := Int) (rd T120 l_0 k_9).1 (rd (.int .i64) seats_2 i_7) then
 if 0 ≤ k_9 then
 if k_9 < ((List.length l_0 : Nat) : Int) then
 (spec_CanPlay k (rd T120 l_0 k_9) score_1 (IntKind.wrap .i64 (i_7 + 1))).bind fun r3 =>
 spec_IsSeating.l1 k m m1 l_0 score_1 seats_2 i_7 (decide (r3 = true)) (IntKind.wrap .i64 (k_9 + 1)) else none else none
 else spec_IsSeating.l1 k m m1 l_0 score_1 seats_2 i_7 false (IntKind.wrap .i64 (k_9 + 1)) else none else none else none else none
 else if ¬ (good_8 = true) then
 some false
 else if 0 ≤ i_7 then
 if i_7 ≤ ((List.length seats_2 : Nat) : Int) then
 if 0 ≤ i_7 then
 if i_7 < ((List.length seats_2 : Nat) : Int) then
 (spec_l27Has k (List.take ((Int.toNat i_7) - (Int.toNat 0)) (List.drop (Int.toNat 0) seats_2)) (rd (.int .i64) seats_2 i_7)).bind fun r4 =>
 if r4 = true then
 some false
 else spec_IsSeating.l0 k m1 l_0 score_1 seats_2 (IntKind.wrap .i64 (i_7 + 1)) else none else none else none else none := by kernel_rfl
theorem impl_IsSeating_eq (k : Nat) (l_0 : (List DT120)) (score_1 : (List DT89)) (seats_2 : (List Int)) : impl_IsSeating (k + 1) l_0 score_1 seats_2 =
 (impl_ArePlayers k l_0).bind fun r1 =>
 if ¬ (r1 = true) then
 some false
 else (impl_IsScore k score_1).bind fun r2 =>
 if ¬ (r2 = true) then
 some false
 else if (4 : Int) < ((List.length seats_2 : Nat) : Int) then
 some false
 else impl_IsSeating.l0 k k l_0 seats_2 seats_2 ((List.length seats_2 : Nat) : Int) 0 score_1 := by kernel_rfl
theorem impl_IsSeating.l0_eq (k m : Nat) (l_0 : (List DT120)) (seats_2 : (List Int)) (t_22 : (List Int)) (t_23 : Int) (t_24 : Int) (b0_0 : (List DT89)) : impl_IsSeating.l0 k (m + 1) l_0 seats_2 t_22 t_23 t_24 b0_0 =
 if (t_24 : Int) < t_23 then
 if 0 ≤ t_24 then
 if t_24 < ((List.length t_22 : Nat) : Int) then
 if 0 ≤ t_24 then
 if t_24 ≤ ((List.length seats_2 : Nat) : Int) then
 (slices_Contains___int_int k (List.take ((Int.toNat t_24) - (Int.toNat 0)) (List.drop (Int.toNat 0) seats_2)) (rd (.int .i64) t_22 t_24)).bind fun r3 =>
 if r3 = true then
 some false
 else (slices_ContainsFunc_impl_Player_117 k l_0 (rd (.int .i64) t_22 t_24) b0_0 t_24).bind fun r4 =>
 if ¬ (r4 = true) then
 some false
 else impl_IsSeating.l0 k m l_0 seats_2 t_22 t_23 (IntKind.wrap .i64 (t_24 + 1)) b0_0 else none else none else none else none
 else some true := by kernel_rfl
theorem laws_eqEventS_eq (k : Nat) (a_0 : (List DT89)) (b_1 : (List DT89)) : laws_eqEventS (k + 1) a_0 b_1 =
 if (((List.length a_0 : Nat) : Int) : Int) ≠ ((List.length b_1 : Nat) : Int) then
 some false
 else laws_eqEventS.l0 k k a_0 b_1 0 := by kernel_rfl
theorem laws_eqEventS.l0_eq (k m : Nat) (a_0 : (List DT89)) (b_1 : (List DT89)) (i_5 : Int) : laws_eqEventS.l0 k (m + 1) a_0 b_1 i_5 =
 if (i_5 : Int) < ((List.length a_0 : Nat) : Int) then
 if 0 ≤ i_5 then
 if i_5 < ((List.length a_0 : Nat) : Int) then
 if 0 ≤ i_5 then
 if i_5 < ((List.length b_1 : Nat) : Int) then
 (laws_eqEvent k (rd T89 a_0 i_5) (rd T89 b_1 i_5)).bind fun r1 =>
 if ¬ (r1 = true) then
 some false
 else laws_eqEventS.l0 k m a_0 b_1 (IntKind.wrap .i64 (i_5 + 1)) else none else none else none else none
 else some true := by kernel_rfl
theorem laws_eqMeter_eq (k : Nat) (a_0 : DT23) (b_1 : DT23) : laws_eqMeter (k + 1) a_0 b_1 =
 if (a_0.1 : Int) ≠ b_1.1 then
 some false
 else if (a_0.2.1 : Int) ≠ b_1.2.1 then
 some false
 else some true := by kernel_rfl
theorem laws_eqTempoS_eq (k : Nat) (a_0 : (List DT23)) (b_1 : (List DT23)) : laws_eqTempoS (k + 1) a_0 b_1 =
 if (((List.length a_0 : Nat) : Int) : Int) ≠ ((List.length b_1 : Nat) : Int) then
 some false
 else laws_eqTempoS.l0 k k a_0 b_1 0 := by kernel_rfl
theorem laws_eqTempoS.l0_eq (k m : Nat) (a_0 : (List DT23)) (b_1 : (List DT23)) (i_5 : Int) : laws_eqTempoS.l0 k (m + 1) a_0 b_1 i_5 =
 if (i_5 : Int) < ((List.length a_0 : Nat) : Int) then
 if 0 ≤ i_5 then
 if i_5 < ((List.length a_0 : Nat) : Int) then
 if 0 ≤ i_5 then
 if i_5 < ((List.length b_1 : Nat) : Int) then
 (laws_eqTempo k (rd T23 a_0 i_5) (rd T23 b_1 i_5)).bind fun r1 =>
 if ¬ (r1 = true) then
 some false
 else laws_eqTempoS.l0 k m a_0 b_1 (IntKind.wrap .i64 (i_5 + 1)) else none else none else none else none
 else some true := by kernel_rfl
theorem laws_eqPlayerS_eq (k : Nat) (a_0 : (List DT120)) (b_1 : (List DT120)) : laws_eqPlayerS (k + 1) a_0 b_1 =
 if (((List.length a_0 : Nat) : Int) : Int) ≠ ((List.length b_1 : Nat) : Int) then
 some false
 else laws_eqPlayerS.l0 k k a_0 b_1 0 := by kernel_rfl
theorem laws_eqPlayerS.l0_eq (k m : Nat) (a_0 : (List DT120)) (b_1 : (List DT120)) (i_5 : Int) : laws_eqPlayerS.l0 k (m + 1) a_0 b_1 i_5 =
 if (i_5 : Int) < ((List.length a_0 : Nat) : Int) then
 if 0 ≤ i_5 then
 if i_5 < ((List.length a_0 : Nat) : Int) then
 if 0 ≤ i_5 then
 if i_5 < ((List.length b_1 : Nat) : Int) then
 (laws_eqPlayer k (rd T120 a_0 i_5) (rd T120 b_1 i_5)).bind fun r1 =>
 if ¬ (r1 = true) then
 some false
 else laws_eqPlayerS.l0 k m a_0 b_1 (IntKind.wrap .i64 (i_5 + 1)) else none else none else none else none
 else some true := by kernel_rfl
theorem laws_eqIntS_eq (k : Nat) (a_0 : (List Int)) (b_1 : (List Int)) : laws_eqIntS (k + 1) a_0 b_1 =
 if (((List.length a_0 : Nat) : Int) : Int) ≠ ((List.length b_1 : Nat) : Int) then
 some false
 else laws_eqIntS.l0 k k a_0 b_1 0 := by kernel_rfl
theorem laws_eqIntS.l0_eq (k m : Nat) (a_0 : (List Int)) (b_1 : (List Int)) (i_5 : Int) : laws_eqIntS.l0 k (m + 1) a_0 b_1 i_5 =
 if (i_5 : Int) < ((List.length a_0 : Nat) : Int) then
 if 0 ≤ i_5 then
 if i_5 < ((List.length a_0 : Nat) : Int) then
 if 0 ≤ i_5 then
 if i_5 < ((List.length b_1 : Nat) : Int) then
 if Ne (α := Int) (rd (.int .i64) a_0 i_5) (rd (.int .i64) b_1 i_5) then
 some false
 else laws_eqIntS.l0 k m a_0 b_1 (IntKind.wrap .i64 (i_5 + 1)) else none else none else none else none
 else some true := by kernel_rfl
theorem laws_eqMarkS_eq (k : Nat) (a_0 : (List DT134)) (b_1 : (List DT134)) : laws_eqMarkS (k + 1) a_0 b_1 =
 if (((List.length a_0 : Nat) : Int) : Int) ≠ ((List.length b_1 : Nat) : Int) then
 some false
 else laws_eqMarkS.l0 k k a_0 b_1 0 := by kernel_rfl
theorem laws_eqMarkS.l0_eq (k m : Nat) (a_0 : (List DT134)) (b_1 : (List DT134)) (i_5 : Int) : laws_eqMarkS.l0 k (m + 1) a_0 b_1 i_5 =
 if (i_5 : Int) < ((List.length a_0 : Nat) : Int) then
 if 0 ≤ i_5 then
 if i_5 < ((List.length a_0 : Nat) : Int) then
 if 0 ≤ i_5 then
 if i_5 < ((List.length b_1 : Nat) : Int) then
 (laws_eqMark k (rd T134 a_0 i_5) (rd T134 b_1 i_5)).bind fun r1 =>
 if ¬ (r1 = true) then
 some false
 else laws_eqMarkS.l0 k m a_0 b_1 (IntKind.wrap .i64 (i_5 + 1)) else none else none else none else none
 else some true := by kernel_rfl
theorem laws_eqLetterS_eq (k : Nat) (a_0 : (List DT23)) (b_1 : (List DT23)) : laws_eqLetterS (k + 1) a_0 b_1 =
 if (((List.length a_0 : Nat) : Int) : Int) ≠ ((List.length b_1 : Nat) : Int) then
 some false
 else laws_eqLetterS.l0 k k a_0 b_1 0 := by kernel_rfl
theorem laws_eqLetterS.l0_eq (k m : Nat) (a_0 : (List DT23)) (b_1 : (List DT23)) (i_5 : Int) : laws_eqLetterS.l0 k (m + 1) a_0 b_1 i_5 =
 if (i_5 : Int) < ((List.length a_0 : Nat) : Int) then
 if 0 ≤ i_5 then
 if i_5 < ((List.length a_0 : Nat) : Int) then
 if 0 ≤ i_5 then
 if i_5 < ((List.length b_1 : Nat) : Int) then
 (laws_eqLetter k (rd T23 a_0 i_5) (rd T23 b_1 i_5)).bind fun r1 =>
 if ¬ (r1 = true) then
 some false
 else laws_eqLetterS.l0 k m a_0 b_1 (IntKind.wrap .i64 (i_5 + 1)) else none else none else none else none
 else some true := by kernel_rfl
theorem laws_szPlayer_eq (k : Nat) (a_0 : DT120) (left_1 : Int) : laws_szPlayer (k + 1) a_0 left_1 =
 (laws_szIntS k a_0.2.2.2.1 left_1).bind fun r1 =>
 if (r1 : Int) < 0 then
 some (-1)
 else some r1 := by kernel_rfl
theorem laws_toEvent_eq (k : Nat) (a_0 : DT89) : laws_toEvent (k + 1) a_0 =
 some a_0 := by kernel_rfl
theorem laws_toTempo_eq (k : Nat) (a_0 : DT23) : laws_toTempo (k + 1) a_0 =
 some a_0 := by kernel_rfl
theorem laws_toPlayer_eq (k : Nat) (a_0 : DT120) : laws_toPlayer (k + 1) a_0 =
 (laws_toIntS k a_0.2.2.2.1).bind fun r1 =>
 some (a_0.1, (a_0.2.1, (a_0.2.2.1, (r1, ())))) := by kernel_rfl
theorem laws_toMark_eq (k : Nat) (a_0 : DT134) : laws_toMark (k + 1) a_0 =
 some a_0 := by kernel_rfl
theorem laws_toLetter_eq (k : Nat) (a_0 : DT23) : laws_toLetter (k + 1) a_0 =
 some a_0 := by kernel_rfl
theorem spec_ArePlayers_eq (k : Nat) (l_0 : (List DT120)) : spec_ArePlayers (k + 1) l_0 =
 spec_ArePlayers.l0 k k l_0 0 := by kernel_rfl
theorem spec_ArePlayers.l0_eq (k m : Nat) (l_0 : (List DT120)) (i_3 : Int) : spec_ArePlayers.l0 k (m + 1) l_0 i_3 =
 if (i_3 : Int) < ((List.length l_0 : Nat) : Int) then
 if 0 ≤ i_3 then
 if i_3 < ((List.length l_0 : Nat) : Int) then
 (spec_l1In k (rd T120 l_0 i_3).1 1 99).bind fun r1 =>
 if ¬ (r1 = true) then
 some false
 else if LT.lt (α := Int) (rd T120 l_0 i_3).2.1 21 then
 some false
 else if LT.lt (α := Int) (rd T120 l_0 i_3).2.2.1 (rd T120 l_0 i_3).2.1 then
 some false
 else if LT.lt (α := Int) 108 (rd T120 l_0 i_3).2.2.1 then
 some false
 else if (0 : Int) < i_3 then
 if 0 ≤ (IntKind.wrap .i64 (i_3 - 1)) then
 if (IntKind.wrap .i64 (i_3 - 1)) < ((List.length l_0 : Nat) : Int) then
 if LE.le (α := Int) (rd T120 l_0 i_3).1 (rd T120 l_0 (IntKind.wrap .i64 (i_3 - 1))).1 then
 some false
 else spec_ArePlayers.l1 k k m l_0 i_3 0 (rd T120 l_0 i_3).1 (rd T120 l_0 i_3).2.1 (rd T120 l_0 i_3).2.2.1 (rd T120 l_0 i_3).2.2.2.1 else none else none
 else spec_ArePlayers.l1 k k m l_0 i_3 0 (rd T120 l_0 i_3).1 (rd T120 l_0 i_3).2.1 (rd T120 l_0 i_3).2.2.1 (rd T120 l_0 i_3).2.2.2.1 else none else none
 else some (decide ((((List.length l_0 : Nat) : Int) : Int) ≤ 8)) := by kernel_rfl
theorem spec_ArePlayers.l1_eq (k m m1 : Nat) (l_0 : (List DT120)) (i_3 : Int) (k_5 : Int) (b0_0 : Int) (b0_1 : Int) (b0_2 : Int) (b0_3 : (List Int)) : spec_ArePlayers.l1 k (m + 1) m1 l_0 i_3 k_5 b0_0 b0_1 b0_2 b0_3 =
 if (k_5 : Int) < ((List.length b0_3 : Nat) : Int) then
 if 0 ≤ k_5 then
 if k_5 < ((List.length b0_3 : Nat) : Int) then
 (spec_l1In k (rd (.int .i64) b0_3 k_5) 1 4).bind fun r2 =>
 if ¬ (r2 = true) then
 some false
 else if (0 : Int) < k_5 then
 if 0 ≤ (IntKind.wrap .i64 (k_5 - 1)) then
 if (IntKind.wrap .i64 (k_5 - 1)) < ((List.length b0_3 : Nat) : Int) then
 if 0 ≤ k_5 then
 if k_5 < ((List.length b0_3 : Nat) : Int) then
 if LE.le (α := Int) (rd (.int .i64) b0_3 k_5) (rd (.int .i64) b0_3 (IntKind.wrap .i64 (k_5 - 1))) then
 some false
 else spec_ArePlayers.l1 k m m1 l_0 i_3 (IntKind.wrap .i64 (k_5 + 1)) b0_0 b0_1 b0_2 b0_3 else none else none else none else none
 else spec_ArePlayers.l1 k m m1 l_0 i_3 (IntKind.wrap .i64 (k_5 + 1)) b0_0 b0_1 b0_2 b0_3 else none else none
 else spec_ArePlayers.l0 k m1 l_0 (IntKind.wrap .i64 (i_3 + 1)) := by kernel_rfl
theorem spec_IsScore_eq (k : Nat) (l_0 : (List DT89)) : spec_IsScore (k + 1) l_0 =
 spec_IsScore.l0 k k l_0 0 := by kernel_rfl
theorem spec_IsScore.l0_eq (k m : Nat) (l_0 : (List DT89)) (i_3 : Int) : spec_IsScore.l0 k (m + 1) l_0 i_3 =
 if (i_3 : Int) < ((List.length l_0 : Nat) : Int) then
 if 0 ≤ i_3 then
 if i_3 < ((List.length l_0 : Nat) : Int) then
 (spec_l8Ok k (rd T89 l_0 i_3)).bind fun r1 =>
 if ¬ (r1 = true) then
 some false
 else if (0 : Int) < i_3 then
 if 0 ≤ (IntKind.wrap .i64 (i_3 - 1)) then
 if (IntKind.wrap .i64 (i_3 - 1)) < ((List.length l_0 : Nat) : Int) then
 if 0 ≤ i_3 then
 if i_3 < ((List.length l_0 : Nat) : Int) then
 (spec_l8Before k (rd T89 l_0 (IntKind.wrap .i64 (i_3 - 1))) (rd T89 l_0 i_3)).bind fun r2 =>
 if ¬ (r2 = true) then
 some false
 else spec_IsScore.l0 k m l_0 (IntKind.wrap .i64 (i_3 + 1)) else none else none else none else none
 else spec_IsScore.l0 k m l_0 (IntKind.wrap .i64 (i_3 + 1)) else none else none
 else some (decide ((((List.length l_0 : Nat) : Int) : Int) ≤ 40)) := by kernel_rfl
theorem spec_CanPlay_eq (k : Nat) (p_0 : DT120) (l_1 : (List DT89)) (voice_2 : Int) : spec_CanPlay (k + 1) p_0 l_1 voice_2 =
 (spec_l27Has k p_0.2.2.2.1 voice_2).bind fun r1 =>
 if r1 = true then
 (spec_IsScore k l_1).bind fun r2 =>
 if r2 = true then
 (spec_VoiceOf k l_1 voice_2).bind fun r3 =>
 (spec_FitsRange k r3 p_0.2.1 p_0.2.2.1).bind fun r4 =>
 some (decide (r4 = true))
 else some false
 else some false := by kernel_rfl
theorem spec_l27Has_eq (k : Nat) (l_0 : (List Int)) (n_1 : Int) : spec_l27Has (k + 1) l_0 n_1 =
 spec_l27Has.l0 k k l_0 n_1 0 := by kernel_rfl
theorem spec_l27Has.l0_eq (k m : Nat) (l_0 : (List Int)) (n_1 : Int) (i_5 : Int) : spec_l27Has.l0 k (m + 1) l_0 n_1 i_5 =
 if (i_5 : Int) < ((List.length l_0 : Nat) : Int) then
 if 0 ≤ i_5 then
 if i_5 < ((List.length l_0 : Nat) : Int) then
 if Eq (α := Int) (rd (.int .i64) l_0 i_5) n_1 then
 some true
 else spec_l27Has.l0 k m l_0 n_1 (IntKind.wrap .i64 (i_5 + 1)) else none else none
 else some false := by kernel_rfl
theorem impl_ArePlayers_eq (k : Nat) (l_0 : (List DT120)) : impl_ArePlayers (k + 1) l_0 =
 impl_ArePlayers.l0 k k l_0 l_0 ((List.length l_0 : Nat) : Int) 0 [] := by kernel_rfl
theorem impl_ArePlayers.l0_eq (k m : Nat) (l_0 : (List DT120)) (t_7 : (List DT120)) (t_8 : Int) (t_9 : Int) (s0 : (List Int)) : impl_ArePlayers.l0 k (m + 1) l_0 t_7 t_8 t_9 s0 =
 if (t_9 : Int) < t_8 then
 if 0 ≤ t_9 then
 if t_9 < ((List.length t_7 : Nat) : Int) then
 (impl_InRange k (rd T120 t_7 t_9).2.1 21 (rd T120 t_7 t_9).2.2.1).bind fun r1 =>
 if ¬ (r1 = true) then
 some false
 else if LT.lt (α := Int) 108 (rd T120 t_7 t_9).2.2.1 then
 some false
 else (impl_ascending k (rd T120 t_7 t_9).2.2.2.1 1 4).bind fun r2 =>
 if ¬ (r2 = true) then
 some false
 else if (List.length s0 + List.length ([(rd T120 t_7 t_9).1])) * 8 ≤ 211106232532992 then
 impl_ArePlayers.l0 k m l_0 t_7 t_8 (IntKind.wrap .i64 (t_9 + 1)) (s0 ++ [(rd T120 t_7 t_9).1]) else none else none else none
 else if (((List.length l_0 : Nat) : Int) : Int) ≤ 8 then
 (impl_ascending k s0 1 99).bind fun r3 =>
 some (decide (r3 = true))
 else some false := by kernel_rfl
theorem impl_IsScore_eq (k : Nat) (l_0 : (List DT89)) : impl_IsScore (k + 1) l_0 =
 impl_IsScore.l0 k k l_0 l_0 ((List.length l_0 : Nat) : Int) 0 := by kernel_rfl
theorem impl_IsScore.l0_eq (k m : Nat) (l_0 : (List DT89)) (t_5 : (List DT89)) (t_6 : Int) (t_7 : Int) : impl_IsScore.l0 k (m + 1) l_0 t_5 t_6 t_7 =
 if (t_7 : Int) < t_6 then
 if 0 ≤ t_7 then
 if t_7 < ((List.length t_5 : Nat) : Int) then
 (impl_InRange k (rd T89 t_5 t_7).1 0 2000).bind fun r1 =>
 if ¬ (r1 = true) then
 some false
 else (impl_InRange k (rd T89 t_5 t_7).2.1 1 96).bind fun r2 =>
 if ¬ (r2 = true) then
 some false
 else (impl_InRange k (rd T89 t_5 t_7).2.2.1 21 108).bind fun r3 =>
 if ¬ (r3 = true) then
 some false
 else (impl_InRange k (rd T89 t_5 t_7).2.2.2.1 1 4).bind fun r4 =>
 if ¬ (r4 = true) then
 some false
 else if (0 : Int) < t_7 then
 if 0 ≤ (IntKind.wrap .i64 (t_7 - 1)) then
 if (IntKind.wrap .i64 (t_7 - 1)) < ((List.length l_0 : Nat) : Int) then
 (impl_eventOrder k (rd T89 l_0 (IntKind.wrap .i64 (t_7 - 1))) (rd T89 t_5 t_7)).bind fun r5 =>
 if (0 : Int) ≤ r5 then
 some false
 else impl_IsScore.l0 k m l_0 t_5 t_6 (IntKind.wrap .i64 (t_7 + 1)) else none else none
 else impl_IsScore.l0 k m l_0 t_5 t_6 (IntKind.wrap .i64 (t_7 + 1)) else none else none
 else some (decide ((((List.length l_0 : Nat) : Int) : Int) ≤ 40)) := by kernel_rfl
theorem slices_Contains___int_int_eq (k : Nat) (s_0 : (List Int)) (v_1 : Int) : slices_Contains___int_int (k + 1) s_0 v_1 =
 (slices_Index___int_int k s_0 v_1).bind fun r1 =>
 some (decide ((0 : Int) ≤ r1)) := by kernel_rfl
theorem slices_ContainsFunc_impl_Player_117_eq (k : Nat) (s_0 : (List DT120)) (c1_0 : Int) (c1_1 : (List DT89)) (c1_2 : Int) : slices_ContainsFunc_impl_Player_117 (k + 1) s_0 c1_0 c1_1 c1_2 =
 (slices_IndexFunc_impl_Player_117 k s_0 c1_0 c1_1 c1_2).bind fun r1 =>
 some (decide ((0 : Int) ≤ r1)) := by kernel_rfl
theorem laws_eqEvent_eq (k : Nat) (a_0 : DT89) (b_1 : DT89) : laws_eqEvent (k + 1) a_0 b_1 =
 if (a_0.1 : Int) ≠ b_1.1 then
 some false
 else if (a_0.2.1 : Int) ≠ b_1.2.1 then
 some false
 else if (a_0.2.2.1 : Int) ≠ b_1.2.2.1 then
 some false
 else if (a_0.2.2.2.1 : Int) ≠ b_1.2.2.2.1 then
 some false
 else some true := by kernel_rfl
theorem laws_eqTempo_eq (k : Nat) (a_0 : DT23) (b_1 : DT23) : laws_eqTempo (k + 1) a_0 b_1 =
 if (a_0.1 : Int) ≠ b_1.1 then
 some false
 else if (a_0.2.1 : Int) ≠ b_1.2.1 then
 some false
 else some true := by kernel_rfl
theorem laws_eqPlayer_eq (k : Nat) (a_0 : DT120) (b_1 : DT120) : laws_eqPlayer (k + 1) a_0 b_1 =
 if (a_0.1 : Int) ≠ b_1.1 then
 some false
 else if (a_0.2.1 : Int) ≠ b_1.2.1 then
 some false
 else if (a_0.2.2.1 : Int) ≠ b_1.2.2.1 then
 some false
 else (laws_eqIntS k a_0.2.2.2.1 b_1.2.2.2.1).bind fun r1 =>
 if ¬ (r1 = true) then
 some false
 else some true := by kernel_rfl
theorem laws_eqMark_eq (k : Nat) (a_0 : DT134) (b_1 : DT134) : laws_eqMark (k + 1) a_0 b_1 =
 if (a_0.1 : Int) ≠ b_1.1 then
 some false
 else if (a_0.2.1 : Int) ≠ b_1.2.1 then
 some false
 else if (a_0.2.2.1 : Int) ≠ b_1.2.2.1 then
 some false
 else if (a_0.2.2.2.1 : Int) ≠ b_1.2.2.2.1 then
 some false
 else if (a_0.2.2.2.2.1 : Int) ≠ b_1.2.2.2.2.1 then
 some false
 else some true := by kernel_rfl
theorem laws_eqLetter_eq (k : Nat) (a_0 : DT23) (b_1 : DT23) : laws_eqLetter (k + 1) a_0 b_1 =
 if (a_0.1 : Int) ≠ b_1.1 then
 some false
 else if (a_0.2.1 : Int) ≠ b_1.2.1 then
 some false
 else some true := by kernel_rfl
theorem spec_l1In_eq (k : Nat) (x_0 : Int) (least_1 : Int) (most_2 : Int) : spec_l1In (k + 1) x_0 least_1 most_2 =
 if (least_1 : Int) ≤ x_0 then
 some (decide ((x_0 : Int) ≤ most_2))
 else some false := by kernel_rfl
theorem spec_l8Ok_eq (k : Nat) (e_0 : DT89) : spec_l8Ok (k + 1) e_0 =
 (spec_l1In k e_0.1 0 2000).bind fun r1 =>
 if r1 = true then
 (spec_l1In k e_0.2.1 1 96).bind fun r2 =>
 if r2 = true then
 (spec_l1In k e_0.2.2.1 21 108).bind fun r3 =>
 if r3 = true then
 (spec_l1In k e_0.2.2.2.1 1 4).bind fun r4 =>
 some (decide (r4 = true))
 else some false
 else some false
 else some false := by kernel_rfl
theorem spec_l8Before_eq (k : Nat) (a_0 : DT89) (b_1 : DT89) : spec_l8Before (k + 1) a_0 b_1 =
 if (a_0.1 : Int) ≠ b_1.1 then
 some (decide ((a_0.1 : Int) < b_1.1))
 else if (a_0.2.2.2.1 : Int) ≠ b_1.2.2.2.1 then
 some (decide ((a_0.2.2.2.1 : Int) < b_1.2.2.2.1))
 else some (decide ((a_0.2.2.1 : Int) < b_1.2.2.1)) := by kernel_rfl
theorem spec_VoiceOf_eq (k : Nat) (l_0 : (List DT89)) (voice_1 : Int) : spec_VoiceOf (k + 1) l_0 voice_1 =
 spec_VoiceOf.l0 k k l_0 voice_1 0 [] := by kernel_rfl
theorem spec_VoiceOf.l0_eq (k m : Nat) (l_0 : (List DT89)) (voice_1 : Int) (i_6 : Int) (s0 : (List DT89)) : spec_VoiceOf.l0 k (m + 1) l_0 voice_1 i_6 s0 =
 if (i_6 : Int) < ((List.length l_0 : Nat) : Int) then
 if 0 ≤ i_6 then
 if i_6 < ((List.length l_0 : Nat) : Int) then
 if Eq (α := Int) (rd T89 l_0 i_6).2.2.2.1 voice_1 then
 if 0 ≤ i_6 then
 if i_6 < ((List.length l_0 : Nat) : Int) then
 if (List.length s0 + List.length ([(rd T89 l_0 i_6)])) * 32 ≤ 211106232532992 then
 spec_VoiceOf.l0 k m l_0 voice_1 (IntKind.wrap .i64 (i_6 + 1)) (s0 ++ [(rd T89 l_0 i_6)]) else none else none else none
 else spec_VoiceOf.l0 k m l_0 voice_1 (IntKind.wrap .i64 (i_6 + 1)) s0 else none else none
 else some s0 := by kernel_rfl
theorem spec_FitsRange_eq (k : Nat) (l_0 : (List DT89)) (low_1 : Int) (high_2 : Int) : spec_FitsRange (k + 1) l_0 low_1 high_2 =
 spec_FitsRange.l0 k k l_0 low_1 high_2 0 := by kernel_rfl
theorem spec_FitsRange.l0_eq (k m : Nat) (l_0 : (List DT89)) (low_1 : Int) (high_2 : Int) (i_7 : Int) : spec_FitsRange.l0 k (m + 1) l_0 low_1 high_2 i_7 =
 if (i_7 : Int) < ((List.length l_0 : Nat) : Int) then
 if 0 ≤ i_7 then
 if i_7 < ((List.length l_0 : Nat) : Int) then
 (spec_l1In k (rd T89 l_0 i_7).2.2.1 low_1 high_2).bind fun r1 =>
 if ¬ (r1 = true) then
 some false
 else spec_FitsRange.l0 k m l_0 low_1 high_2 (IntKind.wrap .i64 (i_7 + 1)) else none else none
 else (spec_IsScore k l_0).bind fun r2 =>
 some (decide (r2 = true)) := by kernel_rfl
theorem impl_InRange_eq (k : Nat) (n_0 : Int) (low_1 : Int) (high_2 : Int) : impl_InRange (k + 1) n_0 low_1 high_2 =
 if (low_1 : Int) ≤ n_0 then
 some (decide ((n_0 : Int) ≤ high_2))
 else some false := by kernel_rfl
theorem impl_ascending_eq (k : Nat) (l_0 : (List Int)) (low_1 : Int) (high_2 : Int) : impl_ascending (k + 1) l_0 low_1 high_2 =
 impl_ascending.l0 k k l_0 low_1 high_2 l_0 ((List.length l_0 : Nat) : Int) 0 := by kernel_rfl
theorem impl_ascending.l0_eq (k m : Nat) (l_0 : (List Int)) (low_1 : Int) (high_2 : Int) (t_9 : (List Int)) (t_10 : Int) (t_11 : Int) : impl_ascending.l0 k (m + 1) l_0 low_1 high_2 t_9 t_10 t_11 =
 if (t_11 : Int) < t_10 then
 if 0 ≤ t_11 then
 if t_11 < ((List.length t_9 : Nat) : Int) then
 (impl_InRange k (rd (.int .i64) t_9 t_11) low_1 high_2).bind fun r1 =>
 if ¬ (r1 = true) then
 some false
 else if (0 : Int) < t_11 then
 if 0 ≤ (IntKind.wrap .i64 (t_11 - 1)) then
 if (IntKind.wrap .i64 (t_11 - 1)) < ((List.length l_0 : Nat) : Int) then
 if LE.le (α := Int) (rd (.int .i64) t_9 t_11) (rd (.int .i64) l_0 (IntKind.wrap .i64 (t_11 - 1))) then
 some false
 else impl_ascending.l0 k m l_0 low_1 high_2 t_9 t_10 (IntKind.wrap .i64 (t_11 + 1)) else none else none
 else impl_ascending.l0 k m l_0 low_1 high_2 t_9 t_10 (IntKind.wrap .i64 (t_11 + 1)) else none else none
 else some true := by kernel_rfl
theorem impl_eventOrder_eq (k : Nat) (a_0 : DT89) (b_1 : DT89) : impl_eventOrder (k + 1) a_0 b_1 =
 (cmp_Compare_int k a_0.1 b_1.1).bind fun r1 =>
 (cmp_Compare_int k a_0.2.2.2.1 b_1.2.2.2.1).bind fun r2 =>
 (cmp_Compare_int k a_0.2.2.1 b_1.2.2.1).bind fun r3 =>
 (cmp_Or_int k ([r1, r2, r3])).bind fun r4 =>
 some r4 := by kernel_rfl
theorem slices_Index___int_int_eq (k : Nat) (s_0 : (List Int)) (v_1 : Int) : slices_Index___int_int (k + 1) s_0 v_1 =
 slices_Index___int_int.l0 k k s_0 v_1 ((List.length s_0 : Nat) : Int) 0 := by kernel_rfl
theorem slices_Index___int_int.l0_eq (k m : Nat) (s_0 : (List Int)) (v_1 : Int) (t_7 : Int) (t_8 : Int) : slices_Index___int_int.l0 k (m + 1) s_0 v_1 t_7 t_8 =
 if (t_8 : Int) < t_7 then
 if 0 ≤ t_8 then
 if t_8 < ((List.length s_0 : Nat) : Int) then
 if Eq (α := Int) v_1 (rd (.int .i64) s_0 t_8) then
 some t_8
 else slices_Index___int_int.l0 k m s_0 v_1 t_7 (IntKind.wrap .i64 (t_8 + 1)) else none else none
 else some (-1) := by kernel_rfl
theorem slices_IndexFunc_impl_Player_117_eq (k : Nat) (s_0 : (List DT120)) (c1_0 : Int) (c1_1 : (List DT89)) (c1_2 : Int) : slices_IndexFunc_impl_Player_117 (k + 1) s_0 c1_0 c1_1 c1_2 =
 slices_IndexFunc_impl_Player_117.l0 k k s_0 c1_0 c1_1 c1_2 ((List.length s_0 : Nat) : Int) 0 := by kernel_rfl
theorem slices_IndexFunc_impl_Player_117.l0_eq (k m : Nat) (s_0 : (List DT120)) (f_1_c : Int) (f_1_c_1 : (List DT89)) (f_1_c_2 : Int) (t_7 : Int) (t_8 : Int) : slices_IndexFunc_impl_Player_117.l0 k (m + 1) s_0 f_1_c f_1_c_1 f_1_c_2 t_7 t_8 =
 if (t_8 : Int) < t_7 then
 if 0 ≤ t_8 then
 if t_8 < ((List.length s_0 : Nat) : Int) then
 (impl_IsSeating_1 k (rd T120 s_0 t_8) f_1_c f_1_c_1 f_1_c_2).bind fun r1 =>
 if r1 = true then
 some t_8
 else slices_IndexFunc_impl_Player_117.l0 k m s_0 f_1_c f_1_c_1 f_1_c_2 t_7 (IntKind.wrap .i64 (t_8 + 1)) else none else none
 else some (-1) := by kernel_rfl
theorem cmp_Compare_int_eq (k : Nat) (x_0 : Int) (y_1 : Int) : cmp_Compare_int (k + 1) x_0 y_1 =
 (cmp_isNaN_int k x_0).bind fun r1 =>
 (cmp_isNaN_int k y_1).bind fun r2 =>
 if r1 = true then
 if r2 = true then
 some 0
 else some (-1)
 else if r2 = true then
 some 1
 else if (x_0 : Int) < y_1 then
 some (-1)
 else if (y_1 : Int) < x_0 then
 some 1
 else some 0 := by kernel_rfl
theorem cmp_Or_int_eq (k : Nat) (vals_0 : (List Int)) : cmp_Or_int (k + 1) vals_0 =
 cmp_Or_int.l0 k k 0 vals_0 ((List.length vals_0 : Nat) : Int) 0 := by kernel_rfl
theorem cmp_Or_int.l0_eq (k m : Nat) (zero_3 : Int) (t_6 : (List Int)) (t_7 : Int) (t_8 : Int) : cmp_Or_int.l0 k (m + 1) zero_3 t_6 t_7 t_8 =
 if (t_8 : Int) < t_7 then
 if 0 ≤ t_8 then
 if t_8 < ((List.length t_6 : Nat) : Int) then
 if Ne (α := Int) (rd (.int .i64) t_6 t_8) zero_3 then
 some (rd (.int .i64) t_6 t_8)
 else cmp_Or_int.l0 k m zero_3 t_6 t_7 (IntKind.wrap .i64 (t_8 + 1)) else none else none
 else some zero_3 := by kernel_rfl
theorem impl_IsSeating_1_eq (k : Nat) (p_0 : DT120) (a_1 : Int) (a_2 : (List DT89)) (a_3 : Int) : impl_IsSeating_1 (k + 1) p_0 a_1 a_2 a_3 =
 if (p_0.1 : Int) = a_1 then
 (impl_CanPlay k p_0 a_2 (IntKind.wrap .i64 (a_3 + 1))).bind fun r1 =>
 some (decide (r1 = true))
 else some false := by kernel_rfl
theorem cmp_isNaN_int_eq (k : Nat) (x_0 : Int) : cmp_isNaN_int (k + 1) x_0 =
 some (decide ((x_0 : Int) ≠ x_0)) := by kernel_rfl
theorem impl_CanPlay_eq (k : Nat) (p_0 : DT120) (l_1 : (List DT89)) (voice_2 : Int) : impl_CanPlay (k + 1) p_0 l_1 voice_2 =
 (slices_Contains___int_int k p_0.2.2.2.1 voice_2).bind fun r1 =>
 if r1 = true then
 (impl_IsScore k l_1).bind fun r2 =>
 if r2 = true then
 (impl_VoiceOf k l_1 voice_2).bind fun r3 =>
 (impl_FitsRange k r3 p_0.2.1 p_0.2.2.1).bind fun r4 =>
 some (decide (r4 = true))
 else some false
 else some false := by kernel_rfl
theorem impl_VoiceOf_eq (k : Nat) (l_0 : (List DT89)) (voice_1 : Int) : impl_VoiceOf (k + 1) l_0 voice_1 =
 (impl_clone_impl_Event k l_0).bind fun r1 =>
 (slices_DeleteFunc_impl_Event_170 k r1 voice_1).bind fun r2 =>
 some r2 := by kernel_rfl
theorem impl_FitsRange_eq (k : Nat) (l_0 : (List DT89)) (low_1 : Int) (high_2 : Int) : impl_FitsRange (k + 1) l_0 low_1 high_2 =
 impl_FitsRange.l0 k k l_0 low_1 high_2 l_0 ((List.length l_0 : Nat) : Int) 0 := by kernel_rfl
theorem impl_FitsRange.l0_eq (k m : Nat) (l_0 : (List DT89)) (low_1 : Int) (high_2 : Int) (t_9 : (List DT89)) (t_10 : Int) (t_11 : Int) : impl_FitsRange.l0 k (m + 1) l_0 low_1 high_2 t_9 t_10 t_11 =
 if (t_11 : Int) < t_10 then
 if 0 ≤ t_11 then
 if t_11 < ((List.length t_9 : Nat) : Int) then
 (impl_InRange k (rd T89 t_9 t_11).2.2.1 low_1 high_2).bind fun r1 =>
 if ¬ (r1 = true) then
 some false
 else impl_FitsRange.l0 k m l_0 low_1 high_2 t_9 t_10 (IntKind.wrap .i64 (t_11 + 1)) else none else none
 else (impl_IsScore k l_0).bind fun r2 =>
 some (decide (r2 = true)) := by kernel_rfl
theorem impl_clone_impl_Event_eq (k : Nat) (l_0 : (List DT89)) : impl_clone_impl_Event (k + 1) l_0 =
 if (List.length ([] : (List DT89)) + List.length l_0) * 32 ≤ 211106232532992 then
 some (([] : (List DT89)) ++ l_0) else none := by kernel_rfl
theorem slices_DeleteFunc_impl_Event_170_eq (k : Nat) (s_0 : (List DT89)) (c1_0 : Int) : slices_DeleteFunc_impl_Event_170 (k + 1) s_0 c1_0 =
 (slices_IndexFunc_impl_Event_170 k s_0 c1_0).bind fun r1 =>
 if (r1 : Int) = (-1) then
 some s_0
 else slices_DeleteFunc_impl_Event_170.l0 k k c1_0 r1 (IntKind.wrap .i64 (r1 + 1)) s_0 := by kernel_rfl
theorem slices_DeleteFunc_impl_Event_170.l0_eq (k m : Nat) (del_1_c : Int) (i_5 : Int) (j_6 : Int) (s0 : (List DT89)) : slices_DeleteFunc_impl_Event_170.l0 k (m + 1) del_1_c i_5 j_6 s0 =
 if (j_6 : Int) < ((List.length s0 : Nat) : Int) then
 if 0 ≤ j_6 then
 if j_6 < ((List.length s0 : Nat) : Int) then
 (impl_VoiceOf_1 k (rd T89 s0 j_6) del_1_c).bind fun r2 =>
 if ¬ (r2 = true) then
 if 0 ≤ i_5 then
 if i_5 < ((List.length s0 : Nat) : Int) then
 slices_DeleteFunc_impl_Event_170.l0 k m del_1_c (IntKind.wrap .i64 (i_5 + 1)) (IntKind.wrap .i64 (j_6 + 1)) (List.set s0 (Int.toNat i_5) (rd T89 s0 j_6)) else none else none
 else slices_DeleteFunc_impl_Event_170.l0 k m del_1_c i_5 (IntKind.wrap .i64 (j_6 + 1)) s0 else none else none
 else if 0 ≤ i_5 then
 if i_5 ≤ ((List.length s0 : Nat) : Int) then
 if 0 ≤ i_5 then
 if i_5 ≤ ((List.length (List.take (Int.toNat i_5) s0 ++ List.replicate ((Int.toNat ((List.length s0 : Nat) : Int)) - (Int.toNat i_5)) (Ty.dflt T89) ++ List.drop ((Int.toNat i_5) + ((Int.toNat ((List.length s0 : Nat) : Int)) - (Int.toNat i_5))) s0) : Nat) : Int) then
 some (List.take ((Int.toNat i_5) - (Int.toNat 0)) (List.drop (Int.toNat 0) (List.take (Int.toNat i_5) s0 ++ List.replicate ((Int.toNat ((List.length s0 : Nat) : Int)) - (Int.toNat i_5)) (Ty.dflt T89) ++ List.drop ((Int.toNat i_5) + ((Int.toNat ((List.length s0 : Nat) : Int)) - (Int.toNat i_5))) s0))) else none else none else none else none := by kernel_rfl
theorem slices_IndexFunc_impl_Event_170_eq (k : Nat) (s_0 : (List DT89)) (c1_0 : Int) : slices_IndexFunc_impl_Event_170 (k + 1) s_0 c1_0 =
 slices_IndexFunc_impl_Event_170.l0 k k s_0 c1_0 ((List.length s_0 : Nat) : Int) 0 := by kernel_rfl
theorem slices_IndexFunc_impl_Event_170.l0_eq (k m : Nat) (s_0 : (List DT89)) (f_1_c : Int) (t_7 : Int) (t_8 : Int) : slices_IndexFunc_impl_Event_170.l0 k (m + 1) s_0 f_1_c t_7 t_8 =
 if (t_8 : Int) < t_7 then
 if 0 ≤ t_8 then
 if t_8 < ((List.length s_0 : Nat) : Int) then
 (impl_VoiceOf_1 k (rd T89 s_0 t_8) f_1_c).bind fun r1 =>
 if r1 = true then
 some t_8
 else slices_IndexFunc_impl_Event_170.l0 k m s_0 f_1_c t_7 (IntKind.wrap .i64 (t_8 + 1)) else none else none
 else some (-1) := by kernel_rfl
theorem impl_VoiceOf_1_eq (k : Nat) (e_0 : DT89) (a_1 : Int) : impl_VoiceOf_1 (k + 1) e_0 a_1 =
 some (decide ((e_0.2.2.2.1 : Int) ≠ a_1)) := by kernel_rfl
end Go.QFnExactIsPlayable
