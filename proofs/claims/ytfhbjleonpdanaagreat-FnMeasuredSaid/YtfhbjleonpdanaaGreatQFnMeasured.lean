/- The functions that the law FnMeasured reaches, as equations; printed by pe.py. No condition. -/
import Derived.Test.YtfhbjleonpdanaaGreatPrimS
import Derived.Test.YtfhbjleonpdanaaGreatProg
import Derived.KernelRfl
set_option linter.unusedVariables false
open Go Go.Flat
namespace Go.QFnMeasured
abbrev T25 : Ty := .pair (.int .i64) (.pair (.int .i64) .unit)
abbrev DT25 := Int × (Int × Unit)
abbrev T100 : Ty := .pair (.int .i64) T25
abbrev DT100 := Int × DT25
abbrev T60 : Ty := .pair (.int .i64) T100
abbrev DT60 := Int × DT100
abbrev T93 : Ty := .pair (.int .i64) (.pair (.int .i64) (.pair (.int .i64) (.pair (.list (.int .i64)) .unit)))
abbrev DT93 := Int × (Int × (Int × ((List Int) × Unit)))
abbrev T110 : Ty := .pair (.int .i64) T60
abbrev DT110 := Int × DT60
abbrev T32 : Ty := .pair (.list T60) (.pair T25 (.pair (.list T25) (.pair (.dlist T93) (.pair (.list (.int .i64)) (.pair (.list T110) (.pair (.list T25) T25))))))
abbrev DT32 := (List DT60) × (DT25 × ((List DT25) × ((List DT93) × ((List Int) × ((List DT110) × ((List DT25) × DT25))))))
abbrev T134 : Ty := .pair (.list (.int .u8)) T25
abbrev DT134 := (List Int) × DT25
abbrev T182 : Ty := .pair (.int .i64) (.pair (.int .i64) (.pair T60 (.pair T25 (.pair T93 (.pair T110 .unit)))))
abbrev DT182 := Int × (Int × (DT60 × (DT25 × (DT93 × (DT110 × Unit)))))
noncomputable def C : Cfg := {
  P := Go.Proofs.Tryz.prog,
  tt := [(1, none), (2, some (.int .i64)), (3, some (.int .i64)), (4, some .bool), (5, some (.int .u8)), (6, some (.int .u8)), (9, some .str), (10, some .str), (11, some .str), (12, some (.int .u64)), (15, none), (16, none), (17, none), (21, some (.int .i32)), (22, some (.list (.int .u8))), (23, none), (24, some (.list T60)), (25, some T25), (26, some T25), (27, some (.list T25)), (28, some (.dlist T93)), (29, some (.list (.int .i64))), (30, some (.list T110)), (31, some (.list T25)), (32, some T32), (33, some T32), (34, none), (35, none), (36, none), (38, none), (40, none), (41, none), (42, none), (43, none), (45, none), (46, some (.list T100)), (48, none), (49, none), (50, none), (52, none), (54, none), (55, none), (56, none), (57, none), (58, none), (59, none), (60, some T60), (61, some T60), (62, none), (63, none), (65, none), (67, none), (68, none), (69, some (.list T25)), (70, none), (71, none), (72, some T25), (73, some T25), (74, none), (75, none), (76, none), (77, none), (78, none), (79, none), (80, some T25), (81, some T25), (83, none), (84, none), (85, none), (86, none), (87, none), (88, none), (89, none), (90, some T25), (91, some T25), (92, none), (93, some T93), (94, some T93), (95, none), (96, none), (97, none), (98, none), (99, none), (100, some T100), (101, some T100), (102, none), (103, none), (104, none), (105, none), (106, none), (107, none), (108, none), (109, none), (110, some T110), (111, some T110), (112, none), (113, some T25), (114, some T25), (115, none), (116, none), (117, none), (118, none), (119, none), (120, none), (121, none), (122, none), (124, none), (125, none), (126, none), (127, none), (128, none), (129, none), (130, none), (131, none), (132, none), (133, none), (134, some T134), (135, some T134), (136, none), (137, none), (138, none), (139, none), (140, none), (141, none), (142, none), (143, none), (144, none), (145, none), (146, none), (147, none), (148, none), (149, none), (150, some (.int .u64)), (151, none), (152, none), (153, none), (155, none), (156, none), (157, none), (158, some (.list T182)), (159, none), (160, none), (161, none), (163, none), (164, none), (165, some (.int .i64)), (167, none), (168, none), (169, none), (170, none), (171, none), (172, some (.int .u32)), (173, none), (174, some (.int .u64)), (175, none), (176, none), (177, none), (178, none), (179, none), (180, none), (181, none), (182, some T182), (183, some T182), (184, none), (185, none), (186, none), (187, none), (188, none), (189, some (.int .u64)), (190, none), (191, none), (192, none), (193, none), (194, none), (195, some (.list (.list (.int .i64)))), (196, none), (197, none), (198, none), (199, none), (200, none), (201, none), (202, none), (203, none), (204, none), (205, none), (206, none), (207, none), (213, none), (214, some (.int .u8)), (215, some (.int .u8)), (216, none), (217, none), (218, some (.int .i32)), (219, some (.int .i32))],
  vars := [(5, [0, 3, 4, 5, 13, 14]), (16, [0, 3, 7, 8, 9]), (20, [0, 1, 5]), (21, [0, 3, 7, 8, 9]), (27, [0, 3, 4, 10, 11, 12]), (28, [0, 5, 6, 7]), (29, [1, 5, 13, 14, 15]), (31, [3, 4, 15, 16, 17]), (33, [6, 7, 8, 9]), (35, [3, 7, 8, 9]), (37, [0, 3, 4, 13, 14, 15, 28, 29, 30]), (40, [1, 3, 4, 9, 10, 11]), (42, [0, 5, 6, 7]), (43, [0, 5, 6, 7]), (44, [0, 5, 6, 7]), (45, [0, 2, 4, 22, 23, 24]), (52, [0, 3, 4]), (56, [0, 1, 2, 9, 10, 11]), (59, [0, 1, 7, 8]), (69, [0, 1, 12, 13]), (76, [0, 3, 4, 5]), (79, [0, 1, 5, 6]), (85, [0, 3, 4, 5, 6, 7]), (92, [0, 1, 7, 8]), (100, [0, 3, 4, 5, 6]), (111, [0, 3, 4]), (113, [3, 6, 7, 8]), (118, [0, 3, 4]), (120, [1, 3, 4, 5]), (123, [0, 2, 4, 11]), (124, [3, 7, 8, 9]), (128, [0, 1, 7, 8]), (129, [0, 1, 2, 9, 10, 11]), (133, [0, 3, 4]), (134, [0, 3, 4, 5]), (135, [0, 3, 4, 5]), (136, [0, 3, 4]), (137, [0, 3, 4, 5]), (151, [0, 1, 7, 8, 9]), (152, [0, 2, 8, 9, 10, 11]), (153, [0, 3, 4]), (158, [0, 1, 5]), (161, [0, 3, 5]), (162, [0, 3]), (163, [1, 3, 21, 22, 23]), (170, [0, 3, 4, 5]), (172, [0, 1, 2, 3, 10]), (178, [0, 1, 5, 6]), (192, [0, 3]), (193, [0, 3]), (194, [0, 3]), (195, [0, 1, 2, 7, 8, 9]), (196, [0, 3, 5]), (197, [0, 1, 5]), (207, [0, 1, 2, 7])],
  sigs := [(52, { lend := some 1000, made := T134 }), (53, { lend := some 0 }), (54, { lend := some 0 }), (57, { lend := some 0 }), (58, { lend := some 0 }), (75, { lend := some 0 }), (76, { io := [0] }), (79, { io := [0] }), (83, { lend := some 0 }), (84, { lend := some 0 }), (85, { lend := some 0 }), (98, { lend := some 0 }), (99, { lend := some 0 }), (100, { lend := some 0 }), (106, { lend := some 0 }), (107, { lend := some 0 }), (108, { lend := some 0 }), (109, { lend := some 0 }), (110, { lend := some 0 }), (117, { lend := some 0 }), (118, { lend := some 0 }), (119, { lend := some 0 }), (121, { lend := some 0 }), (133, { lend := some 0 }), (134, { lend := some 0 }), (135, { lend := some 0 }), (136, { lend := some 0 }), (137, { lend := some 0 }), (151, { lend := some 0 }), (154, { lend := some 0 }), (155, { lend := some 0 }), (157, { own := false }), (160, { lend := some 0 }), (169, { lend := some 0 }), (180, { lend := some 0 })],
  prim := fun f => bif Nat.beq f 75 then some primSort else none,
  ptrs := [15, 16, 17, 86, 193, 202, 217],
  gives := [29] }
noncomputable def laws_FnMeasured (k : Nat) (code_0 : (List Int)) : Option Bool := run C k 5 .bool [.val (.list (.int .u8)) code_0]
noncomputable def laws_FnMeasured.l0 (k m : Nat) (code_0 : (List Int)) (d_4 : Int) (i_5 : Int) (s0 : (List DT60)) : Option Bool := loopRun C k 5 .bool [0] [.r, .r, .r, .r, .r, .l, .r, .b] [] [0, 3, 4, 5] m ⟨[.one (.cell (.list true (.int .u8) code_0)), .one (.cell (.ref 1)), .one (.cell (.int .i64 d_4)), .one (.cell (.int .i64 i_5))], [.arr T60 s0 .open]⟩
noncomputable def laws_FnMeasured.l1 (k m : Nat) (code_0 : (List Int)) (d_4 : Int) (i_5 : Int) (i_14 : Int) (s0 : (List DT60)) (s1 : (List DT25)) : Option Bool := loopRun C k 5 .bool [0] [.r, .r, .r, .r, .r, .r, .r, .r, .r, .r, .r, .r, .r, .l, .r, .b] [] [0, 3, 4, 5, 13, 14] m ⟨[.one (.cell (.list true (.int .u8) code_0)), .one (.cell (.ref 1)), .one (.cell (.int .i64 d_4)), .one (.cell (.int .i64 i_5)), .one (.cell (.ref 5)), .one (.cell (.int .i64 i_14))], [.arr T60 s0 .open, .arr T25 s1 .open]⟩
noncomputable def impl_IsOrchestra (k : Nat) (o_0 : DT32) : Option Bool := run C k 9 .bool [.val T32 o_0]
noncomputable def laws_big (k : Nat) (code_0 : (List Int)) : Option Bool := run C k 6 .bool [.val (.list (.int .u8)) code_0]
noncomputable def spec_DrawDensestTick (k : Nat) (code_0 : (List Int)) : Option (List DT60) := run C k 26 (.list T60) [.val (.list (.int .u8)) code_0]
noncomputable def impl_DensestTick (k : Nat) (l_0 : (List DT60)) : Option Int := run C k 27 (.int .i64) [.val (.list T60) l_0]
noncomputable def impl_DensestTick.l0 (k m : Nat) (l_0 : (List DT60)) (best_3 : Int) (most_4 : Int) (t_10 : (List DT60)) (t_11 : Int) (t_12 : Int) : Option Int := loopRun C k 27 (.int .i64) [0] [.r, .r, .l, .r, .t, .r, .b] [] [0, 3, 4, 10, 11, 12] m ⟨[.one (.cell (.list false T60 l_0)), .one (.cell (.int .i64 best_3)), .one (.cell (.int .i64 most_4)), .one (.cell (.list false T60 t_10)), .one (.cell (.int .i64 t_11)), .one (.cell (.int .i64 t_12))], []⟩
noncomputable def impl_IsScore (k : Nat) (l_0 : (List DT60)) : Option Bool := run C k 28 .bool [.val (.list T60) l_0]
noncomputable def impl_IsScore.l0 (k m : Nat) (l_0 : (List DT60)) (t_5 : (List DT60)) (t_6 : Int) (t_7 : Int) : Option Bool := loopRun C k 28 .bool [0] [.r, .l, .r, .b] [] [0, 5, 6, 7] m ⟨[.one (.cell (.list false T60 l_0)), .one (.cell (.list false T60 t_5)), .one (.cell (.int .i64 t_6)), .one (.cell (.int .i64 t_7))], []⟩
noncomputable def impl_SoundsAt (k : Nat) (l_0 : (List DT60)) (tick_1 : Int) : Option (List Int) := run C k 29 (.list (.int .i64)) [.val (.list T60) l_0, .val (.int .i64) tick_1]
noncomputable def impl_SoundsAt.l0 (k m : Nat) (tick_1 : Int) (t_13 : (List DT60)) (t_14 : Int) (t_15 : Int) (s0 : (List Int)) : Option (List Int) := loopRun C k 29 (.list (.int .i64)) [0, 0] [.r, .r, .r, .l, .r, .b] [] [1, 5, 13, 14, 15] m ⟨[.one (.cell (.int .i64 tick_1)), .one (.cell (.ref 1)), .one (.cell (.list false T60 t_13)), .one (.cell (.int .i64 t_14)), .one (.cell (.int .i64 t_15))], [.arr (.int .i64) s0 .open]⟩
noncomputable def spec_DrawRestShare (k : Nat) (code_0 : (List Int)) : Option (List DT100) := run C k 30 (.list T100) [.val (.list (.int .u8)) code_0]
noncomputable def impl_RestShare (k : Nat) (p_0 : (List DT100)) : Option Int := run C k 31 (.int .i64) [.val (.list T100) p_0]
noncomputable def impl_RestShare.l0 (k m : Nat) (rests_3 : Int) (all_4 : Int) (t_15 : (List DT100)) (t_16 : Int) (t_17 : Int) : Option Int := loopRun C k 31 (.int .i64) [0] [.r, .r, .r, .l, .r, .b] [] [3, 4, 15, 16, 17] m ⟨[.one (.cell (.int .i64 rests_3)), .one (.cell (.int .i64 all_4)), .one (.cell (.list false T100 t_15)), .one (.cell (.int .i64 t_16)), .one (.cell (.int .i64 t_17))], []⟩
noncomputable def spec_DrawStepsAndLeaps (k : Nat) (code_0 : (List Int)) : Option ((List DT60) × (Int × Unit)) := run C k 32 (.pair (.list T60) (.pair (.int .i64) .unit)) [.val (.list (.int .u8)) code_0]
noncomputable def impl_StepsAndLeaps (k : Nat) (l_0 : (List DT60)) (voice_1 : Int) : Option DT25 := run C k 33 T25 [.val (.list T60) l_0, .val (.int .i64) voice_1]
noncomputable def impl_StepsAndLeaps.l0 (k m : Nat) (steps_6 : Int) (leaps_7 : Int) (i_9 : Int) (s0 : (List DT60)) : Option DT25 := loopRun C k 33 T25 [0, 0] [.r, .r, .r, .l, .r, .b] [] [6, 7, 8, 9] m ⟨[.one (.cell (.int .i64 steps_6)), .one (.cell (.int .i64 leaps_7)), .one (.cell (.ref 1)), .one (.cell (.int .i64 i_9))], [.arr T60 s0 .open]⟩
noncomputable def impl_VoiceOf (k : Nat) (l_0 : (List DT60)) (voice_1 : Int) : Option (List DT60) := run C k 34 (.list T60) [.val (.list T60) l_0, .val (.int .i64) voice_1]
noncomputable def impl_CountVoices (k : Nat) (l_0 : (List DT60)) : Option Int := run C k 35 (.int .i64) [.val (.list T60) l_0]
noncomputable def impl_CountVoices.l0 (k m : Nat) (t_7 : (List DT60)) (t_8 : Int) (t_9 : Int) (s0 : (List Int)) : Option Int := loopRun C k 35 (.int .i64) [0] [.r, .r, .l, .r, .b] [] [3, 7, 8, 9] m ⟨[.one (.cell (.ref 1)), .one (.cell (.list false T60 t_7)), .one (.cell (.int .i64 t_8)), .one (.cell (.int .i64 t_9))], [.arr (.int .i64) s0 .open]⟩
noncomputable def spec_DrawChordsIn (k : Nat) (code_0 : (List Int)) : Option (List DT60) := run C k 36 (.list T60) [.val (.list (.int .u8)) code_0]
noncomputable def impl_ChordsIn (k : Nat) (l_0 : (List DT60)) : Option (List DT25) := run C k 37 (.list T25) [.val (.list T60) l_0]
noncomputable def impl_ChordsIn.l0 (k m : Nat) (l_0 : (List DT60)) (t_13 : (List DT60)) (t_14 : Int) (t_15 : Int) (s0 : (List DT25)) (s1 : (List Int)) : Option (List DT25) := loopRun C k 37 (.list T25) [0] [.r, .r, .l, .r, .b] [] [0, 3, 4, 13, 14, 15] m ⟨[.one (.cell (.list false T60 l_0)), .one (.cell (.ref 1)), .one (.cell (.ref 5)), .one (.cell (.list false T60 t_13)), .one (.cell (.int .i64 t_14)), .one (.cell (.int .i64 t_15))], [.arr T25 s0 .open, .arr (.int .i64) s1 .open]⟩
noncomputable def impl_ChordsIn.l1 (k m : Nat) (l_0 : (List DT60)) (t_13 : (List DT60)) (t_14 : Int) (t_15 : Int) (t_29 : Int) (t_30 : Int) (s0 : (List DT25)) (s1 : (List Int)) : Option (List DT25) := loopRun C k 37 (.list T25) [0] [.r, .r, .r, .r, .l, .r, .b] [] [0, 3, 13, 14, 15, 28, 29, 30] m ⟨[.one (.cell (.list false T60 l_0)), .one (.cell (.ref 1)), .one (.cell (.list false T60 t_13)), .one (.cell (.int .i64 t_14)), .one (.cell (.int .i64 t_15)), .one (.cell (.ref 5)), .one (.cell (.int .i64 t_29)), .one (.cell (.int .i64 t_30))], [.arr T25 s0 .open, .arr (.int .i64) s1 .open]⟩
noncomputable def impl_IsChord (k : Nat) (x_0 : DT25) : Option Bool := run C k 38 .bool [.val T25 x_0]
noncomputable def spec_DrawBusiestPlayer (k : Nat) (code_0 : (List Int)) : Option DT32 := run C k 39 T32 [.val (.list (.int .u8)) code_0]
noncomputable def impl_BusiestPlayer (k : Nat) (o_0 : DT32) : Option Int := run C k 40 (.int .i64) [.val T32 o_0]
noncomputable def impl_BusiestPlayer.l0 (k m : Nat) (best_3 : Int) (most_4 : Int) (t_9 : (List Int)) (t_10 : Int) (t_11 : Int) (b0_0 : (List DT60)) (b0_1 : Int) (b0_2 : Int) (b0_3 : (List DT25)) (b0_4 : (List DT93)) (b0_5 : (List Int)) (b0_6 : (List DT110)) (b0_7 : (List DT25)) (b0_8 : Int) (b0_9 : Int) : Option Int := loopRun C k 40 (.int .i64) [0] [.r, .r, .l, .r, .b] [] [1, 3, 4, 9, 10, 11] m ⟨[.one (.cell (.ptr 1 0)), .one (.cell (.int .i64 best_3)), .one (.cell (.int .i64 most_4)), .one (.cell (.list false (.int .i64) t_9)), .one (.cell (.int .i64 t_10)), .one (.cell (.int .i64 t_11))], [.box (some T32) [.list false T60 b0_0, .int .i64 b0_1, .int .i64 b0_2, .list false T25 b0_3, .list false T93 b0_4, .list false (.int .i64) b0_5, .list false T110 b0_6, .list false T25 b0_7, .int .i64 b0_8, .int .i64 b0_9]]⟩
noncomputable def laws_contains (k : Nat) (l_0 : (List Int)) (n_1 : Int) : Option Bool := run C k 20 .bool [.val (.list (.int .i64)) l_0, .val (.int .i64) n_1]
noncomputable def laws_contains.l0 (k m : Nat) (l_0 : (List Int)) (n_1 : Int) (i_5 : Int) : Option Bool := loopRun C k 20 .bool [0, 0] [.r, .l, .r, .b] [] [0, 1, 5] m ⟨[.one (.cell (.list false (.int .i64) l_0)), .one (.cell (.int .i64 n_1)), .one (.cell (.int .i64 i_5))], []⟩
noncomputable def impl_IsMeter (k : Nat) (m_0 : DT25) : Option Bool := run C k 15 .bool [.val T25 m_0]
noncomputable def impl_IsTempo (k : Nat) (l_0 : (List DT25)) : Option Bool := run C k 42 .bool [.val (.list T25) l_0]
noncomputable def impl_IsTempo.l0 (k m : Nat) (l_0 : (List DT25)) (t_5 : (List DT25)) (t_6 : Int) (t_7 : Int) : Option Bool := loopRun C k 42 .bool [0] [.r, .l, .r, .b] [] [0, 5, 6, 7] m ⟨[.one (.cell (.list false T25 l_0)), .one (.cell (.list false T25 t_5)), .one (.cell (.int .i64 t_6)), .one (.cell (.int .i64 t_7))], []⟩
noncomputable def impl_AreMarks (k : Nat) (l_0 : (List DT110)) : Option Bool := run C k 43 .bool [.val (.list T110) l_0]
noncomputable def impl_AreMarks.l0 (k m : Nat) (l_0 : (List DT110)) (t_5 : (List DT110)) (t_6 : Int) (t_7 : Int) : Option Bool := loopRun C k 43 .bool [0] [.r, .l, .r, .b] [] [0, 5, 6, 7] m ⟨[.one (.cell (.list false T110 l_0)), .one (.cell (.list false T110 t_5)), .one (.cell (.int .i64 t_6)), .one (.cell (.int .i64 t_7))], []⟩
noncomputable def impl_AreLetters (k : Nat) (l_0 : (List DT25)) : Option Bool := run C k 44 .bool [.val (.list T25) l_0]
noncomputable def impl_AreLetters.l0 (k m : Nat) (l_0 : (List DT25)) (t_5 : (List DT25)) (t_6 : Int) (t_7 : Int) : Option Bool := loopRun C k 44 .bool [0] [.r, .l, .r, .b] [] [0, 5, 6, 7] m ⟨[.one (.cell (.list false T25 l_0)), .one (.cell (.list false T25 t_5)), .one (.cell (.int .i64 t_6)), .one (.cell (.int .i64 t_7))], []⟩
noncomputable def impl_IsSeating (k : Nat) (l_0 : (List DT93)) (score_1 : (List DT60)) (seats_2 : (List Int)) : Option Bool := run C k 45 .bool [.val (.dlist T93) l_0, .val (.list T60) score_1, .val (.list (.int .i64)) seats_2]
noncomputable def impl_IsSeating.l0 (k m : Nat) (l_0 : (List DT93)) (seats_2 : (List Int)) (t_22 : (List Int)) (t_23 : Int) (t_24 : Int) (b0_0 : (List DT60)) : Option Bool := loopRun C k 45 .bool [0, 0, 0] [.r, .r, .l, .r, .b] [] [0, 2, 4, 22, 23, 24] m ⟨[.one (.cell (.list false T93 l_0)), .one (.cell (.list false (.int .i64) seats_2)), .one (.cell (.ptr 1 0)), .one (.cell (.list false (.int .i64) t_22)), .one (.cell (.int .i64 t_23)), .one (.cell (.int .i64 t_24))], [.box (some (.list T60)) [.list false T60 b0_0]]⟩
noncomputable def impl_InRange (k : Nat) (n_0 : Int) (low_1 : Int) (high_2 : Int) : Option Bool := run C k 46 .bool [.val (.int .i64) n_0, .val (.int .i64) low_1, .val (.int .i64) high_2]
noncomputable def spec_DrawIsScore (k : Nat) (code_0 : (List Int)) : Option (List DT60) := run C k 72 (.list T60) [.val (.list (.int .u8)) code_0]
noncomputable def impl_eventOrder (k : Nat) (a_0 : DT60) (b_1 : DT60) : Option Int := run C k 73 (.int .i64) [.val T60 a_0, .val T60 b_1]
noncomputable def impl_Event__sounds (k : Nat) (e_0 : DT60) (tick_1 : Int) : Option Bool := run C k 74 .bool [.val T60 e_0, .val (.int .i64) tick_1]
noncomputable def slices_Sort___int_int (k : Nat) (x_0 : (List Int)) : Option (Unit × (List Int)) := run C k 75 (.pair .unit (.list (.int .i64))) [.lend (.list (.int .i64)) x_0]
noncomputable def slices_Compact___int_int (k : Nat) (s_0 : (List Int)) : Option (List Int) := run C k 76 (.list (.int .i64)) [.give (.list (.int .i64)) s_0]
noncomputable def slices_Compact___int_int.l0 (k m : Nat) (k_3 : Int) (s0 : (List Int)) : Option (List Int) := loopRun C k 76 (.list (.int .i64)) [0] [.r, .r, .l, .r, .b] [] [0, 3] m ⟨[.one (.cell (.ref 1)), .one (.cell (.int .i64 k_3))], [.arr (.int .i64) s0 .open]⟩
noncomputable def slices_Compact___int_int.l1 (k m m1 : Nat) (k_3 : Int) (s2_4_o : Nat) (s2_4_n : Nat) (k2_5 : Int) (s0 : (List Int)) : Option (List Int) := loopRun C k 76 (.list (.int .i64)) [0] [.r, .r, .l, .r, .b, .p, .r, .l, .b, .r, .t, .r, .l, .r, .b] [⟨[0, 3], m1⟩] [0, 3, 4, 5] m ⟨[.one (.cell (.ref 1)), .one (.cell (.int .i64 k_3)), .one (.cell (.sub 1 s2_4_o s2_4_n)), .one (.cell (.int .i64 k2_5))], [.arr (.int .i64) s0 .open]⟩
noncomputable def spec_DrawIsPart (k : Nat) (code_0 : (List Int)) : Option (List DT100) := run C k 77 (.list T100) [.val (.list (.int .u8)) code_0]
noncomputable def impl_IsPart (k : Nat) (p_0 : (List DT100)) : Option Bool := run C k 21 .bool [.val (.list T100) p_0]
noncomputable def impl_IsPart.l0 (k m : Nat) (p_0 : (List DT100)) (at_3 : Int) (t_7 : (List DT100)) (t_8 : Int) (t_9 : Int) : Option Bool := loopRun C k 21 .bool [0] [.r, .r, .l, .r, .b] [] [0, 3, 7, 8, 9] m ⟨[.one (.cell (.list false T100 p_0)), .one (.cell (.int .i64 at_3)), .one (.cell (.list false T100 t_7)), .one (.cell (.int .i64 t_8)), .one (.cell (.int .i64 t_9))], []⟩
noncomputable def spec_DrawVoiceOf (k : Nat) (code_0 : (List Int)) : Option ((List DT60) × (Int × Unit)) := run C k 78 (.pair (.list T60) (.pair (.int .i64) .unit)) [.val (.list (.int .u8)) code_0]
noncomputable def impl_clone_impl_Event (k : Nat) (l_0 : (List DT60)) : Option (List DT60) := run C k 80 (.list T60) [.val (.list T60) l_0]
noncomputable def slices_DeleteFunc_impl_Event_81 (k : Nat) (s_0 : (List DT60)) (c1_0 : Int) : Option (List DT60) := run C k 79 (.list T60) [.give (.list T60) s_0, .clo 81 [.ro (.int .i64) c1_0]]
noncomputable def slices_DeleteFunc_impl_Event_81.l0 (k m : Nat) (del_1_c : Int) (i_5 : Int) (j_6 : Int) (s0 : (List DT60)) : Option (List DT60) := loopRun C k 79 (.list T60) [0, 0] [.r, .r, .r, .l, .r, .b] [] [0, 1, 5, 6] m ⟨[.one (.cell (.ref 1)), .one (.cell (.clo 81 [.ro (.int .i64) del_1_c])), .one (.cell (.int .i64 i_5)), .one (.cell (.int .i64 j_6))], [.arr T60 s0 .open]⟩
noncomputable def slices_Contains___int_int (k : Nat) (s_0 : (List Int)) (v_1 : Int) : Option Bool := run C k 82 .bool [.val (.list (.int .i64)) s_0, .val (.int .i64) v_1]
noncomputable def spec_l1New (k : Nat) (code_0 : (List Int)) : Option DT134 := run C k 52 T134 [.val (.list (.int .u8)) code_0]
noncomputable def spec_l1New.l0 (k m : Nat) (code_0 : (List Int)) (h_3 : Int) (i_4 : Int) : Option DT134 := loopRunM C k 52 T134 1 [.r, .r, .l, .r, .b] [] [0, 3, 4] m ⟨[.one (.cell (.list true (.int .u8) code_0)), .one (.cell (.int .i64 h_3)), .one (.cell (.int .i64 i_4))], []⟩
noncomputable def spec_l1Once (k : Nat) (c_0 : DT134) (n_1 : Int) : Option (Bool × DT134) := run C k 83 (.pair .bool T134) [.ioBox T134 c_0, .val (.int .i64) n_1]
noncomputable def spec_l8Any (k : Nat) (c_0 : DT134) : Option ((List DT60) × DT134) := run C k 84 (.pair (.list T60) T134) [.ioBox T134 c_0]
noncomputable def spec_l37Chords (k : Nat) (c_0 : DT134) : Option ((List DT60) × DT134) := run C k 85 (.pair (.list T60) T134) [.ioBox T134 c_0]
noncomputable def spec_l37Chords.l0 (k m : Nat) (k_4 : Int) (i_5 : Int) (b0_0 : (List Int)) (b0_1 : Int) (b0_2 : Int) (s1 : (List DT60)) : Option ((List DT60) × DT134) := loopRunB C k 85 (.pair (.list T60) T134) 0 T134 1 [.r, .r, .r, .l, .r, .b] [] [0, 3, 4, 5] m ⟨[.one (.cell (.ptr 1 0)), .one (.cell (.ref 5)), .one (.cell (.int .i64 k_4)), .one (.cell (.int .i64 i_5))], [.box (some T134) [.list true (.int .u8) b0_0, .int .i64 b0_1, .int .i64 b0_2], .arr T60 s1 .open]⟩
noncomputable def spec_l37Chords.l1 (k m m1 : Nat) (k_4 : Int) (i_5 : Int) (v_7 : Int) (b0_0 : (List Int)) (b0_1 : Int) (b0_2 : Int) (s1 : (List DT60)) (s2 : (List Int)) : Option ((List DT60) × DT134) := loopRunB C k 85 (.pair (.list T60) T134) 0 T134 1 [.r, .r, .r, .l, .r, .b, .p, .r, .l, .b, .r, .r, .b] [⟨[0, 3, 4, 5], m1⟩] [0, 3, 4, 5, 6, 7] m ⟨[.one (.cell (.ptr 1 0)), .one (.cell (.ref 5)), .one (.cell (.int .i64 k_4)), .one (.cell (.int .i64 i_5)), .one (.cell (.ref 9)), .one (.cell (.int .i64 v_7))], [.box (some T134) [.list true (.int .u8) b0_0, .int .i64 b0_1, .int .i64 b0_2], .arr T60 s1 .open, .arr (.int .i64) s2 .open]⟩
noncomputable def impl_ChordAt (k : Nat) (l_0 : (List DT60)) (tick_1 : Int) : Option (DT25 × (Bool × Unit)) := run C k 86 (.pair T25 (.pair .bool .unit)) [.val (.list T60) l_0, .val (.int .i64) tick_1]
noncomputable def spec_DrawIsOrchestra (k : Nat) (code_0 : (List Int)) : Option DT32 := run C k 63 T32 [.val (.list (.int .u8)) code_0]
noncomputable def impl_markOrder (k : Nat) (a_0 : DT110) (b_1 : DT110) : Option Int := run C k 88 (.int .i64) [.val T110 a_0, .val T110 b_1]
noncomputable def impl_ArePlayers (k : Nat) (l_0 : (List DT93)) : Option Bool := run C k 16 .bool [.val (.dlist T93) l_0]
noncomputable def impl_ArePlayers.l0 (k m : Nat) (l_0 : (List DT93)) (t_7 : (List DT93)) (t_8 : Int) (t_9 : Int) (s0 : (List Int)) : Option Bool := loopRun C k 16 .bool [0] [.r, .r, .l, .r, .b] [] [0, 3, 7, 8, 9] m ⟨[.one (.cell (.list false T93 l_0)), .one (.cell (.ref 1)), .one (.cell (.list false T93 t_7)), .one (.cell (.int .i64 t_8)), .one (.cell (.int .i64 t_9))], [.arr (.int .i64) s0 .open]⟩
noncomputable def slices_ContainsFunc_impl_Player_90 (k : Nat) (s_0 : (List DT93)) (c1_0 : Int) (c1_1 : (List DT60)) (c1_2 : Int) : Option Bool := run C k 89 .bool [.val (.dlist T93) s_0, .clo 90 [.ro (.int .i64) c1_0, .ro (.list T60) c1_1, .ro (.int .i64) c1_2]]
noncomputable def cmp_Compare_int (k : Nat) (x_0 : Int) (y_1 : Int) : Option Int := run C k 114 (.int .i64) [.val (.int .i64) x_0, .val (.int .i64) y_1]
noncomputable def cmp_Or_int (k : Nat) (vals_0 : (List Int)) : Option Int := run C k 113 (.int .i64) [.val (.list (.int .i64)) vals_0]
noncomputable def cmp_Or_int.l0 (k m : Nat) (zero_3 : Int) (t_6 : (List Int)) (t_7 : Int) (t_8 : Int) : Option Int := loopRun C k 113 (.int .i64) [0] [.r, .r, .l, .r, .b] [] [3, 6, 7, 8] m ⟨[.one (.cell (.int .i64 zero_3)), .one (.cell (.list false (.int .i64) t_6)), .one (.cell (.int .i64 t_7)), .one (.cell (.int .i64 t_8))], []⟩
noncomputable def spec_l13Part (k : Nat) (c_0 : DT134) : Option ((List DT100) × DT134) := run C k 117 (.pair (.list T100) T134) [.ioBox T134 c_0]
noncomputable def spec_l1Below (k : Nat) (c_0 : DT134) (n_1 : Int) : Option (Int × DT134) := run C k 58 (.pair (.int .i64) T134) [.ioBox T134 c_0, .val (.int .i64) n_1]
noncomputable def slices_IndexFunc_impl_Event_81 (k : Nat) (s_0 : (List DT60)) (c1_0 : Int) : Option Int := run C k 92 (.int .i64) [.val (.list T60) s_0, .clo 81 [.ro (.int .i64) c1_0]]
noncomputable def slices_IndexFunc_impl_Event_81.l0 (k m : Nat) (s_0 : (List DT60)) (f_1_c : Int) (t_7 : Int) (t_8 : Int) : Option Int := loopRun C k 92 (.int .i64) [0, 0] [.r, .l, .r, .b] [] [0, 1, 7, 8] m ⟨[.one (.cell (.list false T60 s_0)), .one (.cell (.clo 81 [.ro (.int .i64) f_1_c])), .one (.cell (.int .i64 t_7)), .one (.cell (.int .i64 t_8))], []⟩
noncomputable def impl_VoiceOf_1 (k : Nat) (e_0 : DT60) (a_1 : Int) : Option Bool := run C k 81 .bool [.val T60 e_0, .rp (.int .i64) a_1]
noncomputable def slices_Index___int_int (k : Nat) (s_0 : (List Int)) (v_1 : Int) : Option Int := run C k 59 (.int .i64) [.val (.list (.int .i64)) s_0, .val (.int .i64) v_1]
noncomputable def slices_Index___int_int.l0 (k m : Nat) (s_0 : (List Int)) (v_1 : Int) (t_7 : Int) (t_8 : Int) : Option Int := loopRun C k 59 (.int .i64) [0, 0] [.r, .l, .r, .b] [] [0, 1, 7, 8] m ⟨[.one (.cell (.list false (.int .i64) s_0)), .one (.cell (.int .i64 v_1)), .one (.cell (.int .i64 t_7)), .one (.cell (.int .i64 t_8))], []⟩
noncomputable def spec_l8Draw (k : Nat) (c_0 : DT134) : Option ((List DT60) × DT134) := run C k 118 (.pair (.list T60) T134) [.ioBox T134 c_0]
noncomputable def spec_l8Draw.l0 (k m : Nat) (i_4 : Int) (b0_0 : (List Int)) (b0_1 : Int) (b0_2 : Int) (s1 : (List DT60)) : Option ((List DT60) × DT134) := loopRunB C k 118 (.pair (.list T60) T134) 0 T134 1 [.r, .r, .l, .r, .b] [] [0, 3, 4] m ⟨[.one (.cell (.ptr 1 0)), .one (.cell (.ref 5)), .one (.cell (.int .i64 i_4))], [.box (some T134) [.list true (.int .u8) b0_0, .int .i64 b0_1, .int .i64 b0_2], .arr T60 s1 .open]⟩
noncomputable def spec_l1Int (k : Nat) (c_0 : DT134) (list_1 : (List Int)) : Option (Int × DT134) := run C k 99 (.pair (.int .i64) T134) [.ioBox T134 c_0, .val (.list (.int .i64)) list_1]
noncomputable def spec_l7Key (k : Nat) (c_0 : DT134) : Option (Int × DT134) := run C k 119 (.pair (.int .i64) T134) [.ioBox T134 c_0]
noncomputable def spec_l23Chord (k : Nat) (c_0 : DT134) (k_1 : Int) : Option (DT25 × DT134) := run C k 121 (.pair T25 T134) [.ioBox T134 c_0, .val (.int .i64) k_1]
noncomputable def spec_TonesOf (k : Nat) (x_0 : DT25) : Option (List Int) := run C k 120 (.list (.int .i64)) [.val T25 x_0]
noncomputable def spec_TonesOf.l0 (k m : Nat) (h_4 : (List Int)) (i_5 : Int) (b0_0 : Int) (b0_1 : Int) (s1 : (List Int)) : Option (List Int) := loopRun C k 120 (.list (.int .i64)) [0] [.r, .r, .r, .r, .l, .r, .b] [] [1, 3, 4, 5] m ⟨[.one (.cell (.ptr 1 0)), .one (.cell (.ref 5)), .one (.cell (.list true (.int .i64) h_4)), .one (.cell (.int .i64 i_5))], [.box (some T25) [.int .i64 b0_0, .int .i64 b0_1], .arr (.int .i64) s1 .open]⟩
noncomputable def spec_PutEvent (k : Nat) (l_0 : (List DT60)) (e_1 : DT60) : Option ((List DT60) × (Bool × Unit)) := run C k 122 (.pair (.list T60) (.pair .bool .unit)) [.val (.list T60) l_0, .val T60 e_1]
noncomputable def impl_ClassesOf (k : Nat) (pitches_0 : (List Int)) : Option (List Int) := run C k 124 (.list (.int .i64)) [.val (.list (.int .i64)) pitches_0]
noncomputable def impl_ClassesOf.l0 (k m : Nat) (t_7 : (List Int)) (t_8 : Int) (t_9 : Int) (s0 : (List Int)) : Option (List Int) := loopRun C k 124 (.list (.int .i64)) [0] [.r, .r, .l, .r, .b] [] [3, 7, 8, 9] m ⟨[.one (.cell (.ref 1)), .one (.cell (.list false (.int .i64) t_7)), .one (.cell (.int .i64 t_8)), .one (.cell (.int .i64 t_9))], [.arr (.int .i64) s0 .open]⟩
noncomputable def impl_ChordOf (k : Nat) (classes_0 : (List Int)) : Option (DT25 × (Bool × Unit)) := run C k 123 (.pair T25 (.pair .bool .unit)) [.val (.list (.int .i64)) classes_0]
noncomputable def impl_ChordOf.l0 (k m : Nat) (classes_0 : (List Int)) (kind_4 : Int) (b0_0 : Int) (b0_1 : Int) : Option (DT25 × (Bool × Unit)) := loopRun C k 123 (.pair T25 (.pair .bool .unit)) [0] [.r, .l, .r, .b] [] [0, 2, 4] m ⟨[.one (.cell (.list false (.int .i64) classes_0)), .one (.cell (.ptr 1 0)), .one (.cell (.int .i64 kind_4))], [.box (some T25) [.int .i64 b0_0, .int .i64 b0_1]]⟩
noncomputable def impl_ChordOf.l1 (k m m1 : Nat) (classes_0 : (List Int)) (kind_4 : Int) (t_11 : Int) (b0_0 : Int) (b0_1 : Int) : Option (DT25 × (Bool × Unit)) := loopRun C k 123 (.pair T25 (.pair .bool .unit)) [0] [.r, .l, .r, .b, .p, .r, .l, .b, .r, .b] [⟨[0, 2, 4], m1⟩] [0, 2, 4, 11] m ⟨[.one (.cell (.list false (.int .i64) classes_0)), .one (.cell (.ptr 1 0)), .one (.cell (.int .i64 kind_4)), .one (.cell (.int .i64 t_11))], [.box (some T25) [.int .i64 b0_0, .int .i64 b0_1]]⟩
noncomputable def spec_l33Any (k : Nat) (c_0 : DT134) : Option (DT32 × DT134) := run C k 57 (.pair T32 T134) [.ioBox T134 c_0]
noncomputable def impl_ascending (k : Nat) (l_0 : (List Int)) (low_1 : Int) (high_2 : Int) : Option Bool := run C k 56 .bool [.val (.list (.int .i64)) l_0, .val (.int .i64) low_1, .val (.int .i64) high_2]
noncomputable def impl_ascending.l0 (k m : Nat) (l_0 : (List Int)) (low_1 : Int) (high_2 : Int) (t_9 : (List Int)) (t_10 : Int) (t_11 : Int) : Option Bool := loopRun C k 56 .bool [0, 0, 0] [.r, .l, .r, .b] [] [0, 1, 2, 9, 10, 11] m ⟨[.one (.cell (.list false (.int .i64) l_0)), .one (.cell (.int .i64 low_1)), .one (.cell (.int .i64 high_2)), .one (.cell (.list false (.int .i64) t_9)), .one (.cell (.int .i64 t_10)), .one (.cell (.int .i64 t_11))], []⟩
noncomputable def slices_IndexFunc_impl_Player_90 (k : Nat) (s_0 : (List DT93)) (c1_0 : Int) (c1_1 : (List DT60)) (c1_2 : Int) : Option Int := run C k 128 (.int .i64) [.val (.dlist T93) s_0, .clo 90 [.ro (.int .i64) c1_0, .ro (.list T60) c1_1, .ro (.int .i64) c1_2]]
noncomputable def slices_IndexFunc_impl_Player_90.l0 (k m : Nat) (s_0 : (List DT93)) (f_1_c : Int) (f_1_c_1 : (List DT60)) (f_1_c_2 : Int) (t_7 : Int) (t_8 : Int) : Option Int := loopRun C k 128 (.int .i64) [0, 0] [.r, .l, .r, .b] [] [0, 1, 7, 8] m ⟨[.one (.cell (.list false T93 s_0)), .one (.cell (.clo 90 [.ro (.int .i64) f_1_c, .ro (.list T60) f_1_c_1, .ro (.int .i64) f_1_c_2])), .one (.cell (.int .i64 t_7)), .one (.cell (.int .i64 t_8))], []⟩
noncomputable def cmp_isNaN_int (k : Nat) (x_0 : Int) : Option Bool := run C k 139 .bool [.val (.int .i64) x_0]
noncomputable def spec_l8Tune (k : Nat) (c_0 : DT134) (voice_1 : Int) (most_2 : Int) : Option ((List DT60) × DT134) := run C k 151 (.pair (.list T60) T134) [.ioBox T134 c_0, .val (.int .i64) voice_1, .val (.int .i64) most_2]
noncomputable def spec_l8Tune.l0 (k m : Nat) (voice_1 : Int) (at_8 : Int) (i_9 : Int) (b0_0 : (List Int)) (b0_1 : Int) (b0_2 : Int) (s1 : (List DT60)) : Option ((List DT60) × DT134) := loopRunB C k 151 (.pair (.list T60) T134) 0 T134 3 [.r, .r, .r, .l, .r, .b] [] [0, 1, 7, 8, 9] m ⟨[.one (.cell (.ptr 1 0)), .one (.cell (.int .i64 voice_1)), .one (.cell (.ref 5)), .one (.cell (.int .i64 at_8)), .one (.cell (.int .i64 i_9))], [.box (some T134) [.list true (.int .u8) b0_0, .int .i64 b0_1, .int .i64 b0_2], .arr T60 s1 .open]⟩
noncomputable def spec_EndOf (k : Nat) (l_0 : (List DT60)) : Option Int := run C k 153 (.int .i64) [.val (.list T60) l_0]
noncomputable def spec_EndOf.l0 (k m : Nat) (l_0 : (List DT60)) (n_3 : Int) (i_4 : Int) : Option Int := loopRun C k 153 (.int .i64) [0] [.r, .r, .l, .r, .b] [] [0, 3, 4] m ⟨[.one (.cell (.list false T60 l_0)), .one (.cell (.int .i64 n_3)), .one (.cell (.int .i64 i_4))], []⟩
noncomputable def spec_PartFrom (k : Nat) (l_0 : (List DT60)) (voice_1 : Int) (end_2 : Int) : Option ((List DT100) × (Bool × Unit)) := run C k 152 (.pair (.list T100) (.pair .bool .unit)) [.val (.list T60) l_0, .val (.int .i64) voice_1, .val (.int .i64) end_2]
noncomputable def spec_PartFrom.l0 (k m : Nat) (l_0 : (List DT60)) (end_2 : Int) (at_10 : Int) (i_11 : Int) (s0 : (List DT100)) (s1 : (List DT60)) : Option ((List DT100) × (Bool × Unit)) := loopRun C k 152 (.pair (.list T100) (.pair .bool .unit)) [0, 0, 0] [.r, .r, .r, .r, .l, .r, .b] [] [0, 2, 8, 9, 10, 11] m ⟨[.one (.cell (.list false T60 l_0)), .one (.cell (.int .i64 end_2)), .one (.cell (.ref 1)), .one (.cell (.ref 5)), .one (.cell (.int .i64 at_10)), .one (.cell (.int .i64 i_11))], [.arr T100 s0 .open, .arr T60 s1 .open]⟩
noncomputable def spec_l4Raw (k : Nat) (c_0 : DT134) : Option (Int × DT134) := run C k 154 (.pair (.int .i64) T134) [.ioBox T134 c_0]
noncomputable def spec_l1Byte (k : Nat) (c_0 : DT134) : Option (Int × DT134) := run C k 110 (.pair (.int .i64) T134) [.ioBox T134 c_0]
noncomputable def spec_l8Event (k : Nat) (c_0 : DT134) : Option (DT60 × DT134) := run C k 155 (.pair T60 T134) [.ioBox T134 c_0]
noncomputable def spec_Mod (k : Nat) (n_0 : Int) (m_1 : Int) : Option Int := run C k 159 (.int .i64) [.val (.int .i64) n_0, .val (.int .i64) m_1]
noncomputable def spec_l22Any (k : Nat) (c_0 : DT134) : Option (DT25 × DT134) := run C k 160 (.pair T25 T134) [.ioBox T134 c_0]
noncomputable def spec_IsChord (k : Nat) (x_0 : DT25) : Option Bool := run C k 156 .bool [.val T25 x_0]
noncomputable def spec_l22Halves (k : Nat) (kind_0 : Int) : Option (List Int) := run C k 157 (.list (.int .i64)) [.val (.int .i64) kind_0]
noncomputable def spec_l8Num (k : Nat) (l_0 : (List Int)) (n_1 : Int) : Option (List Int) := run C k 158 (.list (.int .i64)) [.val (.list (.int .i64)) l_0, .val (.int .i64) n_1]
noncomputable def spec_l8Num.l0 (k m : Nat) (l_0 : (List Int)) (n_1 : Int) (k_5 : Int) : Option (List Int) := loopRun C k 158 (.list (.int .i64)) [0, 0] [.r, .r, .l, .b] [] [0, 1, 5] m ⟨[.one (.cell (.list false (.int .i64) l_0)), .one (.cell (.int .i64 n_1)), .one (.cell (.int .i64 k_5))], []⟩
noncomputable def spec_l8Put (k : Nat) (l_0 : (List DT60)) (e_1 : DT60) : Option (List DT60) := run C k 161 (.list T60) [.val (.list T60) l_0, .val T60 e_1]
noncomputable def spec_l8Put.l0 (k m : Nat) (l_0 : (List DT60)) (k_5 : Int) (b0_0 : Int) (b0_1 : Int) (b0_2 : Int) (b0_3 : Int) : Option (List DT60) := loopRun C k 161 (.list T60) [0, 0] [.r, .r, .l, .b] [] [0, 3, 5] m ⟨[.one (.cell (.list false T60 l_0)), .one (.cell (.ptr 1 0)), .one (.cell (.int .i64 k_5))], [.box (some T60) [.int .i64 b0_0, .int .i64 b0_1, .int .i64 b0_2, .int .i64 b0_3]]⟩
noncomputable def spec_IsScore (k : Nat) (l_0 : (List DT60)) : Option Bool := run C k 162 .bool [.val (.list T60) l_0]
noncomputable def spec_IsScore.l0 (k m : Nat) (l_0 : (List DT60)) (i_3 : Int) : Option Bool := loopRun C k 162 .bool [0] [.r, .l, .r, .b] [] [0, 3] m ⟨[.one (.cell (.list false T60 l_0)), .one (.cell (.int .i64 i_3))], []⟩
noncomputable def impl_Mod (k : Nat) (p_0 : Int) (q_1 : Int) : Option Int := run C k 112 (.int .i64) [.val (.int .i64) p_0, .val (.int .i64) q_1]
noncomputable def impl_TonesOf (k : Nat) (x_0 : DT25) : Option (List Int) := run C k 163 (.list (.int .i64)) [.val T25 x_0]
noncomputable def impl_TonesOf.l0 (k m : Nat) (t_21 : (List Int)) (t_22 : Int) (t_23 : Int) (b0_0 : Int) (b0_1 : Int) (s1 : (List Int)) : Option (List Int) := loopRun C k 163 (.list (.int .i64)) [0] [.r, .r, .r, .l, .r, .b] [] [1, 3, 21, 22, 23] m ⟨[.one (.cell (.ptr 1 0)), .one (.cell (.ref 5)), .one (.cell (.list true (.int .i64) t_21)), .one (.cell (.int .i64 t_22)), .one (.cell (.int .i64 t_23))], [.box (some T25) [.int .i64 b0_0, .int .i64 b0_1], .arr (.int .i64) s1 .open]⟩
noncomputable def slices_Equal___int_int (k : Nat) (s1_0 : (List Int)) (s2_1 : (List Int)) : Option Bool := run C k 69 .bool [.val (.list (.int .i64)) s1_0, .val (.list (.int .i64)) s2_1]
noncomputable def slices_Equal___int_int.l0 (k m : Nat) (s1_0 : (List Int)) (s2_1 : (List Int)) (t_12 : Int) (t_13 : Int) : Option Bool := loopRun C k 69 .bool [0, 0] [.r, .r, .l, .r, .b] [] [0, 1, 12, 13] m ⟨[.one (.cell (.list false (.int .i64) s1_0)), .one (.cell (.list false (.int .i64) s2_1)), .one (.cell (.int .i64 t_12)), .one (.cell (.int .i64 t_13))], []⟩
noncomputable def spec_l33Draw (k : Nat) (c_0 : DT134) : Option (DT32 × DT134) := run C k 106 (.pair T32 T134) [.ioBox T134 c_0]
noncomputable def spec_l10Any (k : Nat) (c_0 : DT134) : Option (DT25 × DT134) := run C k 53 (.pair T25 T134) [.ioBox T134 c_0]
noncomputable def spec_l11Any (k : Nat) (c_0 : DT134) : Option ((List DT25) × DT134) := run C k 107 (.pair (.list T25) T134) [.ioBox T134 c_0]
noncomputable def spec_l29Any (k : Nat) (c_0 : DT134) : Option ((List DT93) × DT134) := run C k 54 (.pair (.dlist T93) T134) [.ioBox T134 c_0]
noncomputable def spec_l25Any (k : Nat) (c_0 : DT134) : Option ((List DT110) × DT134) := run C k 108 (.pair (.list T110) T134) [.ioBox T134 c_0]
noncomputable def spec_l26Any (k : Nat) (c_0 : DT134) : Option ((List DT25) × DT134) := run C k 109 (.pair (.list T25) T134) [.ioBox T134 c_0]
noncomputable def impl_IsSeating_1 (k : Nat) (p_0 : DT93) (a_1 : Int) (a_2 : (List DT60)) (a_3 : Int) : Option Bool := run C k 90 .bool [.val T93 p_0, .rp (.int .i64) a_1, .rp (.list T60) a_2, .rp (.int .i64) a_3]
noncomputable def spec_Max (k : Nat) (a_0 : Int) (b_1 : Int) : Option Int := run C k 179 (.int .i64) [.val (.int .i64) a_0, .val (.int .i64) b_1]
noncomputable def spec_VoiceOf (k : Nat) (l_0 : (List DT60)) (voice_1 : Int) : Option (List DT60) := run C k 178 (.list T60) [.val (.list T60) l_0, .val (.int .i64) voice_1]
noncomputable def spec_VoiceOf.l0 (k m : Nat) (l_0 : (List DT60)) (voice_1 : Int) (i_6 : Int) (s0 : (List DT60)) : Option (List DT60) := loopRun C k 178 (.list T60) [0, 0] [.r, .r, .l, .r, .b] [] [0, 1, 5, 6] m ⟨[.one (.cell (.list false T60 l_0)), .one (.cell (.int .i64 voice_1)), .one (.cell (.ref 1)), .one (.cell (.int .i64 i_6))], [.arr T60 s0 .open]⟩
noncomputable def spec_l1In (k : Nat) (x_0 : Int) (least_1 : Int) (most_2 : Int) : Option Bool := run C k 171 .bool [.val (.int .i64) x_0, .val (.int .i64) least_1, .val (.int .i64) most_2]
noncomputable def spec_l22Draw (k : Nat) (c_0 : DT134) : Option (DT25 × DT134) := run C k 180 (.pair T25 T134) [.ioBox T134 c_0]
noncomputable def spec_l8Before (k : Nat) (a_0 : DT60) (b_1 : DT60) : Option Bool := run C k 181 .bool [.val T60 a_0, .val T60 b_1]
noncomputable def spec_l8Ok (k : Nat) (e_0 : DT60) : Option Bool := run C k 182 .bool [.val T60 e_0]
noncomputable def spec_l10Draw (k : Nat) (c_0 : DT134) : Option (DT25 × DT134) := run C k 98 (.pair T25 T134) [.ioBox T134 c_0]
noncomputable def spec_l33Voices (k : Nat) (c_0 : DT134) : Option ((List DT93) × DT134) := run C k 133 (.pair (.dlist T93) T134) [.ioBox T134 c_0]
noncomputable def spec_l33Voices.l0 (k m : Nat) (i_4 : Int) (b0_0 : (List Int)) (b0_1 : Int) (b0_2 : Int) (s1 : (List DT93)) : Option ((List DT93) × DT134) := loopRunB C k 133 (.pair (.dlist T93) T134) 0 T134 1 [.r, .r, .l, .r, .b] [] [0, 3, 4] m ⟨[.one (.cell (.ptr 1 0)), .one (.cell (.dref 5)), .one (.cell (.int .i64 i_4))], [.box (some T134) [.list true (.int .u8) b0_0, .int .i64 b0_1, .int .i64 b0_2], .deep T93 s1 none]⟩
noncomputable def spec_NewOrchestra (k : Nat) (m_0 : DT25) (players_1 : (List DT93)) : Option (DT32 × (Bool × Unit)) := run C k 132 (.pair T32 (.pair .bool .unit)) [.val T25 m_0, .val (.dlist T93) players_1]
noncomputable def spec_l13Score (k : Nat) (c_0 : DT134) : Option ((List DT60) × DT134) := run C k 134 (.pair (.list T60) T134) [.ioBox T134 c_0]
noncomputable def spec_l13Score.l0 (k m : Nat) (i_5 : Int) (b0_0 : (List Int)) (b0_1 : Int) (b0_2 : Int) (s1 : (List DT60)) (s2 : (List DT60)) : Option ((List DT60) × DT134) := loopRunB C k 134 (.pair (.list T60) T134) 0 T134 1 [.r, .r, .r, .l, .r, .b] [] [0, 3, 4, 5] m ⟨[.one (.cell (.ptr 1 0)), .one (.cell (.ref 5)), .one (.cell (.ref 9)), .one (.cell (.int .i64 i_5))], [.box (some T134) [.list true (.int .u8) b0_0, .int .i64 b0_1, .int .i64 b0_2], .arr T60 s1 .open, .arr T60 s2 .open]⟩
noncomputable def spec_l11Draw (k : Nat) (c_0 : DT134) : Option ((List DT25) × DT134) := run C k 135 (.pair (.list T25) T134) [.ioBox T134 c_0]
noncomputable def spec_l11Draw.l0 (k m : Nat) (at_4 : Int) (i_5 : Int) (b0_0 : (List Int)) (b0_1 : Int) (b0_2 : Int) (s1 : (List DT25)) : Option ((List DT25) × DT134) := loopRunB C k 135 (.pair (.list T25) T134) 0 T134 1 [.r, .r, .r, .l, .r, .b] [] [0, 3, 4, 5] m ⟨[.one (.cell (.ptr 1 0)), .one (.cell (.ref 5)), .one (.cell (.int .i64 at_4)), .one (.cell (.int .i64 i_5))], [.box (some T134) [.list true (.int .u8) b0_0, .int .i64 b0_1, .int .i64 b0_2], .arr T25 s1 .open]⟩
noncomputable def spec_l25Draw (k : Nat) (c_0 : DT134) : Option ((List DT110) × DT134) := run C k 136 (.pair (.list T110) T134) [.ioBox T134 c_0]
noncomputable def spec_l25Draw.l0 (k m : Nat) (i_4 : Int) (b0_0 : (List Int)) (b0_1 : Int) (b0_2 : Int) (s1 : (List DT110)) : Option ((List DT110) × DT134) := loopRunB C k 136 (.pair (.list T110) T134) 0 T134 1 [.r, .r, .l, .r, .b] [] [0, 3, 4] m ⟨[.one (.cell (.ptr 1 0)), .one (.cell (.ref 5)), .one (.cell (.int .i64 i_4))], [.box (some T134) [.list true (.int .u8) b0_0, .int .i64 b0_1, .int .i64 b0_2], .arr T110 s1 .open]⟩
noncomputable def spec_l26Draw (k : Nat) (c_0 : DT134) : Option ((List DT25) × DT134) := run C k 137 (.pair (.list T25) T134) [.ioBox T134 c_0]
noncomputable def spec_l26Draw.l0 (k m : Nat) (b_4 : Int) (i_5 : Int) (b0_0 : (List Int)) (b0_1 : Int) (b0_2 : Int) (s1 : (List DT25)) : Option ((List DT25) × DT134) := loopRunB C k 137 (.pair (.list T25) T134) 0 T134 1 [.r, .r, .r, .l, .r, .b] [] [0, 3, 4, 5] m ⟨[.one (.cell (.ptr 1 0)), .one (.cell (.ref 5)), .one (.cell (.int .i64 b_4)), .one (.cell (.int .i64 i_5))], [.box (some T134) [.list true (.int .u8) b0_0, .int .i64 b0_1, .int .i64 b0_2], .arr T25 s1 .open]⟩
noncomputable def spec_SeatPlayers (k : Nat) (l_0 : (List DT93)) (score_1 : (List DT60)) (voices_2 : Int) : Option ((List Int) × (Bool × Unit)) := run C k 138 (.pair (.list (.int .i64)) (.pair .bool .unit)) [.val (.dlist T93) l_0, .val (.list T60) score_1, .val (.int .i64) voices_2]
noncomputable def spec_l29Draw (k : Nat) (c_0 : DT134) : Option ((List DT93) × DT134) := run C k 100 (.pair (.dlist T93) T134) [.ioBox T134 c_0]
noncomputable def spec_l29Draw.l0 (k m : Nat) (i_4 : Int) (b0_0 : (List Int)) (b0_1 : Int) (b0_2 : Int) (s1 : (List DT93)) : Option ((List DT93) × DT134) := loopRunB C k 100 (.pair (.dlist T93) T134) 0 T134 1 [.r, .r, .l, .r, .b] [] [0, 3, 4] m ⟨[.one (.cell (.ptr 1 0)), .one (.cell (.dref 5)), .one (.cell (.int .i64 i_4))], [.box (some T134) [.list true (.int .u8) b0_0, .int .i64 b0_1, .int .i64 b0_2], .deep T93 s1 none]⟩
noncomputable def spec_l29Draw.l1 (k m m1 : Nat) (i_4 : Int) (v_6 : Int) (b0_0 : (List Int)) (b0_1 : Int) (b0_2 : Int) (s1 : (List DT93)) (b2_0 : Int) (b2_1 : Int) (b2_2 : Int) : Option ((List DT93) × DT134) := loopRunB C k 100 (.pair (.dlist T93) T134) 0 T134 1 [.r, .r, .l, .r, .b, .p, .r, .l, .b, .r, .l, .r, .b] [⟨[0, 3, 4], m1⟩] [0, 3, 4, 5, 6] m ⟨[.one (.cell (.ptr 1 0)), .one (.cell (.dref 5)), .one (.cell (.int .i64 i_4)), .one (.cell (.ptr 9 0)), .one (.cell (.int .i64 v_6))], [.box (some T134) [.list true (.int .u8) b0_0, .int .i64 b0_1, .int .i64 b0_2], .deep T93 s1 none, .box (some T93) [.int .i64 b2_0, .int .i64 b2_1, .int .i64 b2_2, .nil]]⟩
noncomputable def spec_l29Draw.l2 (k m m1 : Nat) (i_4 : Int) (v_6 : Int) (b0_0 : (List Int)) (b0_1 : Int) (b0_2 : Int) (s1 : (List DT93)) (b2_0 : Int) (b2_1 : Int) (b2_2 : Int) (s3 : (List Int)) : Option ((List DT93) × DT134) := loopRunB C k 100 (.pair (.dlist T93) T134) 0 T134 1 [.r, .r, .l, .r, .b, .p, .r, .l, .b, .r, .l, .r, .b] [⟨[0, 3, 4], m1⟩] [0, 3, 4, 5, 6] m ⟨[.one (.cell (.ptr 1 0)), .one (.cell (.dref 5)), .one (.cell (.int .i64 i_4)), .one (.cell (.ptr 9 0)), .one (.cell (.int .i64 v_6))], [.box (some T134) [.list true (.int .u8) b0_0, .int .i64 b0_1, .int .i64 b0_2], .deep T93 s1 none, .box (some T93) [.int .i64 b2_0, .int .i64 b2_1, .int .i64 b2_2, .ref 13], .arr (.int .i64) s3 .open]⟩
noncomputable def impl_CanPlay (k : Nat) (p_0 : DT93) (l_1 : (List DT60)) (voice_2 : Int) : Option Bool := run C k 91 .bool [.val T93 p_0, .val (.list T60) l_1, .val (.int .i64) voice_2]
noncomputable def spec_l33Copy (k : Nat) (o_0 : DT32) : Option DT32 := run C k 62 T32 [.val T32 o_0]
noncomputable def spec_IsOrchestra (k : Nat) (o_0 : DT32) : Option Bool := run C k 167 .bool [.val T32 o_0]
noncomputable def spec_l25Mark (k : Nat) (c_0 : DT134) : Option (DT110 × DT134) := run C k 169 (.pair T110 T134) [.ioBox T134 c_0]
noncomputable def spec_SetMark (k : Nat) (l_0 : (List DT110)) (x_1 : DT110) : Option (List DT110) := run C k 168 (.list T110) [.val (.list T110) l_0, .val T110 x_1]
noncomputable def spec_ArePlayers (k : Nat) (l_0 : (List DT93)) : Option Bool := run C k 170 .bool [.val (.dlist T93) l_0]
noncomputable def spec_ArePlayers.l0 (k m : Nat) (l_0 : (List DT93)) (i_3 : Int) : Option Bool := loopRun C k 170 .bool [0] [.r, .l, .r, .b] [] [0, 3] m ⟨[.one (.cell (.list false T93 l_0)), .one (.cell (.int .i64 i_3))], []⟩
noncomputable def spec_ArePlayers.l1 (k m m1 : Nat) (l_0 : (List DT93)) (i_3 : Int) (k_5 : Int) (b0_0 : Int) (b0_1 : Int) (b0_2 : Int) (b0_3 : (List Int)) : Option Bool := loopRun C k 170 .bool [0] [.r, .l, .r, .b, .p, .r, .l, .b, .r, .r, .r, .b] [⟨[0, 3], m1⟩] [0, 3, 4, 5] m ⟨[.one (.cell (.list false T93 l_0)), .one (.cell (.int .i64 i_3)), .one (.cell (.ptr 1 0)), .one (.cell (.int .i64 k_5))], [.box (some T93) [.int .i64 b0_0, .int .i64 b0_1, .int .i64 b0_2, .list true (.int .i64) b0_3]]⟩
noncomputable def spec_l29Seat (k : Nat) (l_0 : (List DT93)) (score_1 : (List DT60)) (voices_2 : Int) (taken_3 : (List Int)) : Option ((List Int) × (Bool × Unit)) := run C k 172 (.pair (.list (.int .i64)) (.pair .bool .unit)) [.val (.dlist T93) l_0, .val (.list T60) score_1, .val (.int .i64) voices_2, .val (.list (.int .i64)) taken_3]
noncomputable def spec_l29Seat.l0 (k m : Nat) (l_0 : (List DT93)) (score_1 : (List DT60)) (voices_2 : Int) (taken_3 : (List Int)) (i_10 : Int) : Option ((List Int) × (Bool × Unit)) := loopRun C k 172 (.pair (.list (.int .i64)) (.pair .bool .unit)) [0, 0, 0, 0] [.r, .r, .l, .r, .b] [] [0, 1, 2, 3, 10] m ⟨[.one (.cell (.list false T93 l_0)), .one (.cell (.list false T60 score_1)), .one (.cell (.int .i64 voices_2)), .one (.cell (.list false (.int .i64) taken_3)), .one (.cell (.int .i64 i_10))], []⟩
noncomputable def impl_FitsRange (k : Nat) (l_0 : (List DT60)) (low_1 : Int) (high_2 : Int) : Option Bool := run C k 129 .bool [.val (.list T60) l_0, .val (.int .i64) low_1, .val (.int .i64) high_2]
noncomputable def impl_FitsRange.l0 (k m : Nat) (l_0 : (List DT60)) (low_1 : Int) (high_2 : Int) (t_9 : (List DT60)) (t_10 : Int) (t_11 : Int) : Option Bool := loopRun C k 129 .bool [0, 0, 0] [.r, .l, .r, .b] [] [0, 1, 2, 9, 10, 11] m ⟨[.one (.cell (.list false T60 l_0)), .one (.cell (.int .i64 low_1)), .one (.cell (.int .i64 high_2)), .one (.cell (.list false T60 t_9)), .one (.cell (.int .i64 t_10)), .one (.cell (.int .i64 t_11))], []⟩
noncomputable def spec_l29Copy (k : Nat) (l_0 : (List DT93)) : Option (List DT93) := run C k 111 (.dlist T93) [.val (.dlist T93) l_0]
noncomputable def spec_l29Copy.l0 (k m : Nat) (l_0 : (List DT93)) (i_4 : Int) (s0 : (List DT93)) : Option (List DT93) := loopRun C k 111 (.dlist T93) [0] [.r, .r, .l, .r, .b] [] [0, 3, 4] m ⟨[.one (.cell (.list false T93 l_0)), .one (.cell (.dref 1)), .one (.cell (.int .i64 i_4))], [.deep T93 s0 none]⟩
noncomputable def spec_IsMeter (k : Nat) (m_0 : DT25) : Option Bool := run C k 191 .bool [.val T25 m_0]
noncomputable def spec_IsTempo (k : Nat) (l_0 : (List DT25)) : Option Bool := run C k 192 .bool [.val (.list T25) l_0]
noncomputable def spec_IsTempo.l0 (k m : Nat) (l_0 : (List DT25)) (i_3 : Int) : Option Bool := loopRun C k 192 .bool [0] [.r, .l, .r, .b] [] [0, 3] m ⟨[.one (.cell (.list false T25 l_0)), .one (.cell (.int .i64 i_3))], []⟩
noncomputable def spec_AreMarks (k : Nat) (l_0 : (List DT110)) : Option Bool := run C k 193 .bool [.val (.list T110) l_0]
noncomputable def spec_AreMarks.l0 (k m : Nat) (l_0 : (List DT110)) (i_3 : Int) : Option Bool := loopRun C k 193 .bool [0] [.r, .l, .r, .b] [] [0, 3] m ⟨[.one (.cell (.list false T110 l_0)), .one (.cell (.int .i64 i_3))], []⟩
noncomputable def spec_AreLetters (k : Nat) (l_0 : (List DT25)) : Option Bool := run C k 194 .bool [.val (.list T25) l_0]
noncomputable def spec_AreLetters.l0 (k m : Nat) (l_0 : (List DT25)) (i_3 : Int) : Option Bool := loopRun C k 194 .bool [0] [.r, .l, .r, .b] [] [0, 3] m ⟨[.one (.cell (.list false T25 l_0)), .one (.cell (.int .i64 i_3))], []⟩
noncomputable def spec_IsSeating (k : Nat) (l_0 : (List DT93)) (score_1 : (List DT60)) (seats_2 : (List Int)) : Option Bool := run C k 195 .bool [.val (.dlist T93) l_0, .val (.list T60) score_1, .val (.list (.int .i64)) seats_2]
noncomputable def spec_IsSeating.l0 (k m : Nat) (l_0 : (List DT93)) (score_1 : (List DT60)) (seats_2 : (List Int)) (i_7 : Int) : Option Bool := loopRun C k 195 .bool [0, 0, 0] [.r, .l, .r, .b] [] [0, 1, 2, 7] m ⟨[.one (.cell (.list false T93 l_0)), .one (.cell (.list false T60 score_1)), .one (.cell (.list false (.int .i64) seats_2)), .one (.cell (.int .i64 i_7))], []⟩
noncomputable def spec_IsSeating.l1 (k m m1 : Nat) (l_0 : (List DT93)) (score_1 : (List DT60)) (seats_2 : (List Int)) (i_7 : Int) (good_8 : Bool) (k_9 : Int) : Option Bool := loopRun C k 195 .bool [0, 0, 0] [.r, .l, .r, .b, .p, .r, .l, .b, .r, .l, .r, .b] [⟨[0, 1, 2, 7], m1⟩] [0, 1, 2, 7, 8, 9] m ⟨[.one (.cell (.list false T93 l_0)), .one (.cell (.list false T60 score_1)), .one (.cell (.list false (.int .i64) seats_2)), .one (.cell (.int .i64 i_7)), .one (.cell (.prop (good_8 = true) (instDecidableEqBool good_8 true))), .one (.cell (.int .i64 k_9))], []⟩
noncomputable def spec_l25Set (k : Nat) (l_0 : (List DT110)) (x_1 : DT110) : Option (List DT110) := run C k 196 (.list T110) [.val (.list T110) l_0, .val T110 x_1]
noncomputable def spec_l25Set.l0 (k m : Nat) (l_0 : (List DT110)) (k_5 : Int) (b0_0 : Int) (b0_1 : Int) (b0_2 : Int) (b0_3 : Int) (b0_4 : Int) : Option (List DT110) := loopRun C k 196 (.list T110) [0, 0] [.r, .r, .l, .b] [] [0, 3, 5] m ⟨[.one (.cell (.list false T110 l_0)), .one (.cell (.ptr 1 0)), .one (.cell (.int .i64 k_5))], [.box (some T110) [.int .i64 b0_0, .int .i64 b0_1, .int .i64 b0_2, .int .i64 b0_3, .int .i64 b0_4]]⟩
noncomputable def spec_l27Has (k : Nat) (l_0 : (List Int)) (n_1 : Int) : Option Bool := run C k 197 .bool [.val (.list (.int .i64)) l_0, .val (.int .i64) n_1]
noncomputable def spec_l27Has.l0 (k m : Nat) (l_0 : (List Int)) (n_1 : Int) (i_5 : Int) : Option Bool := loopRun C k 197 .bool [0, 0] [.r, .l, .r, .b] [] [0, 1, 5] m ⟨[.one (.cell (.list false (.int .i64) l_0)), .one (.cell (.int .i64 n_1)), .one (.cell (.int .i64 i_5))], []⟩
noncomputable def spec_CanPlay (k : Nat) (p_0 : DT93) (l_1 : (List DT60)) (voice_2 : Int) : Option Bool := run C k 198 .bool [.val T93 p_0, .val (.list T60) l_1, .val (.int .i64) voice_2]
noncomputable def spec_l25Before (k : Nat) (a_0 : DT110) (b_1 : DT110) : Option Bool := run C k 205 .bool [.val T110 a_0, .val T110 b_1]
noncomputable def spec_IsNewer (k : Nat) (a_0 : DT110) (b_1 : DT110) : Option Bool := run C k 206 .bool [.val T110 a_0, .val T110 b_1]
noncomputable def spec_FitsRange (k : Nat) (l_0 : (List DT60)) (low_1 : Int) (high_2 : Int) : Option Bool := run C k 207 .bool [.val (.list T60) l_0, .val (.int .i64) low_1, .val (.int .i64) high_2]
noncomputable def spec_FitsRange.l0 (k m : Nat) (l_0 : (List DT60)) (low_1 : Int) (high_2 : Int) (i_7 : Int) : Option Bool := loopRun C k 207 .bool [0, 0, 0] [.r, .l, .r, .b] [] [0, 1, 2, 7] m ⟨[.one (.cell (.list false T60 l_0)), .one (.cell (.int .i64 low_1)), .one (.cell (.int .i64 high_2)), .one (.cell (.int .i64 i_7))], []⟩
theorem laws_FnMeasured_eq (k : Nat) (code_0 : (List Int)) : laws_FnMeasured (k + 1) code_0 =
 (laws_big k code_0).bind fun r1 =>
 if r1 = true then
 some true
 else (spec_DrawDensestTick k code_0).bind fun r2 =>
 (impl_DensestTick k r2).bind fun r3 =>
 (impl_IsScore k r2).bind fun r4 =>
 if r4 = true then
 if ¬ ((decide ((r3 : Int) = (-1))) = (decide ((((List.length r2 : Nat) : Int) : Int) = 0))) then
 some false
 else laws_FnMeasured.l0 k k code_0 r3 0 r2
 else laws_FnMeasured.l0 k k code_0 r3 0 r2 := by kernel_rfl
theorem laws_FnMeasured.l0_eq (k m : Nat) (code_0 : (List Int)) (d_4 : Int) (i_5 : Int) (s0 : (List DT60)) : laws_FnMeasured.l0 k (m + 1) code_0 d_4 i_5 s0 =
 if (i_5 : Int) < ((List.length s0 : Nat) : Int) then
 if (0 : Int) ≤ d_4 then
 if 0 ≤ i_5 then
 if i_5 < ((List.length s0 : Nat) : Int) then
 (impl_SoundsAt k s0 (rd T60 s0 i_5).1).bind fun r5 =>
 (impl_SoundsAt k s0 d_4).bind fun r6 =>
 if (((List.length r6 : Nat) : Int) : Int) < ((List.length r5 : Nat) : Int) then
 some false
 else laws_FnMeasured.l0 k m code_0 d_4 (IntKind.wrap .i64 (i_5 + 1)) s0 else none else none
 else (spec_DrawRestShare k code_0).bind fun r7 =>
 (impl_RestShare k r7).bind fun r8 =>
 (spec_DrawStepsAndLeaps k code_0).bind fun r9 =>
 (impl_StepsAndLeaps k r9.1 r9.2.1).bind fun r10 =>
 if (r8 : Int) < 0 then
 some false
 else if (100 : Int) < r8 then
 some false
 else (impl_VoiceOf k r9.1 r9.2.1).bind fun r11 =>
 if (((List.length r11 : Nat) : Int) : Int) < (IntKind.wrap .i64 (r10.1 + r10.2.1)) then
 some false
 else (impl_CountVoices k s0).bind fun r12 =>
 if (((List.length s0 : Nat) : Int) : Int) < r12 then
 some false
 else (spec_DrawChordsIn k code_0).bind fun r13 =>
 (impl_ChordsIn k r13).bind fun r14 =>
 laws_FnMeasured.l1 k k code_0 d_4 i_5 0 s0 r14
 else (spec_DrawRestShare k code_0).bind fun r15 =>
 (impl_RestShare k r15).bind fun r16 =>
 (spec_DrawStepsAndLeaps k code_0).bind fun r17 =>
 (impl_StepsAndLeaps k r17.1 r17.2.1).bind fun r18 =>
 if (r16 : Int) < 0 then
 some false
 else if (100 : Int) < r16 then
 some false
 else (impl_VoiceOf k r17.1 r17.2.1).bind fun r19 =>
 if (((List.length r19 : Nat) : Int) : Int) < (IntKind.wrap .i64 (r18.1 + r18.2.1)) then
 some false
 else (impl_CountVoices k s0).bind fun r20 =>
 if (((List.length s0 : Nat) : Int) : Int) < r20 then
 some false
 else (spec_DrawChordsIn k code_0).bind fun r21 =>
 (impl_ChordsIn k r21).bind fun r22 =>
 laws_FnMeasured.l1 k k code_0 d_4 i_5 0 s0 r22 := by kernel_rfl
theorem laws_FnMeasured.l1_eq (k m : Nat) (code_0 : (List Int)) (d_4 : Int) (i_5 : Int) (i_14 : Int) (s0 : (List DT60)) (s1 : (List DT25)) : laws_FnMeasured.l1 k (m + 1) code_0 d_4 i_5 i_14 s0 s1 =
 if (i_14 : Int) < ((List.length s1 : Nat) : Int) then
 if 0 ≤ i_14 then
 if i_14 < ((List.length s1 : Nat) : Int) then
 (impl_IsChord k (rd T25 s1 i_14)).bind fun r23 =>
 if ¬ (r23 = true) then
 some false
 else if (0 : Int) < i_14 then
 if 0 ≤ (IntKind.wrap .i64 (i_14 - 1)) then
 if (IntKind.wrap .i64 (i_14 - 1)) < ((List.length s1 : Nat) : Int) then
 if 0 ≤ i_14 then
 if i_14 < ((List.length s1 : Nat) : Int) then
 if (((rd T25 s1 (IntKind.wrap .i64 (i_14 - 1))).1 : Int) = (rd T25 s1 i_14).1) ∧ (((rd T25 s1 (IntKind.wrap .i64 (i_14 - 1))).2.1 : Int) = (rd T25 s1 i_14).2.1) then
 some false
 else laws_FnMeasured.l1 k m code_0 d_4 i_5 (IntKind.wrap .i64 (i_14 + 1)) s0 s1 else none else none else none else none
 else laws_FnMeasured.l1 k m code_0 d_4 i_5 (IntKind.wrap .i64 (i_14 + 1)) s0 s1 else none else none
 else (spec_DrawBusiestPlayer k code_0).bind fun r24 =>
 (impl_BusiestPlayer k r24).bind fun r25 =>
 if (((List.length r24.2.2.2.2.1 : Nat) : Int) : Int) = 0 then
 if (r25 : Int) = 0 then
 some true
 else (laws_contains k r24.2.2.2.2.1 r25).bind fun r26 =>
 some (decide (r26 = true))
 else (laws_contains k r24.2.2.2.2.1 r25).bind fun r27 =>
 some (decide (r27 = true)) := by kernel_rfl
theorem impl_IsOrchestra_eq (k : Nat) (o_0 : DT32) : impl_IsOrchestra (k + 1) o_0 =
 (impl_IsScore k o_0.1).bind fun r1 =>
 if r1 = true then
 (impl_IsMeter k o_0.2.1).bind fun r2 =>
 if r2 = true then
 (impl_IsTempo k o_0.2.2.1).bind fun r3 =>
 if r3 = true then
 (impl_AreMarks k o_0.2.2.2.2.2.1).bind fun r4 =>
 if r4 = true then
 (impl_AreLetters k o_0.2.2.2.2.2.2.1).bind fun r5 =>
 if r5 = true then
 (impl_IsSeating k o_0.2.2.2.1 o_0.1 o_0.2.2.2.2.1).bind fun r6 =>
 if r6 = true then
 (impl_InRange k o_0.2.2.2.2.2.2.2.1 1 9999).bind fun r7 =>
 if r7 = true then
 (impl_InRange k o_0.2.2.2.2.2.2.2.2.1 0 100000).bind fun r8 =>
 some (decide (r8 = true))
 else some false
 else some false
 else some false
 else some false
 else some false
 else some false
 else some false := by kernel_rfl
theorem laws_big_eq (k : Nat) (code_0 : (List Int)) : laws_big (k + 1) code_0 =
 some (decide ((1048576 : Int) < ((List.length code_0 : Nat) : Int))) := by kernel_rfl
theorem spec_DrawDensestTick_eq (k : Nat) (code_0 : (List Int)) : spec_DrawDensestTick (k + 1) code_0 =
 (spec_DrawIsScore k code_0).bind fun r1 =>
 some r1 := by kernel_rfl
theorem impl_DensestTick_eq (k : Nat) (l_0 : (List DT60)) : impl_DensestTick (k + 1) l_0 =
 (impl_IsScore k l_0).bind fun r1 =>
 if r1 = true then
 impl_DensestTick.l0 k k l_0 (-1) 0 l_0 ((List.length l_0 : Nat) : Int) 0
 else some (-1) := by kernel_rfl
theorem impl_DensestTick.l0_eq (k m : Nat) (l_0 : (List DT60)) (best_3 : Int) (most_4 : Int) (t_10 : (List DT60)) (t_11 : Int) (t_12 : Int) : impl_DensestTick.l0 k (m + 1) l_0 best_3 most_4 t_10 t_11 t_12 =
 if (t_12 : Int) < t_11 then
 if 0 ≤ t_12 then
 if t_12 < ((List.length t_10 : Nat) : Int) then
 (impl_SoundsAt k l_0 (rd T60 t_10 t_12).1).bind fun r2 =>
 if (most_4 : Int) < ((List.length r2 : Nat) : Int) then
 impl_DensestTick.l0 k m l_0 (rd T60 t_10 t_12).1 ((List.length r2 : Nat) : Int) t_10 t_11 (IntKind.wrap .i64 (t_12 + 1))
 else impl_DensestTick.l0 k m l_0 best_3 most_4 t_10 t_11 (IntKind.wrap .i64 (t_12 + 1)) else none else none
 else some best_3 := by kernel_rfl
theorem impl_IsScore_eq (k : Nat) (l_0 : (List DT60)) : impl_IsScore (k + 1) l_0 =
 impl_IsScore.l0 k k l_0 l_0 ((List.length l_0 : Nat) : Int) 0 := by kernel_rfl
theorem impl_IsScore.l0_eq (k m : Nat) (l_0 : (List DT60)) (t_5 : (List DT60)) (t_6 : Int) (t_7 : Int) : impl_IsScore.l0 k (m + 1) l_0 t_5 t_6 t_7 =
 if (t_7 : Int) < t_6 then
 if 0 ≤ t_7 then
 if t_7 < ((List.length t_5 : Nat) : Int) then
 (impl_InRange k (rd T60 t_5 t_7).1 0 2000).bind fun r1 =>
 if ¬ (r1 = true) then
 some false
 else (impl_InRange k (rd T60 t_5 t_7).2.1 1 96).bind fun r2 =>
 if ¬ (r2 = true) then
 some false
 else (impl_InRange k (rd T60 t_5 t_7).2.2.1 21 108).bind fun r3 =>
 if ¬ (r3 = true) then
 some false
 else (impl_InRange k (rd T60 t_5 t_7).2.2.2.1 1 4).bind fun r4 =>
 if ¬ (r4 = true) then
 some false
 else if (0 : Int) < t_7 then
 if 0 ≤ (IntKind.wrap .i64 (t_7 - 1)) then
 if (IntKind.wrap .i64 (t_7 - 1)) < ((List.length l_0 : Nat) : Int) then
 (impl_eventOrder k (rd T60 l_0 (IntKind.wrap .i64 (t_7 - 1))) (rd T60 t_5 t_7)).bind fun r5 =>
 if (0 : Int) ≤ r5 then
 some false
 else impl_IsScore.l0 k m l_0 t_5 t_6 (IntKind.wrap .i64 (t_7 + 1)) else none else none
 else impl_IsScore.l0 k m l_0 t_5 t_6 (IntKind.wrap .i64 (t_7 + 1)) else none else none
 else some (decide ((((List.length l_0 : Nat) : Int) : Int) ≤ 40)) := by kernel_rfl
theorem impl_SoundsAt_eq (k : Nat) (l_0 : (List DT60)) (tick_1 : Int) : impl_SoundsAt (k + 1) l_0 tick_1 =
 (impl_IsScore k l_0).bind fun r1 =>
 if ¬ (r1 = true) then
 some []
 else impl_SoundsAt.l0 k k tick_1 l_0 ((List.length l_0 : Nat) : Int) 0 [] := by kernel_rfl
theorem impl_SoundsAt.l0_eq (k m : Nat) (tick_1 : Int) (t_13 : (List DT60)) (t_14 : Int) (t_15 : Int) (s0 : (List Int)) : impl_SoundsAt.l0 k (m + 1) tick_1 t_13 t_14 t_15 s0 =
 if (t_15 : Int) < t_14 then
 if 0 ≤ t_15 then
 if t_15 < ((List.length t_13 : Nat) : Int) then
 (impl_Event__sounds k (rd T60 t_13 t_15) tick_1).bind fun r2 =>
 if r2 = true then
 if (List.length s0 + List.length ([(rd T60 t_13 t_15).2.2.1] : (List Int))) * 8 ≤ 211106232532992 then
 impl_SoundsAt.l0 k m tick_1 t_13 t_14 (IntKind.wrap .i64 (t_15 + 1)) (s0 ++ ([(rd T60 t_13 t_15).2.2.1] : (List Int))) else none
 else impl_SoundsAt.l0 k m tick_1 t_13 t_14 (IntKind.wrap .i64 (t_15 + 1)) s0 else none else none
 else (slices_Sort___int_int k s0).bind fun r3 =>
 (slices_Compact___int_int k r3.2).bind fun r4 =>
 some r4 := by kernel_rfl
theorem spec_DrawRestShare_eq (k : Nat) (code_0 : (List Int)) : spec_DrawRestShare (k + 1) code_0 =
 (spec_DrawIsPart k code_0).bind fun r1 =>
 some r1 := by kernel_rfl
theorem impl_RestShare_eq (k : Nat) (p_0 : (List DT100)) : impl_RestShare (k + 1) p_0 =
 (impl_IsPart k p_0).bind fun r1 =>
 if ¬ (r1 = true) then
 some 100
 else if (((List.length p_0 : Nat) : Int) : Int) = 0 then
 some 100
 else impl_RestShare.l0 k k 0 0 p_0 ((List.length p_0 : Nat) : Int) 0 := by kernel_rfl
theorem impl_RestShare.l0_eq (k m : Nat) (rests_3 : Int) (all_4 : Int) (t_15 : (List DT100)) (t_16 : Int) (t_17 : Int) : impl_RestShare.l0 k (m + 1) rests_3 all_4 t_15 t_16 t_17 =
 if (t_17 : Int) < t_16 then
 if 0 ≤ t_17 then
 if t_17 < ((List.length t_15 : Nat) : Int) then
 if Eq (α := Int) (rd T100 t_15 t_17).2.2.1 0 then
 impl_RestShare.l0 k m (IntKind.wrap .i64 (rests_3 + (rd T100 t_15 t_17).2.1)) (IntKind.wrap .i64 (all_4 + (rd T100 t_15 t_17).2.1)) t_15 t_16 (IntKind.wrap .i64 (t_17 + 1))
 else impl_RestShare.l0 k m rests_3 (IntKind.wrap .i64 (all_4 + (rd T100 t_15 t_17).2.1)) t_15 t_16 (IntKind.wrap .i64 (t_17 + 1)) else none else none
 else if all_4 = (0 : Int) then
 none
 else some (IntKind.wrap .i64 (Int.tdiv (IntKind.wrap .i64 (100 * rests_3)) all_4)) := by kernel_rfl
theorem spec_DrawStepsAndLeaps_eq (k : Nat) (code_0 : (List Int)) : spec_DrawStepsAndLeaps (k + 1) code_0 =
 (spec_DrawVoiceOf k code_0).bind fun r1 =>
 some r1 := by kernel_rfl
theorem impl_StepsAndLeaps_eq (k : Nat) (l_0 : (List DT60)) (voice_1 : Int) : impl_StepsAndLeaps (k + 1) l_0 voice_1 =
 (impl_VoiceOf k l_0 voice_1).bind fun r1 =>
 impl_StepsAndLeaps.l0 k k 0 0 1 r1 := by kernel_rfl
theorem impl_StepsAndLeaps.l0_eq (k m : Nat) (steps_6 : Int) (leaps_7 : Int) (i_9 : Int) (s0 : (List DT60)) : impl_StepsAndLeaps.l0 k (m + 1) steps_6 leaps_7 i_9 s0 =
 if (i_9 : Int) < ((List.length s0 : Nat) : Int) then
 if 0 ≤ (IntKind.wrap .i64 (i_9 - 1)) then
 if (IntKind.wrap .i64 (i_9 - 1)) < ((List.length s0 : Nat) : Int) then
 if 0 ≤ i_9 then
 if i_9 < ((List.length s0 : Nat) : Int) then
 if LT.lt (α := Int) 2 (max (IntKind.wrap .i64 ((max (min (rd T60 s0 (IntKind.wrap .i64 (i_9 - 1))).2.2.1 1000 : Int) (-1000) : Int) - (max (min (rd T60 s0 i_9).2.2.1 1000 : Int) (-1000) : Int))) (IntKind.wrap .i64 ((max (min (rd T60 s0 i_9).2.2.1 1000 : Int) (-1000) : Int) - (max (min (rd T60 s0 (IntKind.wrap .i64 (i_9 - 1))).2.2.1 1000 : Int) (-1000) : Int))) : Int) then
 impl_StepsAndLeaps.l0 k m steps_6 (IntKind.wrap .i64 (leaps_7 + 1)) (IntKind.wrap .i64 (i_9 + 1)) s0
 else if LT.lt (α := Int) 0 (max (IntKind.wrap .i64 ((max (min (rd T60 s0 (IntKind.wrap .i64 (i_9 - 1))).2.2.1 1000 : Int) (-1000) : Int) - (max (min (rd T60 s0 i_9).2.2.1 1000 : Int) (-1000) : Int))) (IntKind.wrap .i64 ((max (min (rd T60 s0 i_9).2.2.1 1000 : Int) (-1000) : Int) - (max (min (rd T60 s0 (IntKind.wrap .i64 (i_9 - 1))).2.2.1 1000 : Int) (-1000) : Int))) : Int) then
 impl_StepsAndLeaps.l0 k m (IntKind.wrap .i64 (steps_6 + 1)) leaps_7 (IntKind.wrap .i64 (i_9 + 1)) s0
 else impl_StepsAndLeaps.l0 k m steps_6 leaps_7 (IntKind.wrap .i64 (i_9 + 1)) s0 else none else none else none else none
 else some (steps_6, (leaps_7, ())) := by kernel_rfl
theorem impl_VoiceOf_eq (k : Nat) (l_0 : (List DT60)) (voice_1 : Int) : impl_VoiceOf (k + 1) l_0 voice_1 =
 (impl_clone_impl_Event k l_0).bind fun r1 =>
 (slices_DeleteFunc_impl_Event_81 k r1 voice_1).bind fun r2 =>
 some r2 := by kernel_rfl
theorem impl_CountVoices_eq (k : Nat) (l_0 : (List DT60)) : impl_CountVoices (k + 1) l_0 =
 impl_CountVoices.l0 k k l_0 ((List.length l_0 : Nat) : Int) 0 [] := by kernel_rfl
theorem impl_CountVoices.l0_eq (k m : Nat) (t_7 : (List DT60)) (t_8 : Int) (t_9 : Int) (s0 : (List Int)) : impl_CountVoices.l0 k (m + 1) t_7 t_8 t_9 s0 =
 if (t_9 : Int) < t_8 then
 if 0 ≤ t_9 then
 if t_9 < ((List.length t_7 : Nat) : Int) then
 (slices_Contains___int_int k s0 (rd T60 t_7 t_9).2.2.2.1).bind fun r1 =>
 if ¬ (r1 = true) then
 if (List.length s0 + List.length ([(rd T60 t_7 t_9).2.2.2.1] : (List Int))) * 8 ≤ 211106232532992 then
 impl_CountVoices.l0 k m t_7 t_8 (IntKind.wrap .i64 (t_9 + 1)) (s0 ++ ([(rd T60 t_7 t_9).2.2.2.1] : (List Int))) else none
 else impl_CountVoices.l0 k m t_7 t_8 (IntKind.wrap .i64 (t_9 + 1)) s0 else none else none
 else some ((List.length s0 : Nat) : Int) := by kernel_rfl
theorem spec_DrawChordsIn_eq (k : Nat) (code_0 : (List Int)) : spec_DrawChordsIn (k + 1) code_0 =
 (spec_l1New k code_0).bind fun r1 =>
 (spec_l1Once k r1 5).bind fun r2 =>
 if r2.1 = true then
 (spec_l8Any k r2.2).bind fun r3 =>
 some r3.1
 else (spec_l37Chords k r2.2).bind fun r4 =>
 some r4.1 := by kernel_rfl
theorem impl_ChordsIn_eq (k : Nat) (l_0 : (List DT60)) : impl_ChordsIn (k + 1) l_0 =
 impl_ChordsIn.l0 k k l_0 l_0 ((List.length l_0 : Nat) : Int) 0 [] [] := by kernel_rfl
theorem impl_ChordsIn.l0_eq (k m : Nat) (l_0 : (List DT60)) (t_13 : (List DT60)) (t_14 : Int) (t_15 : Int) (s0 : (List DT25)) (s1 : (List Int)) : impl_ChordsIn.l0 k (m + 1) l_0 t_13 t_14 t_15 s0 s1 =
 if (t_15 : Int) < t_14 then
 if 0 ≤ t_15 then
 if t_15 < ((List.length t_13 : Nat) : Int) then
 if (List.length s1 + List.length ([(rd T60 t_13 t_15).1] : (List Int))) * 8 ≤ 211106232532992 then
 impl_ChordsIn.l0 k m l_0 t_13 t_14 (IntKind.wrap .i64 (t_15 + 1)) s0 (s1 ++ ([(rd T60 t_13 t_15).1] : (List Int))) else none else none else none
 else (slices_Sort___int_int k s1).bind fun r1 =>
 (slices_Compact___int_int k r1.2).bind fun r2 =>
 impl_ChordsIn.l1 k k l_0 t_13 t_14 t_15 ((List.length r2 : Nat) : Int) 0 s0 r2 := by kernel_rfl
theorem impl_ChordsIn.l1_eq (k m : Nat) (l_0 : (List DT60)) (t_13 : (List DT60)) (t_14 : Int) (t_15 : Int) (t_29 : Int) (t_30 : Int) (s0 : (List DT25)) (s1 : (List Int)) : impl_ChordsIn.l1 k (m + 1) l_0 t_13 t_14 t_15 t_29 t_30 s0 s1 =
 if (t_30 : Int) < t_29 then
 if 0 ≤ t_30 then
 if t_30 < ((List.length s1 : Nat) : Int) then
 (impl_ChordAt k l_0 (rd (.int .i64) s1 t_30)).bind fun r3 =>
 if r3.2.1 = true then
 if (((List.length s0 : Nat) : Int) : Int) = 0 then
 if (List.length s0 + List.length ([r3.1] : (List DT25))) * 16 ≤ 211106232532992 then
 impl_ChordsIn.l1 k m l_0 t_13 t_14 t_15 t_29 (IntKind.wrap .i64 (t_30 + 1)) (s0 ++ ([r3.1] : (List DT25))) s1 else none
 else if 0 ≤ (IntKind.wrap .i64 (((List.length s0 : Nat) : Int) - 1)) then
 if (IntKind.wrap .i64 (((List.length s0 : Nat) : Int) - 1)) < ((List.length s0 : Nat) : Int) then
 if ¬ ((((rd T25 s0 (IntKind.wrap .i64 (((List.length s0 : Nat) : Int) - 1))).1 : Int) = r3.1.1) ∧ (((rd T25 s0 (IntKind.wrap .i64 (((List.length s0 : Nat) : Int) - 1))).2.1 : Int) = r3.1.2.1)) then
 if (List.length s0 + List.length ([r3.1] : (List DT25))) * 16 ≤ 211106232532992 then
 impl_ChordsIn.l1 k m l_0 t_13 t_14 t_15 t_29 (IntKind.wrap .i64 (t_30 + 1)) (s0 ++ ([r3.1] : (List DT25))) s1 else none
 else impl_ChordsIn.l1 k m l_0 t_13 t_14 t_15 t_29 (IntKind.wrap .i64 (t_30 + 1)) s0 s1 else none else none
 else impl_ChordsIn.l1 k m l_0 t_13 t_14 t_15 t_29 (IntKind.wrap .i64 (t_30 + 1)) s0 s1 else none else none
 else some s0 := by kernel_rfl
theorem impl_IsChord_eq (k : Nat) (x_0 : DT25) : impl_IsChord (k + 1) x_0 =
 (impl_InRange k x_0.1 0 11).bind fun r1 =>
 if r1 = true then
 (impl_InRange k x_0.2.1 1 5).bind fun r2 =>
 some (decide (r2 = true))
 else some false := by kernel_rfl
theorem spec_DrawBusiestPlayer_eq (k : Nat) (code_0 : (List Int)) : spec_DrawBusiestPlayer (k + 1) code_0 =
 (spec_DrawIsOrchestra k code_0).bind fun r1 =>
 some r1 := by kernel_rfl
theorem impl_BusiestPlayer_eq (k : Nat) (o_0 : DT32) : impl_BusiestPlayer (k + 1) o_0 =
 impl_BusiestPlayer.l0 k k 0 (-1) o_0.2.2.2.2.1 ((List.length o_0.2.2.2.2.1 : Nat) : Int) 0 o_0.1 o_0.2.1.1 o_0.2.1.2.1 o_0.2.2.1 o_0.2.2.2.1 o_0.2.2.2.2.1 o_0.2.2.2.2.2.1 o_0.2.2.2.2.2.2.1 o_0.2.2.2.2.2.2.2.1 o_0.2.2.2.2.2.2.2.2.1 := by kernel_rfl
theorem impl_BusiestPlayer.l0_eq (k m : Nat) (best_3 : Int) (most_4 : Int) (t_9 : (List Int)) (t_10 : Int) (t_11 : Int) (b0_0 : (List DT60)) (b0_1 : Int) (b0_2 : Int) (b0_3 : (List DT25)) (b0_4 : (List DT93)) (b0_5 : (List Int)) (b0_6 : (List DT110)) (b0_7 : (List DT25)) (b0_8 : Int) (b0_9 : Int) : impl_BusiestPlayer.l0 k (m + 1) best_3 most_4 t_9 t_10 t_11 b0_0 b0_1 b0_2 b0_3 b0_4 b0_5 b0_6 b0_7 b0_8 b0_9 =
 if (t_11 : Int) < t_10 then
 if 0 ≤ t_11 then
 if t_11 < ((List.length t_9 : Nat) : Int) then
 (impl_VoiceOf k b0_0 (IntKind.wrap .i64 (t_11 + 1))).bind fun r1 =>
 if (most_4 : Int) < ((List.length r1 : Nat) : Int) then
 impl_BusiestPlayer.l0 k m (rd (.int .i64) t_9 t_11) ((List.length r1 : Nat) : Int) t_9 t_10 (IntKind.wrap .i64 (t_11 + 1)) b0_0 b0_1 b0_2 b0_3 b0_4 b0_5 b0_6 b0_7 b0_8 b0_9
 else impl_BusiestPlayer.l0 k m best_3 most_4 t_9 t_10 (IntKind.wrap .i64 (t_11 + 1)) b0_0 b0_1 b0_2 b0_3 b0_4 b0_5 b0_6 b0_7 b0_8 b0_9 else none else none
 else some best_3 := by kernel_rfl
theorem laws_contains_eq (k : Nat) (l_0 : (List Int)) (n_1 : Int) : laws_contains (k + 1) l_0 n_1 =
 laws_contains.l0 k k l_0 n_1 0 := by kernel_rfl
theorem laws_contains.l0_eq (k m : Nat) (l_0 : (List Int)) (n_1 : Int) (i_5 : Int) : laws_contains.l0 k (m + 1) l_0 n_1 i_5 =
 if (i_5 : Int) < ((List.length l_0 : Nat) : Int) then
 if 0 ≤ i_5 then
 if i_5 < ((List.length l_0 : Nat) : Int) then
 if Eq (α := Int) (rd (.int .i64) l_0 i_5) n_1 then
 some true
 else laws_contains.l0 k m l_0 n_1 (IntKind.wrap .i64 (i_5 + 1)) else none else none
 else some false := by kernel_rfl
theorem impl_IsMeter_eq (k : Nat) (m_0 : DT25) : impl_IsMeter (k + 1) m_0 =
 (impl_InRange k m_0.1 1 12).bind fun r1 =>
 if r1 = true then
 if (m_0.2.1 : Int) = 1 then
 some true
 else if (m_0.2.1 : Int) = 2 then
 some true
 else if (m_0.2.1 : Int) = 4 then
 some true
 else some (decide ((m_0.2.1 : Int) = 8))
 else some false := by kernel_rfl
theorem impl_IsTempo_eq (k : Nat) (l_0 : (List DT25)) : impl_IsTempo (k + 1) l_0 =
 impl_IsTempo.l0 k k l_0 l_0 ((List.length l_0 : Nat) : Int) 0 := by kernel_rfl
theorem impl_IsTempo.l0_eq (k m : Nat) (l_0 : (List DT25)) (t_5 : (List DT25)) (t_6 : Int) (t_7 : Int) : impl_IsTempo.l0 k (m + 1) l_0 t_5 t_6 t_7 =
 if (t_7 : Int) < t_6 then
 if 0 ≤ t_7 then
 if t_7 < ((List.length t_5 : Nat) : Int) then
 if (t_7 : Int) = 0 then
 if Ne (α := Int) (rd T25 t_5 t_7).1 0 then
 some false
 else if (0 : Int) < t_7 then
 if 0 ≤ (IntKind.wrap .i64 (t_7 - 1)) then
 if (IntKind.wrap .i64 (t_7 - 1)) < ((List.length l_0 : Nat) : Int) then
 if LE.le (α := Int) (rd T25 t_5 t_7).1 (rd T25 l_0 (IntKind.wrap .i64 (t_7 - 1))).1 then
 some false
 else if LT.lt (α := Int) 2000 (rd T25 t_5 t_7).1 then
 some false
 else (impl_InRange k (rd T25 t_5 t_7).2.1 20 300).bind fun r1 =>
 if ¬ (r1 = true) then
 some false
 else impl_IsTempo.l0 k m l_0 t_5 t_6 (IntKind.wrap .i64 (t_7 + 1)) else none else none
 else if LT.lt (α := Int) 2000 (rd T25 t_5 t_7).1 then
 some false
 else (impl_InRange k (rd T25 t_5 t_7).2.1 20 300).bind fun r2 =>
 if ¬ (r2 = true) then
 some false
 else impl_IsTempo.l0 k m l_0 t_5 t_6 (IntKind.wrap .i64 (t_7 + 1))
 else if (0 : Int) < t_7 then
 if 0 ≤ (IntKind.wrap .i64 (t_7 - 1)) then
 if (IntKind.wrap .i64 (t_7 - 1)) < ((List.length l_0 : Nat) : Int) then
 if LE.le (α := Int) (rd T25 t_5 t_7).1 (rd T25 l_0 (IntKind.wrap .i64 (t_7 - 1))).1 then
 some false
 else if LT.lt (α := Int) 2000 (rd T25 t_5 t_7).1 then
 some false
 else (impl_InRange k (rd T25 t_5 t_7).2.1 20 300).bind fun r3 =>
 if ¬ (r3 = true) then
 some false
 else impl_IsTempo.l0 k m l_0 t_5 t_6 (IntKind.wrap .i64 (t_7 + 1)) else none else none
 else if LT.lt (α := Int) 2000 (rd T25 t_5 t_7).1 then
 some false
 else (impl_InRange k (rd T25 t_5 t_7).2.1 20 300).bind fun r4 =>
 if ¬ (r4 = true) then
 some false
 else impl_IsTempo.l0 k m l_0 t_5 t_6 (IntKind.wrap .i64 (t_7 + 1)) else none else none
 else (impl_InRange k ((List.length l_0 : Nat) : Int) 1 8).bind fun r5 =>
 some (decide (r5 = true)) := by kernel_rfl
theorem impl_AreMarks_eq (k : Nat) (l_0 : (List DT110)) : impl_AreMarks (k + 1) l_0 =
 impl_AreMarks.l0 k k l_0 l_0 ((List.length l_0 : Nat) : Int) 0 := by kernel_rfl
theorem impl_AreMarks.l0_eq (k m : Nat) (l_0 : (List DT110)) (t_5 : (List DT110)) (t_6 : Int) (t_7 : Int) : impl_AreMarks.l0 k (m + 1) l_0 t_5 t_6 t_7 =
 if (t_7 : Int) < t_6 then
 if 0 ≤ t_7 then
 if t_7 < ((List.length t_5 : Nat) : Int) then
 (impl_InRange k (rd T110 t_5 t_7).1 1 100).bind fun r1 =>
 if ¬ (r1 = true) then
 some false
 else (impl_InRange k (rd T110 t_5 t_7).2.1 1 4).bind fun r2 =>
 if ¬ (r2 = true) then
 some false
 else (impl_InRange k (rd T110 t_5 t_7).2.2.1 0 9).bind fun r3 =>
 if ¬ (r3 = true) then
 some false
 else (impl_InRange k (rd T110 t_5 t_7).2.2.2.1 0 100000).bind fun r4 =>
 if ¬ (r4 = true) then
 some false
 else (impl_InRange k (rd T110 t_5 t_7).2.2.2.2.1 1 99).bind fun r5 =>
 if ¬ (r5 = true) then
 some false
 else if (0 : Int) < t_7 then
 if 0 ≤ (IntKind.wrap .i64 (t_7 - 1)) then
 if (IntKind.wrap .i64 (t_7 - 1)) < ((List.length l_0 : Nat) : Int) then
 (impl_markOrder k (rd T110 l_0 (IntKind.wrap .i64 (t_7 - 1))) (rd T110 t_5 t_7)).bind fun r6 =>
 if (0 : Int) ≤ r6 then
 some false
 else impl_AreMarks.l0 k m l_0 t_5 t_6 (IntKind.wrap .i64 (t_7 + 1)) else none else none
 else impl_AreMarks.l0 k m l_0 t_5 t_6 (IntKind.wrap .i64 (t_7 + 1)) else none else none
 else some (decide ((((List.length l_0 : Nat) : Int) : Int) ≤ 30)) := by kernel_rfl
theorem impl_AreLetters_eq (k : Nat) (l_0 : (List DT25)) : impl_AreLetters (k + 1) l_0 =
 impl_AreLetters.l0 k k l_0 l_0 ((List.length l_0 : Nat) : Int) 0 := by kernel_rfl
theorem impl_AreLetters.l0_eq (k m : Nat) (l_0 : (List DT25)) (t_5 : (List DT25)) (t_6 : Int) (t_7 : Int) : impl_AreLetters.l0 k (m + 1) l_0 t_5 t_6 t_7 =
 if (t_7 : Int) < t_6 then
 if 0 ≤ t_7 then
 if t_7 < ((List.length t_5 : Nat) : Int) then
 if Ne (α := Int) (rd T25 t_5 t_7).1 t_7 then
 some false
 else (impl_InRange k (rd T25 t_5 t_7).2.1 1 500).bind fun r1 =>
 if ¬ (r1 = true) then
 some false
 else if (0 : Int) < t_7 then
 if 0 ≤ (IntKind.wrap .i64 (t_7 - 1)) then
 if (IntKind.wrap .i64 (t_7 - 1)) < ((List.length l_0 : Nat) : Int) then
 if LE.le (α := Int) (rd T25 t_5 t_7).2.1 (rd T25 l_0 (IntKind.wrap .i64 (t_7 - 1))).2.1 then
 some false
 else impl_AreLetters.l0 k m l_0 t_5 t_6 (IntKind.wrap .i64 (t_7 + 1)) else none else none
 else impl_AreLetters.l0 k m l_0 t_5 t_6 (IntKind.wrap .i64 (t_7 + 1)) else none else none
 else some (decide ((((List.length l_0 : Nat) : Int) : Int) ≤ 26)) := by kernel_rfl
theorem impl_IsSeating_eq (k : Nat) (l_0 : (List DT93)) (score_1 : (List DT60)) (seats_2 : (List Int)) : impl_IsSeating (k + 1) l_0 score_1 seats_2 =
 (impl_ArePlayers k l_0).bind fun r1 =>
 if ¬ (r1 = true) then
 some false
 else (impl_IsScore k score_1).bind fun r2 =>
 if ¬ (r2 = true) then
 some false
 else if (4 : Int) < ((List.length seats_2 : Nat) : Int) then
 some false
 else impl_IsSeating.l0 k k l_0 seats_2 seats_2 ((List.length seats_2 : Nat) : Int) 0 score_1 := by kernel_rfl
theorem impl_IsSeating.l0_eq (k m : Nat) (l_0 : (List DT93)) (seats_2 : (List Int)) (t_22 : (List Int)) (t_23 : Int) (t_24 : Int) (b0_0 : (List DT60)) : impl_IsSeating.l0 k (m + 1) l_0 seats_2 t_22 t_23 t_24 b0_0 =
 if (t_24 : Int) < t_23 then
 if 0 ≤ t_24 then
 if t_24 < ((List.length t_22 : Nat) : Int) then
 if 0 ≤ t_24 then
 if t_24 ≤ ((List.length seats_2 : Nat) : Int) then
 (slices_Contains___int_int k (List.take ((Int.toNat t_24) - (Int.toNat 0)) (List.drop (Int.toNat 0) seats_2)) (rd (.int .i64) t_22 t_24)).bind fun r3 =>
 if r3 = true then
 some false
 else (slices_ContainsFunc_impl_Player_90 k l_0 (rd (.int .i64) t_22 t_24) b0_0 t_24).bind fun r4 =>
 if ¬ (r4 = true) then
 some false
 else impl_IsSeating.l0 k m l_0 seats_2 t_22 t_23 (IntKind.wrap .i64 (t_24 + 1)) b0_0 else none else none else none else none
 else some true := by kernel_rfl
theorem impl_InRange_eq (k : Nat) (n_0 : Int) (low_1 : Int) (high_2 : Int) : impl_InRange (k + 1) n_0 low_1 high_2 =
 if (low_1 : Int) ≤ n_0 then
 some (decide ((n_0 : Int) ≤ high_2))
 else some false := by kernel_rfl
theorem spec_DrawIsScore_eq (k : Nat) (code_0 : (List Int)) : spec_DrawIsScore (k + 1) code_0 =
 (spec_l1New k code_0).bind fun r1 =>
 (spec_l8Any k r1).bind fun r2 =>
 some r2.1 := by kernel_rfl
theorem impl_eventOrder_eq (k : Nat) (a_0 : DT60) (b_1 : DT60) : impl_eventOrder (k + 1) a_0 b_1 =
 (cmp_Compare_int k a_0.1 b_1.1).bind fun r1 =>
 (cmp_Compare_int k a_0.2.2.2.1 b_1.2.2.2.1).bind fun r2 =>
 (cmp_Compare_int k a_0.2.2.1 b_1.2.2.1).bind fun r3 =>
 (cmp_Or_int k ([r1, r2, r3])).bind fun r4 =>
 some r4 := by kernel_rfl
theorem impl_Event__sounds_eq (k : Nat) (e_0 : DT60) (tick_1 : Int) : impl_Event__sounds (k + 1) e_0 tick_1 =
 if (e_0.1 : Int) ≤ tick_1 then
 some (decide ((tick_1 : Int) < (IntKind.wrap .i64 (e_0.1 + e_0.2.1))))
 else some false := by kernel_rfl
theorem slices_Sort___int_int_eq (k : Nat) (x_0 : (List Int)) : slices_Sort___int_int (k + 1) x_0 = primSort (.pair .unit (.list (.int .i64))) [.lend (.list (.int .i64)) x_0] := by kernel_rfl
theorem slices_Compact___int_int_eq (k : Nat) (s_0 : (List Int)) : slices_Compact___int_int (k + 1) s_0 =
 if (((List.length s_0 : Nat) : Int) : Int) < 2 then
 some s_0
 else slices_Compact___int_int.l0 k k 1 s_0 := by kernel_rfl
theorem slices_Compact___int_int.l0_eq (k m : Nat) (k_3 : Int) (s0 : (List Int)) : slices_Compact___int_int.l0 k (m + 1) k_3 s0 =
 if (k_3 : Int) < ((List.length s0 : Nat) : Int) then
 if 0 ≤ k_3 then
 if k_3 < ((List.length s0 : Nat) : Int) then
 if 0 ≤ (IntKind.wrap .i64 (k_3 - 1)) then
 if (IntKind.wrap .i64 (k_3 - 1)) < ((List.length s0 : Nat) : Int) then
 if Eq (α := Int) (rd (.int .i64) s0 k_3) (rd (.int .i64) s0 (IntKind.wrap .i64 (k_3 - 1))) then
 if 0 ≤ k_3 then
 if k_3 ≤ ((List.length s0 : Nat) : Int) then
 slices_Compact___int_int.l1 k k m k_3 (Int.toNat k_3) ((Int.toNat ((List.length s0 : Nat) : Int)) - (Int.toNat k_3)) 1 s0 else none else none
 else slices_Compact___int_int.l0 k m (IntKind.wrap .i64 (k_3 + 1)) s0 else none else none else none else none
 else some s0 := by kernel_rfl
theorem slices_Compact___int_int.l1_eq (k m m1 : Nat) (k_3 : Int) (s2_4_o : Nat) (s2_4_n : Nat) (k2_5 : Int) (s0 : (List Int)) : slices_Compact___int_int.l1 k (m + 1) m1 k_3 s2_4_o s2_4_n k2_5 s0 =
 if (k2_5 : Int) < ((s2_4_n : Nat) : Int) then
 if 0 ≤ k2_5 then
 if k2_5 < ((s2_4_n : Nat) : Int) then
 if 0 ≤ (IntKind.wrap .i64 (k2_5 - 1)) then
 if (IntKind.wrap .i64 (k2_5 - 1)) < ((s2_4_n : Nat) : Int) then
 if Ne (α := Int) (rd (.int .i64) s0 ((s2_4_o + Int.toNat k2_5 : Nat) : Int)) (rd (.int .i64) s0 ((s2_4_o + Int.toNat (IntKind.wrap .i64 (k2_5 - 1)) : Nat) : Int)) then
 if 0 ≤ k2_5 then
 if k2_5 < ((s2_4_n : Nat) : Int) then
 if 0 ≤ k_3 then
 if k_3 < ((List.length s0 : Nat) : Int) then
 slices_Compact___int_int.l1 k m m1 (IntKind.wrap .i64 (k_3 + 1)) s2_4_o s2_4_n (IntKind.wrap .i64 (k2_5 + 1)) (List.set s0 (Int.toNat k_3) (rd (.int .i64) s0 ((s2_4_o + Int.toNat k2_5 : Nat) : Int))) else none else none else none else none
 else slices_Compact___int_int.l1 k m m1 k_3 s2_4_o s2_4_n (IntKind.wrap .i64 (k2_5 + 1)) s0 else none else none else none else none
 else if 0 ≤ k_3 then
 if k_3 ≤ ((List.length s0 : Nat) : Int) then
 if 0 ≤ k_3 then
 if k_3 ≤ ((List.length (List.take (Int.toNat k_3) s0 ++ List.replicate ((Int.toNat ((List.length s0 : Nat) : Int)) - (Int.toNat k_3)) (Ty.dflt (.int .i64)) ++ List.drop ((Int.toNat k_3) + ((Int.toNat ((List.length s0 : Nat) : Int)) - (Int.toNat k_3))) s0) : Nat) : Int) then
 some (List.take ((Int.toNat k_3) - (Int.toNat 0)) (List.drop (Int.toNat 0) (List.take (Int.toNat k_3) s0 ++ List.replicate ((Int.toNat ((List.length s0 : Nat) : Int)) - (Int.toNat k_3)) (Ty.dflt (.int .i64)) ++ List.drop ((Int.toNat k_3) + ((Int.toNat ((List.length s0 : Nat) : Int)) - (Int.toNat k_3))) s0))) else none else none else none else none := by kernel_rfl
theorem spec_DrawIsPart_eq (k : Nat) (code_0 : (List Int)) : spec_DrawIsPart (k + 1) code_0 =
 (spec_l1New k code_0).bind fun r1 =>
 (spec_l13Part k r1).bind fun r2 =>
 some r2.1 := by kernel_rfl
theorem impl_IsPart_eq (k : Nat) (p_0 : (List DT100)) : impl_IsPart (k + 1) p_0 =
 impl_IsPart.l0 k k p_0 0 p_0 ((List.length p_0 : Nat) : Int) 0 := by kernel_rfl
theorem impl_IsPart.l0_eq (k m : Nat) (p_0 : (List DT100)) (at_3 : Int) (t_7 : (List DT100)) (t_8 : Int) (t_9 : Int) : impl_IsPart.l0 k (m + 1) p_0 at_3 t_7 t_8 t_9 =
 if (t_9 : Int) < t_8 then
 if 0 ≤ t_9 then
 if t_9 < ((List.length t_7 : Nat) : Int) then
 if Ne (α := Int) (rd T100 t_7 t_9).1 at_3 then
 some false
 else (impl_InRange k (rd T100 t_7 t_9).2.1 1 3000).bind fun r1 =>
 if ¬ (r1 = true) then
 some false
 else if ¬ (Eq (α := Int) (rd T100 t_7 t_9).2.2.1 0) then
 (impl_InRange k (rd T100 t_7 t_9).2.2.1 21 108).bind fun r2 =>
 if ¬ (r2 = true) then
 some false
 else if LT.lt (α := Int) 96 (rd T100 t_7 t_9).2.1 then
 some false
 else if Eq (α := Int) (rd T100 t_7 t_9).2.2.1 0 then
 if (0 : Int) < t_9 then
 if 0 ≤ (IntKind.wrap .i64 (t_9 - 1)) then
 if (IntKind.wrap .i64 (t_9 - 1)) < ((List.length p_0 : Nat) : Int) then
 if Eq (α := Int) (rd T100 p_0 (IntKind.wrap .i64 (t_9 - 1))).2.2.1 0 then
 some false
 else impl_IsPart.l0 k m p_0 (IntKind.wrap .i64 (at_3 + (rd T100 t_7 t_9).2.1)) t_7 t_8 (IntKind.wrap .i64 (t_9 + 1)) else none else none
 else impl_IsPart.l0 k m p_0 (IntKind.wrap .i64 (at_3 + (rd T100 t_7 t_9).2.1)) t_7 t_8 (IntKind.wrap .i64 (t_9 + 1))
 else impl_IsPart.l0 k m p_0 (IntKind.wrap .i64 (at_3 + (rd T100 t_7 t_9).2.1)) t_7 t_8 (IntKind.wrap .i64 (t_9 + 1))
 else if Eq (α := Int) (rd T100 t_7 t_9).2.2.1 0 then
 if (0 : Int) < t_9 then
 if 0 ≤ (IntKind.wrap .i64 (t_9 - 1)) then
 if (IntKind.wrap .i64 (t_9 - 1)) < ((List.length p_0 : Nat) : Int) then
 if Eq (α := Int) (rd T100 p_0 (IntKind.wrap .i64 (t_9 - 1))).2.2.1 0 then
 some false
 else impl_IsPart.l0 k m p_0 (IntKind.wrap .i64 (at_3 + (rd T100 t_7 t_9).2.1)) t_7 t_8 (IntKind.wrap .i64 (t_9 + 1)) else none else none
 else impl_IsPart.l0 k m p_0 (IntKind.wrap .i64 (at_3 + (rd T100 t_7 t_9).2.1)) t_7 t_8 (IntKind.wrap .i64 (t_9 + 1))
 else impl_IsPart.l0 k m p_0 (IntKind.wrap .i64 (at_3 + (rd T100 t_7 t_9).2.1)) t_7 t_8 (IntKind.wrap .i64 (t_9 + 1)) else none else none
 else some true := by kernel_rfl
theorem spec_DrawVoiceOf_eq (k : Nat) (code_0 : (List Int)) : spec_DrawVoiceOf (k + 1) code_0 =
 (spec_l1New k code_0).bind fun r1 =>
 (spec_l8Any k r1).bind fun r2 =>
 (spec_l1Below k r2.2 6).bind fun r3 =>
 some (r2.1, (r3.1, ())) := by kernel_rfl
theorem impl_clone_impl_Event_eq (k : Nat) (l_0 : (List DT60)) : impl_clone_impl_Event (k + 1) l_0 =
 if (List.length ([] : (List DT60)) + List.length l_0) * 32 ≤ 211106232532992 then
 some (([] : (List DT60)) ++ l_0) else none := by kernel_rfl
theorem slices_DeleteFunc_impl_Event_81_eq (k : Nat) (s_0 : (List DT60)) (c1_0 : Int) : slices_DeleteFunc_impl_Event_81 (k + 1) s_0 c1_0 =
 (slices_IndexFunc_impl_Event_81 k s_0 c1_0).bind fun r1 =>
 if (r1 : Int) = (-1) then
 some s_0
 else slices_DeleteFunc_impl_Event_81.l0 k k c1_0 r1 (IntKind.wrap .i64 (r1 + 1)) s_0 := by kernel_rfl
theorem slices_DeleteFunc_impl_Event_81.l0_eq (k m : Nat) (del_1_c : Int) (i_5 : Int) (j_6 : Int) (s0 : (List DT60)) : slices_DeleteFunc_impl_Event_81.l0 k (m + 1) del_1_c i_5 j_6 s0 =
 if (j_6 : Int) < ((List.length s0 : Nat) : Int) then
 if 0 ≤ j_6 then
 if j_6 < ((List.length s0 : Nat) : Int) then
 (impl_VoiceOf_1 k (rd T60 s0 j_6) del_1_c).bind fun r2 =>
 if ¬ (r2 = true) then
 if 0 ≤ i_5 then
 if i_5 < ((List.length s0 : Nat) : Int) then
 slices_DeleteFunc_impl_Event_81.l0 k m del_1_c (IntKind.wrap .i64 (i_5 + 1)) (IntKind.wrap .i64 (j_6 + 1)) (List.set s0 (Int.toNat i_5) (rd T60 s0 j_6)) else none else none
 else slices_DeleteFunc_impl_Event_81.l0 k m del_1_c i_5 (IntKind.wrap .i64 (j_6 + 1)) s0 else none else none
 else if 0 ≤ i_5 then
 if i_5 ≤ ((List.length s0 : Nat) : Int) then
 if 0 ≤ i_5 then
 if i_5 ≤ ((List.length (List.take (Int.toNat i_5) s0 ++ List.replicate ((Int.toNat ((List.length s0 : Nat) : Int)) - (Int.toNat i_5)) (Ty.dflt T60) ++ List.drop ((Int.toNat i_5) + ((Int.toNat ((List.length s0 : Nat) : Int)) - (Int.toNat i_5))) s0) : Nat) : Int) then
 some (List.take ((Int.toNat i_5) - (Int.toNat 0)) (List.drop (Int.toNat 0) (List.take (Int.toNat i_5) s0 ++ List.replicate ((Int.toNat ((List.length s0 : Nat) : Int)) - (Int.toNat i_5)) (Ty.dflt T60) ++ List.drop ((Int.toNat i_5) + ((Int.toNat ((List.length s0 : Nat) : Int)) - (Int.toNat i_5))) s0))) else none else none else none else none := by kernel_rfl
theorem slices_Contains___int_int_eq (k : Nat) (s_0 : (List Int)) (v_1 : Int) : slices_Contains___int_int (k + 1) s_0 v_1 =
 (slices_Index___int_int k s_0 v_1).bind fun r1 =>
 some (decide ((0 : Int) ≤ r1)) := by kernel_rfl
theorem spec_l1New_eq (k : Nat) (code_0 : (List Int)) : spec_l1New (k + 1) code_0 =
 spec_l1New.l0 k k code_0 (IntKind.wrap .i64 (193017 + ((List.length code_0 : Nat) : Int))) 0 := by kernel_rfl
theorem spec_l1New.l0_eq (k m : Nat) (code_0 : (List Int)) (h_3 : Int) (i_4 : Int) : spec_l1New.l0 k (m + 1) code_0 h_3 i_4 =
 if (i_4 : Int) < ((List.length code_0 : Nat) : Int) then
 if (i_4 : Int) < 4000 then
 if 0 ≤ i_4 then
 if i_4 < ((List.length code_0 : Nat) : Int) then
 spec_l1New.l0 k m code_0 (IntKind.wrap .i64 (((BitVec.ofInt (IntKind.bits .i64) (IntKind.wrap .i64 ((IntKind.wrap .i64 ((IntKind.wrap .i64 (h_3 * 137)) + (IntKind.wrap .i64 ((rd (.int .u8) code_0 i_4))))) + 11)) &&& BitVec.ofInt (IntKind.bits .i64) 1073741823).toNat : Nat))) (IntKind.wrap .i64 (i_4 + 1)) else none else none
 else some (code_0, (0, (h_3, ())))
 else some (code_0, (0, (h_3, ()))) := by kernel_rfl
theorem spec_l1Once_eq (k : Nat) (c_0 : DT134) (n_1 : Int) : spec_l1Once (k + 1) c_0 n_1 =
 (spec_l1Below k c_0 n_1).bind fun r1 =>
 some (decide ((r1.1 : Int) = 0), r1.2) := by kernel_rfl
theorem spec_l8Any_eq (k : Nat) (c_0 : DT134) : spec_l8Any (k + 1) c_0 =
 (spec_l8Draw k c_0).bind fun r1 =>
 if (((List.length r1.1 : Nat) : Int) : Int) = 0 then
 some (r1.1, r1.2)
 else (spec_l1Below k r1.2 ((List.length r1.1 : Nat) : Int)).bind fun r2 =>
 (spec_l1Below k r2.2 9).bind fun r3 =>
 if (r3.1 : Int) = 0 then
 (spec_l1Int k r3.2 ([(-1), 2000, 2001])).bind fun r4 =>
 if 0 ≤ r2.1 then
 if r2.1 < ((List.length r1.1 : Nat) : Int) then
 some ((setAt T60 r1.1 r2.1 (fun yy => (r4.1, yy.2))), r4.2) else none else none
 else if (r3.1 : Int) = 1 then
 (spec_l1Int k r3.2 ([0, 96, 97])).bind fun r5 =>
 if 0 ≤ r2.1 then
 if r2.1 < ((List.length r1.1 : Nat) : Int) then
 some ((setAt T60 r1.1 r2.1 (fun yy => (yy.1, (r5.1, yy.2.2)))), r5.2) else none else none
 else if (r3.1 : Int) = 2 then
 (spec_l1Int k r3.2 ([20, 108, 109])).bind fun r6 =>
 if 0 ≤ r2.1 then
 if r2.1 < ((List.length r1.1 : Nat) : Int) then
 some ((setAt T60 r1.1 r2.1 (fun yy => (yy.1, (yy.2.1, (r6.1, yy.2.2.2))))), r6.2) else none else none
 else if (r3.1 : Int) = 3 then
 (spec_l1Int k r3.2 ([0, 4, 5])).bind fun r7 =>
 if 0 ≤ r2.1 then
 if r2.1 < ((List.length r1.1 : Nat) : Int) then
 some ((setAt T60 r1.1 r2.1 (fun yy => (yy.1, (yy.2.1, (yy.2.2.1, (r7.1, ())))))), r7.2) else none else none
 else if (r3.1 : Int) = 4 then
 if 0 ≤ 0 then
 if 0 < ((List.length r1.1 : Nat) : Int) then
 if (List.length r1.1 + List.length ([(rd T60 r1.1 0)] : (List DT60))) * 32 ≤ 211106232532992 then
 some ((r1.1 ++ ([(rd T60 r1.1 0)] : (List DT60))), r3.2) else none else none else none
 else some (r1.1, r3.2) := by kernel_rfl
theorem spec_l37Chords_eq (k : Nat) (c_0 : DT134) : spec_l37Chords (k + 1) c_0 =
 (spec_l7Key k c_0).bind fun r1 =>
 spec_l37Chords.l0 k k r1.1 0 r1.2.1 r1.2.2.1 r1.2.2.2.1 [] := by kernel_rfl
theorem spec_l37Chords.l0_eq (k m : Nat) (k_4 : Int) (i_5 : Int) (b0_0 : (List Int)) (b0_1 : Int) (b0_2 : Int) (s1 : (List DT60)) : spec_l37Chords.l0 k (m + 1) k_4 i_5 b0_0 b0_1 b0_2 s1 =
 (spec_l1Below k (b0_0, (b0_1, (b0_2, ()))) 4).bind fun r2 =>
 if (i_5 : Int) < (IntKind.wrap .i64 (1 + r2.1)) then
 (spec_l23Chord k r2.2 k_4).bind fun r3 =>
 (spec_TonesOf k r3.1).bind fun r4 =>
 spec_l37Chords.l1 k k m k_4 i_5 0 r3.2.1 r3.2.2.1 r3.2.2.2.1 s1 r4
 else some (s1, r2.2) := by kernel_rfl
theorem spec_l37Chords.l1_eq (k m m1 : Nat) (k_4 : Int) (i_5 : Int) (v_7 : Int) (b0_0 : (List Int)) (b0_1 : Int) (b0_2 : Int) (s1 : (List DT60)) (s2 : (List Int)) : spec_l37Chords.l1 k (m + 1) m1 k_4 i_5 v_7 b0_0 b0_1 b0_2 s1 s2 =
 if (v_7 : Int) < ((List.length s2 : Nat) : Int) then
 if (v_7 : Int) < 4 then
 if 0 ≤ v_7 then
 if v_7 < ((List.length s2 : Nat) : Int) then
 (spec_PutEvent k s1 (IntKind.wrap .i64 (24 * i_5), (24, (IntKind.wrap .i64 (60 + (rd (.int .i64) s2 v_7)), (IntKind.wrap .i64 (v_7 + 1), ()))))).bind fun r5 =>
 spec_l37Chords.l1 k m m1 k_4 i_5 (IntKind.wrap .i64 (v_7 + 1)) b0_0 b0_1 b0_2 r5.1 s2 else none else none
 else spec_l37Chords.l0 k m1 k_4 (IntKind.wrap .i64 (i_5 + 1)) b0_0 b0_1 b0_2 s1
 else spec_l37Chords.l0 k m1 k_4 (IntKind.wrap .i64 (i_5 + 1)) b0_0 b0_1 b0_2 s1 := by kernel_rfl
theorem impl_ChordAt_eq (k : Nat) (l_0 : (List DT60)) (tick_1 : Int) : impl_ChordAt (k + 1) l_0 tick_1 =
 (impl_SoundsAt k l_0 tick_1).bind fun r1 =>
 (impl_ClassesOf k r1).bind fun r2 =>
 (impl_ChordOf k r2).bind fun r3 =>
 some (r3.1, (decide (r3.2.1 = true), ())) := by kernel_rfl
theorem spec_DrawIsOrchestra_eq (k : Nat) (code_0 : (List Int)) : spec_DrawIsOrchestra (k + 1) code_0 =
 (spec_l1New k code_0).bind fun r1 =>
 (spec_l33Any k r1).bind fun r2 =>
 some r2.1 := by kernel_rfl
theorem impl_markOrder_eq (k : Nat) (a_0 : DT110) (b_1 : DT110) : impl_markOrder (k + 1) a_0 b_1 =
 (cmp_Compare_int k a_0.1 b_1.1).bind fun r1 =>
 (cmp_Compare_int k a_0.2.1 b_1.2.1).bind fun r2 =>
 (cmp_Or_int k ([r1, r2])).bind fun r3 =>
 some r3 := by kernel_rfl
theorem impl_ArePlayers_eq (k : Nat) (l_0 : (List DT93)) : impl_ArePlayers (k + 1) l_0 =
 impl_ArePlayers.l0 k k l_0 l_0 ((List.length l_0 : Nat) : Int) 0 [] := by kernel_rfl
theorem impl_ArePlayers.l0_eq (k m : Nat) (l_0 : (List DT93)) (t_7 : (List DT93)) (t_8 : Int) (t_9 : Int) (s0 : (List Int)) : impl_ArePlayers.l0 k (m + 1) l_0 t_7 t_8 t_9 s0 =
 if (t_9 : Int) < t_8 then
 if 0 ≤ t_9 then
 if t_9 < ((List.length t_7 : Nat) : Int) then
 (impl_InRange k (rd T93 t_7 t_9).2.1 21 (rd T93 t_7 t_9).2.2.1).bind fun r1 =>
 if ¬ (r1 = true) then
 some false
 else if LT.lt (α := Int) 108 (rd T93 t_7 t_9).2.2.1 then
 some false
 else (impl_ascending k (rd T93 t_7 t_9).2.2.2.1 1 4).bind fun r2 =>
 if ¬ (r2 = true) then
 some false
 else if (List.length s0 + List.length ([(rd T93 t_7 t_9).1] : (List Int))) * 8 ≤ 211106232532992 then
 impl_ArePlayers.l0 k m l_0 t_7 t_8 (IntKind.wrap .i64 (t_9 + 1)) (s0 ++ ([(rd T93 t_7 t_9).1] : (List Int))) else none else none else none
 else if (((List.length l_0 : Nat) : Int) : Int) ≤ 8 then
 (impl_ascending k s0 1 99).bind fun r3 =>
 some (decide (r3 = true))
 else some false := by kernel_rfl
theorem slices_ContainsFunc_impl_Player_90_eq (k : Nat) (s_0 : (List DT93)) (c1_0 : Int) (c1_1 : (List DT60)) (c1_2 : Int) : slices_ContainsFunc_impl_Player_90 (k + 1) s_0 c1_0 c1_1 c1_2 =
 (slices_IndexFunc_impl_Player_90 k s_0 c1_0 c1_1 c1_2).bind fun r1 =>
 some (decide ((0 : Int) ≤ r1)) := by kernel_rfl
theorem cmp_Compare_int_eq (k : Nat) (x_0 : Int) (y_1 : Int) : cmp_Compare_int (k + 1) x_0 y_1 =
 (cmp_isNaN_int k x_0).bind fun r1 =>
 (cmp_isNaN_int k y_1).bind fun r2 =>
 if r1 = true then
 if r2 = true then
 some 0
 else some (-1)
 else if r2 = true then
 some 1
 else if (x_0 : Int) < y_1 then
 some (-1)
 else if (y_1 : Int) < x_0 then
 some 1
 else some 0 := by kernel_rfl
theorem cmp_Or_int_eq (k : Nat) (vals_0 : (List Int)) : cmp_Or_int (k + 1) vals_0 =
 cmp_Or_int.l0 k k 0 vals_0 ((List.length vals_0 : Nat) : Int) 0 := by kernel_rfl
theorem cmp_Or_int.l0_eq (k m : Nat) (zero_3 : Int) (t_6 : (List Int)) (t_7 : Int) (t_8 : Int) : cmp_Or_int.l0 k (m + 1) zero_3 t_6 t_7 t_8 =
 if (t_8 : Int) < t_7 then
 if 0 ≤ t_8 then
 if t_8 < ((List.length t_6 : Nat) : Int) then
 if Ne (α := Int) (rd (.int .i64) t_6 t_8) zero_3 then
 some (rd (.int .i64) t_6 t_8)
 else cmp_Or_int.l0 k m zero_3 t_6 t_7 (IntKind.wrap .i64 (t_8 + 1)) else none else none
 else some zero_3 := by kernel_rfl
theorem spec_l13Part_eq (k : Nat) (c_0 : DT134) : spec_l13Part (k + 1) c_0 =
 (spec_l8Tune k c_0 1 9).bind fun r1 =>
 (spec_EndOf k r1.1).bind fun r2 =>
 (spec_l1Below k r1.2 30).bind fun r3 =>
 (spec_PartFrom k r1.1 1 (IntKind.wrap .i64 (r2 + r3.1))).bind fun r4 =>
 if (0 : Int) < ((List.length r4.1 : Nat) : Int) then
 (spec_l1Below k r3.2 ((List.length r4.1 : Nat) : Int)).bind fun r5 =>
 (spec_l1Below k r5.2 9).bind fun r6 =>
 if (r6.1 : Int) = 0 then
 (spec_l4Raw k r6.2).bind fun r7 =>
 if 0 ≤ r5.1 then
 if r5.1 < ((List.length r4.1 : Nat) : Int) then
 some ((setAt T100 r4.1 r5.1 (fun yy => (r7.1, yy.2))), r7.2) else none else none
 else if (r6.1 : Int) = 1 then
 (spec_l1Int k r6.2 ([0, 96, 97, 3000, 3001])).bind fun r8 =>
 if 0 ≤ r5.1 then
 if r5.1 < ((List.length r4.1 : Nat) : Int) then
 some ((setAt T100 r4.1 r5.1 (fun yy => (yy.1, (r8.1, yy.2.2)))), r8.2) else none else none
 else if (r6.1 : Int) = 2 then
 (spec_l1Int k r6.2 ([0, 20, 109])).bind fun r9 =>
 if 0 ≤ r5.1 then
 if r5.1 < ((List.length r4.1 : Nat) : Int) then
 some ((setAt T100 r4.1 r5.1 (fun yy => (yy.1, (yy.2.1, (r9.1, ()))))), r9.2) else none else none
 else some (r4.1, r6.2)
 else some (r4.1, r3.2) := by kernel_rfl
theorem spec_l1Below_eq (k : Nat) (c_0 : DT134) (n_1 : Int) : spec_l1Below (k + 1) c_0 n_1 =
 if (n_1 : Int) ≤ 0 then
 some (0, c_0)
 else if (n_1 : Int) ≤ 256 then
 (spec_l1Byte k c_0).bind fun r1 =>
 if n_1 = (0 : Int) then
 none
 else some ((Int.tmod r1.1 n_1), r1.2)
 else (spec_l1Byte k c_0).bind fun r2 =>
 (spec_l1Byte k r2.2).bind fun r3 =>
 (spec_l1Byte k r3.2).bind fun r4 =>
 if n_1 = (0 : Int) then
 none
 else some ((Int.tmod (IntKind.wrap .i64 ((IntKind.wrap .i64 ((IntKind.wrap .i64 (r2.1 * 65536)) + (IntKind.wrap .i64 (r3.1 * 256)))) + r4.1)) n_1), r4.2) := by kernel_rfl
theorem slices_IndexFunc_impl_Event_81_eq (k : Nat) (s_0 : (List DT60)) (c1_0 : Int) : slices_IndexFunc_impl_Event_81 (k + 1) s_0 c1_0 =
 slices_IndexFunc_impl_Event_81.l0 k k s_0 c1_0 ((List.length s_0 : Nat) : Int) 0 := by kernel_rfl
theorem slices_IndexFunc_impl_Event_81.l0_eq (k m : Nat) (s_0 : (List DT60)) (f_1_c : Int) (t_7 : Int) (t_8 : Int) : slices_IndexFunc_impl_Event_81.l0 k (m + 1) s_0 f_1_c t_7 t_8 =
 if (t_8 : Int) < t_7 then
 if 0 ≤ t_8 then
 if t_8 < ((List.length s_0 : Nat) : Int) then
 (impl_VoiceOf_1 k (rd T60 s_0 t_8) f_1_c).bind fun r1 =>
 if r1 = true then
 some t_8
 else slices_IndexFunc_impl_Event_81.l0 k m s_0 f_1_c t_7 (IntKind.wrap .i64 (t_8 + 1)) else none else none
 else some (-1) := by kernel_rfl
theorem impl_VoiceOf_1_eq (k : Nat) (e_0 : DT60) (a_1 : Int) : impl_VoiceOf_1 (k + 1) e_0 a_1 =
 some (decide ((e_0.2.2.2.1 : Int) ≠ a_1)) := by kernel_rfl
theorem slices_Index___int_int_eq (k : Nat) (s_0 : (List Int)) (v_1 : Int) : slices_Index___int_int (k + 1) s_0 v_1 =
 slices_Index___int_int.l0 k k s_0 v_1 ((List.length s_0 : Nat) : Int) 0 := by kernel_rfl
theorem slices_Index___int_int.l0_eq (k m : Nat) (s_0 : (List Int)) (v_1 : Int) (t_7 : Int) (t_8 : Int) : slices_Index___int_int.l0 k (m + 1) s_0 v_1 t_7 t_8 =
 if (t_8 : Int) < t_7 then
 if 0 ≤ t_8 then
 if t_8 < ((List.length s_0 : Nat) : Int) then
 if Eq (α := Int) v_1 (rd (.int .i64) s_0 t_8) then
 some t_8
 else slices_Index___int_int.l0 k m s_0 v_1 t_7 (IntKind.wrap .i64 (t_8 + 1)) else none else none
 else some (-1) := by kernel_rfl
theorem spec_l8Draw_eq (k : Nat) (c_0 : DT134) : spec_l8Draw (k + 1) c_0 =
 (spec_l1Below k c_0 13).bind fun r1 =>
 spec_l8Draw.l0 k k r1.1 r1.2.1 r1.2.2.1 r1.2.2.2.1 [] := by kernel_rfl
theorem spec_l8Draw.l0_eq (k m : Nat) (i_4 : Int) (b0_0 : (List Int)) (b0_1 : Int) (b0_2 : Int) (s1 : (List DT60)) : spec_l8Draw.l0 k (m + 1) i_4 b0_0 b0_1 b0_2 s1 =
 if (0 : Int) < i_4 then
 (spec_l8Event k (b0_0, (b0_1, (b0_2, ())))).bind fun r2 =>
 (spec_PutEvent k s1 r2.1).bind fun r3 =>
 spec_l8Draw.l0 k m (IntKind.wrap .i64 (i_4 - 1)) r2.2.1 r2.2.2.1 r2.2.2.2.1 r3.1
 else some (s1, (b0_0, (b0_1, (b0_2, ())))) := by kernel_rfl
theorem spec_l1Int_eq (k : Nat) (c_0 : DT134) (list_1 : (List Int)) : spec_l1Int (k + 1) c_0 list_1 =
 (spec_l1Below k c_0 ((List.length list_1 : Nat) : Int)).bind fun r1 =>
 if 0 ≤ r1.1 then
 if r1.1 < ((List.length list_1 : Nat) : Int) then
 some ((rd (.int .i64) list_1 r1.1), r1.2) else none else none := by kernel_rfl
theorem spec_l7Key_eq (k : Nat) (c_0 : DT134) : spec_l7Key (k + 1) c_0 =
 (spec_l1Below k c_0 15).bind fun r1 =>
 some (IntKind.wrap .i64 (r1.1 - 7), r1.2) := by kernel_rfl
theorem spec_l23Chord_eq (k : Nat) (c_0 : DT134) (k_1 : Int) : spec_l23Chord (k + 1) c_0 k_1 =
 (spec_l1Below k c_0 7).bind fun r1 =>
 if 0 ≤ r1.1 then
 if r1.1 < ((List.length ([0, 2, 4, 5, 7, 9, 11]) : Nat) : Int) then
 (spec_Mod k (IntKind.wrap .i64 ((IntKind.wrap .i64 (7 * k_1)) + (rd (.int .i64) ([0, 2, 4, 5, 7, 9, 11]) r1.1))) 12).bind fun r2 =>
 if 0 ≤ r1.1 then
 if r1.1 < ((List.length ([1, 2, 2, 1, 1, 2, 3]) : Nat) : Int) then
 if (r1.1 : Int) = 4 then
 (spec_l1Once k r1.2 2).bind fun r3 =>
 if r3.1 = true then
 (spec_l1Once k r3.2 6).bind fun r4 =>
 if r4.1 = true then
 (spec_l22Any k r4.2).bind fun r5 =>
 some (r5.1, r5.2)
 else some ((r2, (5, ())), r4.2)
 else (spec_l1Once k r3.2 6).bind fun r6 =>
 if r6.1 = true then
 (spec_l22Any k r6.2).bind fun r7 =>
 some (r7.1, r7.2)
 else some ((r2, ((rd (.int .i64) ([1, 2, 2, 1, 1, 2, 3]) r1.1), ())), r6.2)
 else (spec_l1Once k r1.2 6).bind fun r8 =>
 if r8.1 = true then
 (spec_l22Any k r8.2).bind fun r9 =>
 some (r9.1, r9.2)
 else some ((r2, ((rd (.int .i64) ([1, 2, 2, 1, 1, 2, 3]) r1.1), ())), r8.2) else none else none else none else none := by kernel_rfl
theorem spec_TonesOf_eq (k : Nat) (x_0 : DT25) : spec_TonesOf (k + 1) x_0 =
 (spec_IsChord k x_0).bind fun r1 =>
 if ¬ (r1 = true) then
 some []
 else (spec_l22Halves k x_0.2.1).bind fun r2 =>
 spec_TonesOf.l0 k k r2 0 x_0.1 x_0.2.1 [] := by kernel_rfl
theorem spec_TonesOf.l0_eq (k m : Nat) (h_4 : (List Int)) (i_5 : Int) (b0_0 : Int) (b0_1 : Int) (s1 : (List Int)) : spec_TonesOf.l0 k (m + 1) h_4 i_5 b0_0 b0_1 s1 =
 if (i_5 : Int) < ((List.length h_4 : Nat) : Int) then
 if 0 ≤ i_5 then
 if i_5 < ((List.length h_4 : Nat) : Int) then
 if 12 = (0 : Int) then
 none
 else (spec_l8Num k s1 (Int.tmod (IntKind.wrap .i64 (b0_0 + (rd (.int .i64) h_4 i_5))) 12)).bind fun r3 =>
 spec_TonesOf.l0 k m h_4 (IntKind.wrap .i64 (i_5 + 1)) b0_0 b0_1 r3 else none else none
 else some s1 := by kernel_rfl
theorem spec_PutEvent_eq (k : Nat) (l_0 : (List DT60)) (e_1 : DT60) : spec_PutEvent (k + 1) l_0 e_1 =
 (spec_l8Put k l_0 e_1).bind fun r1 =>
 (spec_IsScore k r1).bind fun r2 =>
 if ¬ (r2 = true) then
 if (List.length ([] : (List DT60)) + List.length l_0) * 32 ≤ 211106232532992 then
 some ((([] : (List DT60)) ++ l_0), (false, ())) else none
 else some (r1, (true, ())) := by kernel_rfl
theorem impl_ClassesOf_eq (k : Nat) (pitches_0 : (List Int)) : impl_ClassesOf (k + 1) pitches_0 =
 impl_ClassesOf.l0 k k pitches_0 ((List.length pitches_0 : Nat) : Int) 0 [] := by kernel_rfl
theorem impl_ClassesOf.l0_eq (k m : Nat) (t_7 : (List Int)) (t_8 : Int) (t_9 : Int) (s0 : (List Int)) : impl_ClassesOf.l0 k (m + 1) t_7 t_8 t_9 s0 =
 if (t_9 : Int) < t_8 then
 if 0 ≤ t_9 then
 if t_9 < ((List.length t_7 : Nat) : Int) then
 (impl_Mod k (rd (.int .i64) t_7 t_9) 12).bind fun r1 =>
 if (List.length s0 + List.length ([r1] : (List Int))) * 8 ≤ 211106232532992 then
 impl_ClassesOf.l0 k m t_7 t_8 (IntKind.wrap .i64 (t_9 + 1)) (s0 ++ ([r1] : (List Int))) else none else none else none
 else (slices_Sort___int_int k s0).bind fun r2 =>
 (slices_Compact___int_int k r2.2).bind fun r3 =>
 some r3 := by kernel_rfl
theorem impl_ChordOf_eq (k : Nat) (classes_0 : (List Int)) : impl_ChordOf (k + 1) classes_0 =
 impl_ChordOf.l0 k k classes_0 1 0 0 := by kernel_rfl
theorem impl_ChordOf.l0_eq (k m : Nat) (classes_0 : (List Int)) (kind_4 : Int) (b0_0 : Int) (b0_1 : Int) : impl_ChordOf.l0 k (m + 1) classes_0 kind_4 b0_0 b0_1 =
 if (kind_4 : Int) ≤ 5 then
 impl_ChordOf.l1 k k m classes_0 kind_4 0 b0_0 b0_1
 else some ((0, (0, ())), (false, ())) := by kernel_rfl
theorem impl_ChordOf.l1_eq (k m m1 : Nat) (classes_0 : (List Int)) (kind_4 : Int) (t_11 : Int) (b0_0 : Int) (b0_1 : Int) : impl_ChordOf.l1 k (m + 1) m1 classes_0 kind_4 t_11 b0_0 b0_1 =
 if (t_11 : Int) < 12 then
 (impl_TonesOf k (t_11, (kind_4, ()))).bind fun r1 =>
 (slices_Equal___int_int k r1 classes_0).bind fun r2 =>
 if r2 = true then
 some ((t_11, (kind_4, ())), (true, ()))
 else impl_ChordOf.l1 k m m1 classes_0 kind_4 (IntKind.wrap .i64 (t_11 + 1)) b0_0 b0_1
 else impl_ChordOf.l0 k m1 classes_0 (IntKind.wrap .i64 (kind_4 + 1)) b0_0 b0_1 := by kernel_rfl
theorem spec_l33Any_eq (k : Nat) (c_0 : DT134) : spec_l33Any (k + 1) c_0 =
 (spec_l33Draw k c_0).bind fun r1 =>
 (spec_l1Below k r1.2 14).bind fun r2 =>
 if (r2.1 : Int) = 0 then
 (spec_l8Any k r2.2).bind fun r3 =>
 some ((r3.1, r1.1.2), r3.2)
 else if (r2.1 : Int) = 1 then
 (spec_l10Any k r2.2).bind fun r4 =>
 some ((r1.1.1, (r4.1, r1.1.2.2)), r4.2)
 else if (r2.1 : Int) = 2 then
 (spec_l11Any k r2.2).bind fun r5 =>
 some ((r1.1.1, (r1.1.2.1, (r5.1, r1.1.2.2.2))), r5.2)
 else if (r2.1 : Int) = 3 then
 (spec_l29Any k r2.2).bind fun r6 =>
 some ((r1.1.1, (r1.1.2.1, (r1.1.2.2.1, (r6.1, r1.1.2.2.2.2)))), r6.2)
 else if (r2.1 : Int) = 4 then
 some ((r1.1.1, (r1.1.2.1, (r1.1.2.2.1, (r1.1.2.2.2.1, ([1, 1], r1.1.2.2.2.2.2))))), r2.2)
 else if (r2.1 : Int) = 5 then
 (spec_l25Any k r2.2).bind fun r7 =>
 some ((r1.1.1, (r1.1.2.1, (r1.1.2.2.1, (r1.1.2.2.2.1, (r1.1.2.2.2.2.1, (r7.1, r1.1.2.2.2.2.2.2)))))), r7.2)
 else if (r2.1 : Int) = 6 then
 (spec_l26Any k r2.2).bind fun r8 =>
 some ((r1.1.1, (r1.1.2.1, (r1.1.2.2.1, (r1.1.2.2.2.1, (r1.1.2.2.2.2.1, (r1.1.2.2.2.2.2.1, (r8.1, r1.1.2.2.2.2.2.2.2))))))), r8.2)
 else if (r2.1 : Int) = 7 then
 (spec_l1Int k r2.2 ([0, 9999, 10000])).bind fun r9 =>
 some ((r1.1.1, (r1.1.2.1, (r1.1.2.2.1, (r1.1.2.2.2.1, (r1.1.2.2.2.2.1, (r1.1.2.2.2.2.2.1, (r1.1.2.2.2.2.2.2.1, (r9.1, r1.1.2.2.2.2.2.2.2.2)))))))), r9.2)
 else if (r2.1 : Int) = 8 then
 (spec_l1Int k r2.2 ([(-1), 100000, 100001])).bind fun r10 =>
 some ((r1.1.1, (r1.1.2.1, (r1.1.2.2.1, (r1.1.2.2.2.1, (r1.1.2.2.2.2.1, (r1.1.2.2.2.2.2.1, (r1.1.2.2.2.2.2.2.1, (r1.1.2.2.2.2.2.2.2.1, (r10.1, ()))))))))), r10.2)
 else some (r1.1, r2.2) := by kernel_rfl
theorem impl_ascending_eq (k : Nat) (l_0 : (List Int)) (low_1 : Int) (high_2 : Int) : impl_ascending (k + 1) l_0 low_1 high_2 =
 impl_ascending.l0 k k l_0 low_1 high_2 l_0 ((List.length l_0 : Nat) : Int) 0 := by kernel_rfl
theorem impl_ascending.l0_eq (k m : Nat) (l_0 : (List Int)) (low_1 : Int) (high_2 : Int) (t_9 : (List Int)) (t_10 : Int) (t_11 : Int) : impl_ascending.l0 k (m + 1) l_0 low_1 high_2 t_9 t_10 t_11 =
 if (t_11 : Int) < t_10 then
 if 0 ≤ t_11 then
 if t_11 < ((List.length t_9 : Nat) : Int) then
 (impl_InRange k (rd (.int .i64) t_9 t_11) low_1 high_2).bind fun r1 =>
 if ¬ (r1 = true) then
 some false
 else if (0 : Int) < t_11 then
 if 0 ≤ (IntKind.wrap .i64 (t_11 - 1)) then
 if (IntKind.wrap .i64 (t_11 - 1)) < ((List.length l_0 : Nat) : Int) then
 if LE.le (α := Int) (rd (.int .i64) t_9 t_11) (rd (.int .i64) l_0 (IntKind.wrap .i64 (t_11 - 1))) then
 some false
 else impl_ascending.l0 k m l_0 low_1 high_2 t_9 t_10 (IntKind.wrap .i64 (t_11 + 1)) else none else none
 else impl_ascending.l0 k m l_0 low_1 high_2 t_9 t_10 (IntKind.wrap .i64 (t_11 + 1)) else none else none
 else some true := by kernel_rfl
theorem slices_IndexFunc_impl_Player_90_eq (k : Nat) (s_0 : (List DT93)) (c1_0 : Int) (c1_1 : (List DT60)) (c1_2 : Int) : slices_IndexFunc_impl_Player_90 (k + 1) s_0 c1_0 c1_1 c1_2 =
 slices_IndexFunc_impl_Player_90.l0 k k s_0 c1_0 c1_1 c1_2 ((List.length s_0 : Nat) : Int) 0 := by kernel_rfl
theorem slices_IndexFunc_impl_Player_90.l0_eq (k m : Nat) (s_0 : (List DT93)) (f_1_c : Int) (f_1_c_1 : (List DT60)) (f_1_c_2 : Int) (t_7 : Int) (t_8 : Int) : slices_IndexFunc_impl_Player_90.l0 k (m + 1) s_0 f_1_c f_1_c_1 f_1_c_2 t_7 t_8 =
 if (t_8 : Int) < t_7 then
 if 0 ≤ t_8 then
 if t_8 < ((List.length s_0 : Nat) : Int) then
 (impl_IsSeating_1 k (rd T93 s_0 t_8) f_1_c f_1_c_1 f_1_c_2).bind fun r1 =>
 if r1 = true then
 some t_8
 else slices_IndexFunc_impl_Player_90.l0 k m s_0 f_1_c f_1_c_1 f_1_c_2 t_7 (IntKind.wrap .i64 (t_8 + 1)) else none else none
 else some (-1) := by kernel_rfl
theorem cmp_isNaN_int_eq (k : Nat) (x_0 : Int) : cmp_isNaN_int (k + 1) x_0 =
 some (decide ((x_0 : Int) ≠ x_0)) := by kernel_rfl
theorem spec_l8Tune_eq (k : Nat) (c_0 : DT134) (voice_1 : Int) (most_2 : Int) : spec_l8Tune (k + 1) c_0 voice_1 most_2 =
 (spec_l1Below k c_0 most_2).bind fun r1 =>
 spec_l8Tune.l0 k k voice_1 0 r1.1 r1.2.1 r1.2.2.1 r1.2.2.2.1 [] := by kernel_rfl
theorem spec_l8Tune.l0_eq (k m : Nat) (voice_1 : Int) (at_8 : Int) (i_9 : Int) (b0_0 : (List Int)) (b0_1 : Int) (b0_2 : Int) (s1 : (List DT60)) : spec_l8Tune.l0 k (m + 1) voice_1 at_8 i_9 b0_0 b0_1 b0_2 s1 =
 if (0 : Int) < i_9 then
 (spec_l1Below k (b0_0, (b0_1, (b0_2, ()))) 3).bind fun r2 =>
 (spec_l1Below k r2.2 8).bind fun r3 =>
 (spec_l1Once k r3.2 5).bind fun r4 =>
 if r4.1 = true then
 (spec_PutEvent k s1 (at_8, (IntKind.wrap .i64 (6 * (IntKind.wrap .i64 (1 + r2.1))), (IntKind.wrap .i64 (60 + r3.1), (voice_1, ()))))).bind fun r5 =>
 spec_l8Tune.l0 k m voice_1 (IntKind.wrap .i64 ((IntKind.wrap .i64 (at_8 + (IntKind.wrap .i64 (6 * (IntKind.wrap .i64 (1 + r2.1)))))) + 12)) (IntKind.wrap .i64 (i_9 - 1)) r4.2.1 r4.2.2.1 r4.2.2.2.1 r5.1
 else (spec_PutEvent k s1 (at_8, (IntKind.wrap .i64 (6 * (IntKind.wrap .i64 (1 + r2.1))), (IntKind.wrap .i64 (60 + r3.1), (voice_1, ()))))).bind fun r6 =>
 spec_l8Tune.l0 k m voice_1 (IntKind.wrap .i64 (at_8 + (IntKind.wrap .i64 (6 * (IntKind.wrap .i64 (1 + r2.1)))))) (IntKind.wrap .i64 (i_9 - 1)) r4.2.1 r4.2.2.1 r4.2.2.2.1 r6.1
 else some (s1, (b0_0, (b0_1, (b0_2, ())))) := by kernel_rfl
theorem spec_EndOf_eq (k : Nat) (l_0 : (List DT60)) : spec_EndOf (k + 1) l_0 =
 spec_EndOf.l0 k k l_0 0 0 := by kernel_rfl
theorem spec_EndOf.l0_eq (k m : Nat) (l_0 : (List DT60)) (n_3 : Int) (i_4 : Int) : spec_EndOf.l0 k (m + 1) l_0 n_3 i_4 =
 if (i_4 : Int) < ((List.length l_0 : Nat) : Int) then
 (spec_IsScore k l_0).bind fun r1 =>
 if r1 = true then
 if 0 ≤ i_4 then
 if i_4 < ((List.length l_0 : Nat) : Int) then
 if 0 ≤ i_4 then
 if i_4 < ((List.length l_0 : Nat) : Int) then
 (spec_Max k n_3 (IntKind.wrap .i64 ((rd T60 l_0 i_4).1 + (rd T60 l_0 i_4).2.1))).bind fun r2 =>
 spec_EndOf.l0 k m l_0 r2 (IntKind.wrap .i64 (i_4 + 1)) else none else none else none else none
 else some n_3
 else some n_3 := by kernel_rfl
theorem spec_PartFrom_eq (k : Nat) (l_0 : (List DT60)) (voice_1 : Int) (end_2 : Int) : spec_PartFrom (k + 1) l_0 voice_1 end_2 =
 (spec_VoiceOf k l_0 voice_1).bind fun r1 =>
 spec_PartFrom.l0 k k l_0 end_2 0 0 [] r1 := by kernel_rfl
theorem spec_PartFrom.l0_eq (k m : Nat) (l_0 : (List DT60)) (end_2 : Int) (at_10 : Int) (i_11 : Int) (s0 : (List DT100)) (s1 : (List DT60)) : spec_PartFrom.l0 k (m + 1) l_0 end_2 at_10 i_11 s0 s1 =
 if (i_11 : Int) < ((List.length s1 : Nat) : Int) then
 (spec_IsScore k l_0).bind fun r2 =>
 if r2 = true then
 if 0 ≤ i_11 then
 if i_11 < ((List.length s1 : Nat) : Int) then
 if LT.lt (α := Int) (rd T60 s1 i_11).1 at_10 then
 some ([], (false, ()))
 else if 0 ≤ i_11 then
 if i_11 < ((List.length s1 : Nat) : Int) then
 if LT.lt (α := Int) at_10 (rd T60 s1 i_11).1 then
 if 0 ≤ i_11 then
 if i_11 < ((List.length s1 : Nat) : Int) then
 if (List.length s0 + List.length ([(at_10, (IntKind.wrap .i64 ((rd T60 s1 i_11).1 - at_10), (0, ())))] : (List DT100))) * 24 ≤ 211106232532992 then
 if 0 ≤ i_11 then
 if i_11 < ((List.length s1 : Nat) : Int) then
 if 0 ≤ i_11 then
 if i_11 < ((List.length s1 : Nat) : Int) then
 if 0 ≤ i_11 then
 if i_11 < ((List.length s1 : Nat) : Int) then
 if (List.length (s0 ++ ([(at_10, (IntKind.wrap .i64 ((rd T60 s1 i_11).1 - at_10), (0, ())))] : (List DT100))) + List.length ([((rd T60 s1 i_11).1, ((rd T60 s1 i_11).2.1, ((rd T60 s1 i_11).2.2.1, ())))] : (List DT100))) * 24 ≤ 211106232532992 then
 if 0 ≤ i_11 then
 if i_11 < ((List.length s1 : Nat) : Int) then
 if 0 ≤ i_11 then
 if i_11 < ((List.length s1 : Nat) : Int) then
 spec_PartFrom.l0 k m l_0 end_2 (IntKind.wrap .i64 ((rd T60 s1 i_11).1 + (rd T60 s1 i_11).2.1)) (IntKind.wrap .i64 (i_11 + 1)) ((s0 ++ ([(at_10, (IntKind.wrap .i64 ((rd T60 s1 i_11).1 - at_10), (0, ())))] : (List DT100))) ++ ([((rd T60 s1 i_11).1, ((rd T60 s1 i_11).2.1, ((rd T60 s1 i_11).2.2.1, ())))] : (List DT100))) s1 else none else none else none else none else none else none else none else none else none else none else none else none else none else none
 else if 0 ≤ i_11 then
 if i_11 < ((List.length s1 : Nat) : Int) then
 if 0 ≤ i_11 then
 if i_11 < ((List.length s1 : Nat) : Int) then
 if 0 ≤ i_11 then
 if i_11 < ((List.length s1 : Nat) : Int) then
 if (List.length s0 + List.length ([((rd T60 s1 i_11).1, ((rd T60 s1 i_11).2.1, ((rd T60 s1 i_11).2.2.1, ())))] : (List DT100))) * 24 ≤ 211106232532992 then
 if 0 ≤ i_11 then
 if i_11 < ((List.length s1 : Nat) : Int) then
 if 0 ≤ i_11 then
 if i_11 < ((List.length s1 : Nat) : Int) then
 spec_PartFrom.l0 k m l_0 end_2 (IntKind.wrap .i64 ((rd T60 s1 i_11).1 + (rd T60 s1 i_11).2.1)) (IntKind.wrap .i64 (i_11 + 1)) (s0 ++ ([((rd T60 s1 i_11).1, ((rd T60 s1 i_11).2.1, ((rd T60 s1 i_11).2.2.1, ())))] : (List DT100))) s1 else none else none else none else none else none else none else none else none else none else none else none else none else none else none else none
 else (spec_IsScore k l_0).bind fun r3 =>
 if ¬ (r3 = true) then
 some ([], (false, ()))
 else if (end_2 : Int) < at_10 then
 some ([], (false, ()))
 else if (2096 : Int) < end_2 then
 some ([], (false, ()))
 else if (at_10 : Int) < end_2 then
 if (List.length s0 + List.length ([(at_10, (IntKind.wrap .i64 (end_2 - at_10), (0, ())))] : (List DT100))) * 24 ≤ 211106232532992 then
 some ((s0 ++ ([(at_10, (IntKind.wrap .i64 (end_2 - at_10), (0, ())))] : (List DT100))), (true, ())) else none
 else some (s0, (true, ()))
 else (spec_IsScore k l_0).bind fun r4 =>
 if ¬ (r4 = true) then
 some ([], (false, ()))
 else if (end_2 : Int) < at_10 then
 some ([], (false, ()))
 else if (2096 : Int) < end_2 then
 some ([], (false, ()))
 else if (at_10 : Int) < end_2 then
 if (List.length s0 + List.length ([(at_10, (IntKind.wrap .i64 (end_2 - at_10), (0, ())))] : (List DT100))) * 24 ≤ 211106232532992 then
 some ((s0 ++ ([(at_10, (IntKind.wrap .i64 (end_2 - at_10), (0, ())))] : (List DT100))), (true, ())) else none
 else some (s0, (true, ())) := by kernel_rfl
theorem spec_l4Raw_eq (k : Nat) (c_0 : DT134) : spec_l4Raw (k + 1) c_0 =
 (spec_l1Int k c_0 ([(-1), 0, 1, 1000000000, (-1000000000), 1000000001, 1000000, 1000001, 9223372036854775807, (-9223372036854775808)])).bind fun r1 =>
 some (r1.1, r1.2) := by kernel_rfl
theorem spec_l1Byte_eq (k : Nat) (c_0 : DT134) : spec_l1Byte (k + 1) c_0 =
 if (33 : Int) < 0 then
 none
 else if (47 : Int) < 0 then
 none
 else if (c_0.2.1 : Int) < ((List.length c_0.1 : Nat) : Int) then
 if 0 ≤ c_0.2.1 then
 if c_0.2.1 < ((List.length c_0.1 : Nat) : Int) then
 some (IntKind.wrap .i64 (((BitVec.ofInt (IntKind.bits .i64) (IntKind.wrap .i64 ((IntKind.wrap .i64 (((BitVec.ofInt (IntKind.bits .i64) (IntKind.wrap .i64 (((BitVec.ofInt (IntKind.bits .i64) (Int.fdiv (IntKind.wrap .i64 ((IntKind.wrap .i64 (c_0.2.2.1 * 6364136223846793005)) + 1442695040888963407)) (2 ^ (min (Int.toNat 33) (IntKind.bits .i64)))) ^^^ BitVec.ofInt (IntKind.bits .i64) (Int.fdiv (IntKind.wrap .i64 ((IntKind.wrap .i64 (c_0.2.2.1 * 6364136223846793005)) + 1442695040888963407)) (2 ^ (min (Int.toNat 47) (IntKind.bits .i64))))).toNat : Nat))) &&& BitVec.ofInt (IntKind.bits .i64) 255).toNat : Nat))) + (IntKind.wrap .i64 ((rd (.int .u8) c_0.1 c_0.2.1))))) &&& BitVec.ofInt (IntKind.bits .i64) 255).toNat : Nat)), (c_0.1, (IntKind.wrap .i64 (c_0.2.1 + 1), (IntKind.wrap .i64 ((IntKind.wrap .i64 (c_0.2.2.1 * 6364136223846793005)) + 1442695040888963407), ())))) else none else none
 else some (IntKind.wrap .i64 (((BitVec.ofInt (IntKind.bits .i64) (IntKind.wrap .i64 (((BitVec.ofInt (IntKind.bits .i64) (Int.fdiv (IntKind.wrap .i64 ((IntKind.wrap .i64 (c_0.2.2.1 * 6364136223846793005)) + 1442695040888963407)) (2 ^ (min (Int.toNat 33) (IntKind.bits .i64)))) ^^^ BitVec.ofInt (IntKind.bits .i64) (Int.fdiv (IntKind.wrap .i64 ((IntKind.wrap .i64 (c_0.2.2.1 * 6364136223846793005)) + 1442695040888963407)) (2 ^ (min (Int.toNat 47) (IntKind.bits .i64))))).toNat : Nat))) &&& BitVec.ofInt (IntKind.bits .i64) 255).toNat : Nat)), (c_0.1, (c_0.2.1, (IntKind.wrap .i64 ((IntKind.wrap .i64 (c_0.2.2.1 * 6364136223846793005)) + 1442695040888963407), ())))) := by kernel_rfl
theorem spec_l8Event_eq (k : Nat) (c_0 : DT134) : spec_l8Event (k + 1) c_0 =
 (spec_l1Below k c_0 20).bind fun r1 =>
 (spec_l1Below k r1.2 10).bind fun r2 =>
 (spec_l1Below k r2.2 18).bind fun r3 =>
 (spec_l1Below k r3.2 3).bind fun r4 =>
 some ((IntKind.wrap .i64 (6 * r1.1), (IntKind.wrap .i64 (3 * (IntKind.wrap .i64 (1 + r2.1))), (IntKind.wrap .i64 (55 + r3.1), (IntKind.wrap .i64 (1 + r4.1), ())))), r4.2) := by kernel_rfl
theorem spec_Mod_eq (k : Nat) (n_0 : Int) (m_1 : Int) : spec_Mod (k + 1) n_0 m_1 =
 (spec_l1In k m_1 1 1000000000000).bind fun r1 =>
 if ¬ (r1 = true) then
 some 0
 else if m_1 = (0 : Int) then
 none
 else if m_1 = (0 : Int) then
 none
 else some (Int.tmod (IntKind.wrap .i64 ((Int.tmod n_0 m_1) + m_1)) m_1) := by kernel_rfl
theorem spec_l22Any_eq (k : Nat) (c_0 : DT134) : spec_l22Any (k + 1) c_0 =
 (spec_l22Draw k c_0).bind fun r1 =>
 (spec_l1Below k r1.2 9).bind fun r2 =>
 if (r2.1 : Int) = 0 then
 (spec_l1Int k r2.2 ([(-1), 11, 12])).bind fun r3 =>
 some ((r3.1, r1.1.2), r3.2)
 else if (r2.1 : Int) = 1 then
 (spec_l1Int k r2.2 ([0, 5, 6])).bind fun r4 =>
 some ((r1.1.1, (r4.1, ())), r4.2)
 else some (r1.1, r2.2) := by kernel_rfl
theorem spec_IsChord_eq (k : Nat) (x_0 : DT25) : spec_IsChord (k + 1) x_0 =
 (spec_l1In k x_0.1 0 11).bind fun r1 =>
 if r1 = true then
 (spec_l1In k x_0.2.1 1 5).bind fun r2 =>
 some (decide (r2 = true))
 else some false := by kernel_rfl
theorem spec_l22Halves_eq (k : Nat) (kind_0 : Int) : spec_l22Halves (k + 1) kind_0 =
 if 0 ≤ (IntKind.wrap .i64 (kind_0 - 1)) then
 if (IntKind.wrap .i64 (kind_0 - 1)) < ((List.length ([[0, 4, 7], [0, 3, 7], [0, 3, 6], [0, 4, 8], [0, 4, 7, 10]]) : Nat) : Int) then
 some (rd (.list (.int .i64)) ([[0, 4, 7], [0, 3, 7], [0, 3, 6], [0, 4, 8], [0, 4, 7, 10]]) (IntKind.wrap .i64 (kind_0 - 1))) else none else none := by kernel_rfl
theorem spec_l8Num_eq (k : Nat) (l_0 : (List Int)) (n_1 : Int) : spec_l8Num (k + 1) l_0 n_1 =
 spec_l8Num.l0 k k l_0 n_1 0 := by kernel_rfl
theorem spec_l8Num.l0_eq (k m : Nat) (l_0 : (List Int)) (n_1 : Int) (k_5 : Int) : spec_l8Num.l0 k (m + 1) l_0 n_1 k_5 =
 if (k_5 : Int) < ((List.length l_0 : Nat) : Int) then
 if 0 ≤ k_5 then
 if k_5 < ((List.length l_0 : Nat) : Int) then
 if LT.lt (α := Int) (rd (.int .i64) l_0 k_5) n_1 then
 spec_l8Num.l0 k m l_0 n_1 (IntKind.wrap .i64 (k_5 + 1))
 else if (k_5 : Int) < ((List.length l_0 : Nat) : Int) then
 if 0 ≤ k_5 then
 if k_5 < ((List.length l_0 : Nat) : Int) then
 if Eq (α := Int) (rd (.int .i64) l_0 k_5) n_1 then
 if (List.length ([] : (List Int)) + List.length l_0) * 8 ≤ 211106232532992 then
 some (([] : (List Int)) ++ l_0) else none
 else if 0 ≤ k_5 then
 if k_5 ≤ ((List.length l_0 : Nat) : Int) then
 if (List.length ([] : (List Int)) + List.length (List.take ((Int.toNat k_5) - (Int.toNat 0)) (List.drop (Int.toNat 0) l_0))) * 8 ≤ 211106232532992 then
 if (List.length (([] : (List Int)) ++ (List.take ((Int.toNat k_5) - (Int.toNat 0)) (List.drop (Int.toNat 0) l_0))) + List.length ([n_1] : (List Int))) * 8 ≤ 211106232532992 then
 if 0 ≤ k_5 then
 if k_5 ≤ ((List.length l_0 : Nat) : Int) then
 if (List.length ((([] : (List Int)) ++ (List.take ((Int.toNat k_5) - (Int.toNat 0)) (List.drop (Int.toNat 0) l_0))) ++ ([n_1] : (List Int))) + List.length (List.take ((Int.toNat ((List.length l_0 : Nat) : Int)) - (Int.toNat k_5)) (List.drop (Int.toNat k_5) l_0))) * 8 ≤ 211106232532992 then
 some (((([] : (List Int)) ++ (List.take ((Int.toNat k_5) - (Int.toNat 0)) (List.drop (Int.toNat 0) l_0))) ++ ([n_1] : (List Int))) ++ (List.take ((Int.toNat ((List.length l_0 : Nat) : Int)) - (Int.toNat k_5)) (List.drop (Int.toNat k_5) l_0))) else none else none else none else none else none else none else none else none else none
 else if 0 ≤ k_5 then
 if k_5 ≤ ((List.length l_0 : Nat) : Int) then
 if (List.length ([] : (List Int)) + List.length (List.take ((Int.toNat k_5) - (Int.toNat 0)) (List.drop (Int.toNat 0) l_0))) * 8 ≤ 211106232532992 then
 if (List.length (([] : (List Int)) ++ (List.take ((Int.toNat k_5) - (Int.toNat 0)) (List.drop (Int.toNat 0) l_0))) + List.length ([n_1] : (List Int))) * 8 ≤ 211106232532992 then
 if 0 ≤ k_5 then
 if k_5 ≤ ((List.length l_0 : Nat) : Int) then
 if (List.length ((([] : (List Int)) ++ (List.take ((Int.toNat k_5) - (Int.toNat 0)) (List.drop (Int.toNat 0) l_0))) ++ ([n_1] : (List Int))) + List.length (List.take ((Int.toNat ((List.length l_0 : Nat) : Int)) - (Int.toNat k_5)) (List.drop (Int.toNat k_5) l_0))) * 8 ≤ 211106232532992 then
 some (((([] : (List Int)) ++ (List.take ((Int.toNat k_5) - (Int.toNat 0)) (List.drop (Int.toNat 0) l_0))) ++ ([n_1] : (List Int))) ++ (List.take ((Int.toNat ((List.length l_0 : Nat) : Int)) - (Int.toNat k_5)) (List.drop (Int.toNat k_5) l_0))) else none else none else none else none else none else none else none else none else none
 else if (k_5 : Int) < ((List.length l_0 : Nat) : Int) then
 if 0 ≤ k_5 then
 if k_5 < ((List.length l_0 : Nat) : Int) then
 if Eq (α := Int) (rd (.int .i64) l_0 k_5) n_1 then
 if (List.length ([] : (List Int)) + List.length l_0) * 8 ≤ 211106232532992 then
 some (([] : (List Int)) ++ l_0) else none
 else if 0 ≤ k_5 then
 if k_5 ≤ ((List.length l_0 : Nat) : Int) then
 if (List.length ([] : (List Int)) + List.length (List.take ((Int.toNat k_5) - (Int.toNat 0)) (List.drop (Int.toNat 0) l_0))) * 8 ≤ 211106232532992 then
 if (List.length (([] : (List Int)) ++ (List.take ((Int.toNat k_5) - (Int.toNat 0)) (List.drop (Int.toNat 0) l_0))) + List.length ([n_1] : (List Int))) * 8 ≤ 211106232532992 then
 if 0 ≤ k_5 then
 if k_5 ≤ ((List.length l_0 : Nat) : Int) then
 if (List.length ((([] : (List Int)) ++ (List.take ((Int.toNat k_5) - (Int.toNat 0)) (List.drop (Int.toNat 0) l_0))) ++ ([n_1] : (List Int))) + List.length (List.take ((Int.toNat ((List.length l_0 : Nat) : Int)) - (Int.toNat k_5)) (List.drop (Int.toNat k_5) l_0))) * 8 ≤ 211106232532992 then
 some (((([] : (List Int)) ++ (List.take ((Int.toNat k_5) - (Int.toNat 0)) (List.drop (Int.toNat 0) l_0))) ++ ([n_1] : (List Int))) ++ (List.take ((Int.toNat ((List.length l_0 : Nat) : Int)) - (Int.toNat k_5)) (List.drop (Int.toNat k_5) l_0))) else none else none else none else none else none else none else none else none else none
 else if 0 ≤ k_5 then
 if k_5 ≤ ((List.length l_0 : Nat) : Int) then
 if (List.length ([] : (List Int)) + List.length (List.take ((Int.toNat k_5) - (Int.toNat 0)) (List.drop (Int.toNat 0) l_0))) * 8 ≤ 211106232532992 then
 if (List.length (([] : (List Int)) ++ (List.take ((Int.toNat k_5) - (Int.toNat 0)) (List.drop (Int.toNat 0) l_0))) + List.length ([n_1] : (List Int))) * 8 ≤ 211106232532992 then
 if 0 ≤ k_5 then
 if k_5 ≤ ((List.length l_0 : Nat) : Int) then
 if (List.length ((([] : (List Int)) ++ (List.take ((Int.toNat k_5) - (Int.toNat 0)) (List.drop (Int.toNat 0) l_0))) ++ ([n_1] : (List Int))) + List.length (List.take ((Int.toNat ((List.length l_0 : Nat) : Int)) - (Int.toNat k_5)) (List.drop (Int.toNat k_5) l_0))) * 8 ≤ 211106232532992 then
 some (((([] : (List Int)) ++ (List.take ((Int.toNat k_5) - (Int.toNat 0)) (List.drop (Int.toNat 0) l_0))) ++ ([n_1] : (List Int))) ++ (List.take ((Int.toNat ((List.length l_0 : Nat) : Int)) - (Int.toNat k_5)) (List.drop (Int.toNat k_5) l_0))) else none else none else none else none else none else none else none := by kernel_rfl
theorem spec_l8Put_eq (k : Nat) (l_0 : (List DT60)) (e_1 : DT60) : spec_l8Put (k + 1) l_0 e_1 =
 spec_l8Put.l0 k k l_0 0 e_1.1 e_1.2.1 e_1.2.2.1 e_1.2.2.2.1 := by kernel_rfl
theorem spec_l8Put.l0_eq (k m : Nat) (l_0 : (List DT60)) (k_5 : Int) (b0_0 : Int) (b0_1 : Int) (b0_2 : Int) (b0_3 : Int) : spec_l8Put.l0 k (m + 1) l_0 k_5 b0_0 b0_1 b0_2 b0_3 =
 if (k_5 : Int) < ((List.length l_0 : Nat) : Int) then
 if 0 ≤ k_5 then
 if k_5 < ((List.length l_0 : Nat) : Int) then
 (spec_l8Before k (rd T60 l_0 k_5) (b0_0, (b0_1, (b0_2, (b0_3, ()))))).bind fun r1 =>
 if r1 = true then
 spec_l8Put.l0 k m l_0 (IntKind.wrap .i64 (k_5 + 1)) b0_0 b0_1 b0_2 b0_3
 else if 0 ≤ k_5 then
 if k_5 ≤ ((List.length l_0 : Nat) : Int) then
 if (List.length ([] : (List DT60)) + List.length (List.take ((Int.toNat k_5) - (Int.toNat 0)) (List.drop (Int.toNat 0) l_0))) * 32 ≤ 211106232532992 then
 if (List.length (([] : (List DT60)) ++ (List.take ((Int.toNat k_5) - (Int.toNat 0)) (List.drop (Int.toNat 0) l_0))) + List.length ([(b0_0, (b0_1, (b0_2, (b0_3, ()))))] : (List DT60))) * 32 ≤ 211106232532992 then
 if 0 ≤ k_5 then
 if k_5 ≤ ((List.length l_0 : Nat) : Int) then
 if (List.length ((([] : (List DT60)) ++ (List.take ((Int.toNat k_5) - (Int.toNat 0)) (List.drop (Int.toNat 0) l_0))) ++ ([(b0_0, (b0_1, (b0_2, (b0_3, ()))))] : (List DT60))) + List.length (List.take ((Int.toNat ((List.length l_0 : Nat) : Int)) - (Int.toNat k_5)) (List.drop (Int.toNat k_5) l_0))) * 32 ≤ 211106232532992 then
 some (((([] : (List DT60)) ++ (List.take ((Int.toNat k_5) - (Int.toNat 0)) (List.drop (Int.toNat 0) l_0))) ++ ([(b0_0, (b0_1, (b0_2, (b0_3, ()))))] : (List DT60))) ++ (List.take ((Int.toNat ((List.length l_0 : Nat) : Int)) - (Int.toNat k_5)) (List.drop (Int.toNat k_5) l_0))) else none else none else none else none else none else none else none else none else none
 else if 0 ≤ k_5 then
 if k_5 ≤ ((List.length l_0 : Nat) : Int) then
 if (List.length ([] : (List DT60)) + List.length (List.take ((Int.toNat k_5) - (Int.toNat 0)) (List.drop (Int.toNat 0) l_0))) * 32 ≤ 211106232532992 then
 if (List.length (([] : (List DT60)) ++ (List.take ((Int.toNat k_5) - (Int.toNat 0)) (List.drop (Int.toNat 0) l_0))) + List.length ([(b0_0, (b0_1, (b0_2, (b0_3, ()))))] : (List DT60))) * 32 ≤ 211106232532992 then
 if 0 ≤ k_5 then
 if k_5 ≤ ((List.length l_0 : Nat) : Int) then
 if (List.length ((([] : (List DT60)) ++ (List.take ((Int.toNat k_5) - (Int.toNat 0)) (List.drop (Int.toNat 0) l_0))) ++ ([(b0_0, (b0_1, (b0_2, (b0_3, ()))))] : (List DT60))) + List.length (List.take ((Int.toNat ((List.length l_0 : Nat) : Int)) - (Int.toNat k_5)) (List.drop (Int.toNat k_5) l_0))) * 32 ≤ 211106232532992 then
 some (((([] : (List DT60)) ++ (List.take ((Int.toNat k_5) - (Int.toNat 0)) (List.drop (Int.toNat 0) l_0))) ++ ([(b0_0, (b0_1, (b0_2, (b0_3, ()))))] : (List DT60))) ++ (List.take ((Int.toNat ((List.length l_0 : Nat) : Int)) - (Int.toNat k_5)) (List.drop (Int.toNat k_5) l_0))) else none else none else none else none else none else none else none := by kernel_rfl
theorem spec_IsScore_eq (k : Nat) (l_0 : (List DT60)) : spec_IsScore (k + 1) l_0 =
 spec_IsScore.l0 k k l_0 0 := by kernel_rfl
theorem spec_IsScore.l0_eq (k m : Nat) (l_0 : (List DT60)) (i_3 : Int) : spec_IsScore.l0 k (m + 1) l_0 i_3 =
 if (i_3 : Int) < ((List.length l_0 : Nat) : Int) then
 if 0 ≤ i_3 then
 if i_3 < ((List.length l_0 : Nat) : Int) then
 (spec_l8Ok k (rd T60 l_0 i_3)).bind fun r1 =>
 if ¬ (r1 = true) then
 some false
 else if (0 : Int) < i_3 then
 if 0 ≤ (IntKind.wrap .i64 (i_3 - 1)) then
 if (IntKind.wrap .i64 (i_3 - 1)) < ((List.length l_0 : Nat) : Int) then
 if 0 ≤ i_3 then
 if i_3 < ((List.length l_0 : Nat) : Int) then
 (spec_l8Before k (rd T60 l_0 (IntKind.wrap .i64 (i_3 - 1))) (rd T60 l_0 i_3)).bind fun r2 =>
 if ¬ (r2 = true) then
 some false
 else spec_IsScore.l0 k m l_0 (IntKind.wrap .i64 (i_3 + 1)) else none else none else none else none
 else spec_IsScore.l0 k m l_0 (IntKind.wrap .i64 (i_3 + 1)) else none else none
 else some (decide ((((List.length l_0 : Nat) : Int) : Int) ≤ 40)) := by kernel_rfl
theorem impl_Mod_eq (k : Nat) (p_0 : Int) (q_1 : Int) : impl_Mod (k + 1) p_0 q_1 =
 (impl_InRange k q_1 1 1000000000000).bind fun r1 =>
 if ¬ (r1 = true) then
 some 0
 else if q_1 = (0 : Int) then
 none
 else if q_1 = (0 : Int) then
 none
 else some (Int.tmod (IntKind.wrap .i64 ((Int.tmod p_0 q_1) + q_1)) q_1) := by kernel_rfl
theorem impl_TonesOf_eq (k : Nat) (x_0 : DT25) : impl_TonesOf (k + 1) x_0 =
 (impl_IsChord k x_0).bind fun r1 =>
 if ¬ (r1 = true) then
 some []
 else if 0 ≤ (IntKind.wrap .i64 (x_0.2.1 - 1)) then
 if (IntKind.wrap .i64 (x_0.2.1 - 1)) < ((List.length ([[0, 4, 7], [0, 3, 7], [0, 3, 6], [0, 4, 8], [0, 4, 7, 10]]) : Nat) : Int) then
 impl_TonesOf.l0 k k (rd (.list (.int .i64)) ([[0, 4, 7], [0, 3, 7], [0, 3, 6], [0, 4, 8], [0, 4, 7, 10]]) (IntKind.wrap .i64 (x_0.2.1 - 1))) ((List.length (rd (.list (.int .i64)) ([[0, 4, 7], [0, 3, 7], [0, 3, 6], [0, 4, 8], [0, 4, 7, 10]]) (IntKind.wrap .i64 (x_0.2.1 - 1))) : Nat) : Int) 0 x_0.1 x_0.2.1 [] else none else none := by kernel_rfl
theorem impl_TonesOf.l0_eq (k m : Nat) (t_21 : (List Int)) (t_22 : Int) (t_23 : Int) (b0_0 : Int) (b0_1 : Int) (s1 : (List Int)) : impl_TonesOf.l0 k (m + 1) t_21 t_22 t_23 b0_0 b0_1 s1 =
 if (t_23 : Int) < t_22 then
 if 0 ≤ t_23 then
 if t_23 < ((List.length t_21 : Nat) : Int) then
 if (List.length s1 + List.length ([IntKind.wrap .i64 (b0_0 + (rd (.int .i64) t_21 t_23))] : (List Int))) * 8 ≤ 211106232532992 then
 impl_TonesOf.l0 k m t_21 t_22 (IntKind.wrap .i64 (t_23 + 1)) b0_0 b0_1 (s1 ++ ([IntKind.wrap .i64 (b0_0 + (rd (.int .i64) t_21 t_23))] : (List Int))) else none else none else none
 else (impl_ClassesOf k s1).bind fun r2 =>
 some r2 := by kernel_rfl
theorem slices_Equal___int_int_eq (k : Nat) (s1_0 : (List Int)) (s2_1 : (List Int)) : slices_Equal___int_int (k + 1) s1_0 s2_1 =
 if (((List.length s1_0 : Nat) : Int) : Int) ≠ ((List.length s2_1 : Nat) : Int) then
 some false
 else slices_Equal___int_int.l0 k k s1_0 s2_1 ((List.length s1_0 : Nat) : Int) 0 := by kernel_rfl
theorem slices_Equal___int_int.l0_eq (k m : Nat) (s1_0 : (List Int)) (s2_1 : (List Int)) (t_12 : Int) (t_13 : Int) : slices_Equal___int_int.l0 k (m + 1) s1_0 s2_1 t_12 t_13 =
 if (t_13 : Int) < t_12 then
 if 0 ≤ t_13 then
 if t_13 < ((List.length s1_0 : Nat) : Int) then
 if 0 ≤ t_13 then
 if t_13 < ((List.length s2_1 : Nat) : Int) then
 if Ne (α := Int) (rd (.int .i64) s1_0 t_13) (rd (.int .i64) s2_1 t_13) then
 some false
 else slices_Equal___int_int.l0 k m s1_0 s2_1 t_12 (IntKind.wrap .i64 (t_13 + 1)) else none else none else none else none
 else some true := by kernel_rfl
theorem spec_l33Draw_eq (k : Nat) (c_0 : DT134) : spec_l33Draw (k + 1) c_0 =
 (spec_l10Draw k c_0).bind fun r1 =>
 (spec_l33Voices k r1.2).bind fun r2 =>
 (spec_NewOrchestra k r1.1 r2.1).bind fun r3 =>
 (spec_l13Score k r2.2).bind fun r4 =>
 (spec_l11Draw k r4.2).bind fun r5 =>
 (spec_l25Draw k r5.2).bind fun r6 =>
 (spec_l26Draw k r6.2).bind fun r7 =>
 (spec_SeatPlayers k r3.1.2.2.2.1 r4.1 2).bind fun r8 =>
 if r8.2.1 = true then
 (spec_l1Once k r7.2 5).bind fun r9 =>
 if ¬ (r9.1 = true) then
 some ((r4.1, (r3.1.2.1, (r5.1, (r3.1.2.2.2.1, (r8.1, (r6.1, (r7.1, r3.1.2.2.2.2.2.2.2))))))), r9.2)
 else some ((r4.1, (r3.1.2.1, (r5.1, (r3.1.2.2.2.1, (r3.1.2.2.2.2.1, (r6.1, (r7.1, r3.1.2.2.2.2.2.2.2))))))), r9.2)
 else some ((r4.1, (r3.1.2.1, (r5.1, (r3.1.2.2.2.1, (r3.1.2.2.2.2.1, (r6.1, (r7.1, r3.1.2.2.2.2.2.2.2))))))), r7.2) := by kernel_rfl
theorem spec_l10Any_eq (k : Nat) (c_0 : DT134) : spec_l10Any (k + 1) c_0 =
 (spec_l10Draw k c_0).bind fun r1 =>
 (spec_l1Below k r1.2 9).bind fun r2 =>
 if (r2.1 : Int) = 0 then
 (spec_l1Int k r2.2 ([0, 12, 13])).bind fun r3 =>
 some ((r3.1, r1.1.2), r3.2)
 else if (r2.1 : Int) = 1 then
 (spec_l1Int k r2.2 ([0, 1, 3, 16])).bind fun r4 =>
 some ((r1.1.1, (r4.1, ())), r4.2)
 else some (r1.1, r2.2) := by kernel_rfl
theorem spec_l11Any_eq (k : Nat) (c_0 : DT134) : spec_l11Any (k + 1) c_0 =
 (spec_l11Draw k c_0).bind fun r1 =>
 (spec_l1Below k r1.2 ((List.length r1.1 : Nat) : Int)).bind fun r2 =>
 (spec_l1Below k r2.2 9).bind fun r3 =>
 if (r3.1 : Int) = 0 then
 (spec_l1Int k r3.2 ([(-1), 0, 2000, 2001])).bind fun r4 =>
 if 0 ≤ r2.1 then
 if r2.1 < ((List.length r1.1 : Nat) : Int) then
 some ((setAt T25 r1.1 r2.1 (fun yy => (r4.1, yy.2))), r4.2) else none else none
 else if (r3.1 : Int) = 1 then
 (spec_l1Int k r3.2 ([19, 20, 300, 301])).bind fun r5 =>
 if 0 ≤ r2.1 then
 if r2.1 < ((List.length r1.1 : Nat) : Int) then
 some ((setAt T25 r1.1 r2.1 (fun yy => (yy.1, (r5.1, ())))), r5.2) else none else none
 else if (r3.1 : Int) = 2 then
 some ([], r3.2)
 else some (r1.1, r3.2) := by kernel_rfl
theorem spec_l29Any_eq (k : Nat) (c_0 : DT134) : spec_l29Any (k + 1) c_0 =
 (spec_l29Draw k c_0).bind fun r1 =>
 (spec_l1Below k r1.2 ((List.length r1.1 : Nat) : Int)).bind fun r2 =>
 (spec_l1Below k r2.2 9).bind fun r3 =>
 if (r3.1 : Int) = 0 then
 (spec_l1Int k r3.2 ([0, 2, 99, 100])).bind fun r4 =>
 if 0 ≤ r2.1 then
 if r2.1 < ((List.length r1.1 : Nat) : Int) then
 some ((setAt T93 r1.1 r2.1 (fun yy => (r4.1, yy.2))), r4.2) else none else none
 else if (r3.1 : Int) = 1 then
 (spec_l1Int k r3.2 ([20, 21, 108])).bind fun r5 =>
 if 0 ≤ r2.1 then
 if r2.1 < ((List.length r1.1 : Nat) : Int) then
 some ((setAt T93 r1.1 r2.1 (fun yy => (yy.1, (r5.1, yy.2.2)))), r5.2) else none else none
 else if (r3.1 : Int) = 2 then
 (spec_l1Int k r3.2 ([20, 108, 109])).bind fun r6 =>
 if 0 ≤ r2.1 then
 if r2.1 < ((List.length r1.1 : Nat) : Int) then
 some ((setAt T93 r1.1 r2.1 (fun yy => (yy.1, (yy.2.1, (r6.1, yy.2.2.2))))), r6.2) else none else none
 else if (r3.1 : Int) = 3 then
 if 0 ≤ r2.1 then
 if r2.1 < ((List.length r1.1 : Nat) : Int) then
 some ((List.set r1.1 (Int.toNat r2.1) ((rd T93 r1.1 r2.1).1, ((rd T93 r1.1 r2.1).2.1, ((rd T93 r1.1 r2.1).2.2.1, ([2, 1], (rd T93 r1.1 r2.1).2.2.2.2))))), r3.2) else none else none
 else some (r1.1, r3.2) := by kernel_rfl
theorem spec_l25Any_eq (k : Nat) (c_0 : DT134) : spec_l25Any (k + 1) c_0 =
 (spec_l25Draw k c_0).bind fun r1 =>
 if (((List.length r1.1 : Nat) : Int) : Int) = 0 then
 some (r1.1, r1.2)
 else (spec_l1Below k r1.2 ((List.length r1.1 : Nat) : Int)).bind fun r2 =>
 (spec_l1Below k r2.2 9).bind fun r3 =>
 if (r3.1 : Int) = 0 then
 (spec_l1Int k r3.2 ([0, 100, 101])).bind fun r4 =>
 if 0 ≤ r2.1 then
 if r2.1 < ((List.length r1.1 : Nat) : Int) then
 some ((setAt T110 r1.1 r2.1 (fun yy => (r4.1, yy.2))), r4.2) else none else none
 else if (r3.1 : Int) = 1 then
 (spec_l1Int k r3.2 ([0, 4, 5])).bind fun r5 =>
 if 0 ≤ r2.1 then
 if r2.1 < ((List.length r1.1 : Nat) : Int) then
 some ((setAt T110 r1.1 r2.1 (fun yy => (yy.1, (r5.1, yy.2.2)))), r5.2) else none else none
 else if (r3.1 : Int) = 2 then
 (spec_l1Int k r3.2 ([(-1), 9, 10])).bind fun r6 =>
 if 0 ≤ r2.1 then
 if r2.1 < ((List.length r1.1 : Nat) : Int) then
 some ((setAt T110 r1.1 r2.1 (fun yy => (yy.1, (yy.2.1, (r6.1, yy.2.2.2))))), r6.2) else none else none
 else if (r3.1 : Int) = 3 then
 (spec_l1Int k r3.2 ([(-1), 100000, 100001])).bind fun r7 =>
 if 0 ≤ r2.1 then
 if r2.1 < ((List.length r1.1 : Nat) : Int) then
 some ((setAt T110 r1.1 r2.1 (fun yy => (yy.1, (yy.2.1, (yy.2.2.1, (r7.1, yy.2.2.2.2)))))), r7.2) else none else none
 else if (r3.1 : Int) = 4 then
 (spec_l1Int k r3.2 ([0, 99, 100])).bind fun r8 =>
 if 0 ≤ r2.1 then
 if r2.1 < ((List.length r1.1 : Nat) : Int) then
 some ((setAt T110 r1.1 r2.1 (fun yy => (yy.1, (yy.2.1, (yy.2.2.1, (yy.2.2.2.1, (r8.1, ()))))))), r8.2) else none else none
 else some (r1.1, r3.2) := by kernel_rfl
theorem spec_l26Any_eq (k : Nat) (c_0 : DT134) : spec_l26Any (k + 1) c_0 =
 (spec_l26Draw k c_0).bind fun r1 =>
 if (((List.length r1.1 : Nat) : Int) : Int) = 0 then
 some (r1.1, r1.2)
 else (spec_l1Below k r1.2 ((List.length r1.1 : Nat) : Int)).bind fun r2 =>
 (spec_l1Below k r2.2 9).bind fun r3 =>
 if (r3.1 : Int) = 0 then
 (spec_l1Int k r3.2 ([0, 1, 9])).bind fun r4 =>
 if 0 ≤ r2.1 then
 if r2.1 < ((List.length r1.1 : Nat) : Int) then
 some ((setAt T25 r1.1 r2.1 (fun yy => (r4.1, yy.2))), r4.2) else none else none
 else if (r3.1 : Int) = 1 then
 (spec_l1Int k r3.2 ([0, 1, 500, 501])).bind fun r5 =>
 if 0 ≤ r2.1 then
 if r2.1 < ((List.length r1.1 : Nat) : Int) then
 some ((setAt T25 r1.1 r2.1 (fun yy => (yy.1, (r5.1, ())))), r5.2) else none else none
 else some (r1.1, r3.2) := by kernel_rfl
theorem impl_IsSeating_1_eq (k : Nat) (p_0 : DT93) (a_1 : Int) (a_2 : (List DT60)) (a_3 : Int) : impl_IsSeating_1 (k + 1) p_0 a_1 a_2 a_3 =
 if (p_0.1 : Int) = a_1 then
 (impl_CanPlay k p_0 a_2 (IntKind.wrap .i64 (a_3 + 1))).bind fun r1 =>
 some (decide (r1 = true))
 else some false := by kernel_rfl
theorem spec_Max_eq (k : Nat) (a_0 : Int) (b_1 : Int) : spec_Max (k + 1) a_0 b_1 =
 if (a_0 : Int) < b_1 then
 some b_1
 else some a_0 := by kernel_rfl
theorem spec_VoiceOf_eq (k : Nat) (l_0 : (List DT60)) (voice_1 : Int) : spec_VoiceOf (k + 1) l_0 voice_1 =
 spec_VoiceOf.l0 k k l_0 voice_1 0 [] := by kernel_rfl
theorem spec_VoiceOf.l0_eq (k m : Nat) (l_0 : (List DT60)) (voice_1 : Int) (i_6 : Int) (s0 : (List DT60)) : spec_VoiceOf.l0 k (m + 1) l_0 voice_1 i_6 s0 =
 if (i_6 : Int) < ((List.length l_0 : Nat) : Int) then
 if 0 ≤ i_6 then
 if i_6 < ((List.length l_0 : Nat) : Int) then
 if Eq (α := Int) (rd T60 l_0 i_6).2.2.2.1 voice_1 then
 if 0 ≤ i_6 then
 if i_6 < ((List.length l_0 : Nat) : Int) then
 if (List.length s0 + List.length ([(rd T60 l_0 i_6)] : (List DT60))) * 32 ≤ 211106232532992 then
 spec_VoiceOf.l0 k m l_0 voice_1 (IntKind.wrap .i64 (i_6 + 1)) (s0 ++ ([(rd T60 l_0 i_6)] : (List DT60))) else none else none else none
 else spec_VoiceOf.l0 k m l_0 voice_1 (IntKind.wrap .i64 (i_6 + 1)) s0 else none else none
 else some s0 := by kernel_rfl
theorem spec_l1In_eq (k : Nat) (x_0 : Int) (least_1 : Int) (most_2 : Int) : spec_l1In (k + 1) x_0 least_1 most_2 =
 if (least_1 : Int) ≤ x_0 then
 some (decide ((x_0 : Int) ≤ most_2))
 else some false := by kernel_rfl
theorem spec_l22Draw_eq (k : Nat) (c_0 : DT134) : spec_l22Draw (k + 1) c_0 =
 (spec_l1Below k c_0 12).bind fun r1 =>
 (spec_l1Below k r1.2 5).bind fun r2 =>
 some ((r1.1, (IntKind.wrap .i64 (1 + r2.1), ())), r2.2) := by kernel_rfl
theorem spec_l8Before_eq (k : Nat) (a_0 : DT60) (b_1 : DT60) : spec_l8Before (k + 1) a_0 b_1 =
 if (a_0.1 : Int) ≠ b_1.1 then
 some (decide ((a_0.1 : Int) < b_1.1))
 else if (a_0.2.2.2.1 : Int) ≠ b_1.2.2.2.1 then
 some (decide ((a_0.2.2.2.1 : Int) < b_1.2.2.2.1))
 else some (decide ((a_0.2.2.1 : Int) < b_1.2.2.1)) := by kernel_rfl
theorem spec_l8Ok_eq (k : Nat) (e_0 : DT60) : spec_l8Ok (k + 1) e_0 =
 (spec_l1In k e_0.1 0 2000).bind fun r1 =>
 if r1 = true then
 (spec_l1In k e_0.2.1 1 96).bind fun r2 =>
 if r2 = true then
 (spec_l1In k e_0.2.2.1 21 108).bind fun r3 =>
 if r3 = true then
 (spec_l1In k e_0.2.2.2.1 1 4).bind fun r4 =>
 some (decide (r4 = true))
 else some false
 else some false
 else some false := by kernel_rfl
theorem spec_l10Draw_eq (k : Nat) (c_0 : DT134) : spec_l10Draw (k + 1) c_0 =
 (spec_l1Below k c_0 4).bind fun r1 =>
 (spec_l1Int k r1.2 ([4, 4, 4, 8, 2])).bind fun r2 =>
 some ((IntKind.wrap .i64 (2 + r1.1), (r2.1, ())), r2.2) := by kernel_rfl
theorem spec_l33Voices_eq (k : Nat) (c_0 : DT134) : spec_l33Voices (k + 1) c_0 =
 spec_l33Voices.l0 k k 1 c_0.1 c_0.2.1 c_0.2.2.1 [] := by kernel_rfl
theorem spec_l33Voices.l0_eq (k m : Nat) (i_4 : Int) (b0_0 : (List Int)) (b0_1 : Int) (b0_2 : Int) (s1 : (List DT93)) : spec_l33Voices.l0 k (m + 1) i_4 b0_0 b0_1 b0_2 s1 =
 (spec_l1Below k (b0_0, (b0_1, (b0_2, ()))) 4).bind fun r1 =>
 if (i_4 : Int) ≤ (IntKind.wrap .i64 (2 + r1.1)) then
 (spec_l1Below k r1.2 18).bind fun r2 =>
 (spec_l1Below k r2.2 12).bind fun r3 =>
 if (List.length s1 + List.length ([(i_4, (IntKind.wrap .i64 (40 + r2.1), (IntKind.wrap .i64 (76 + r3.1), ([1, 2, 3], ()))))] : (List DT93))) * 48 ≤ 211106232532992 then
 spec_l33Voices.l0 k m (IntKind.wrap .i64 (i_4 + 1)) r3.2.1 r3.2.2.1 r3.2.2.2.1 (s1 ++ ([(i_4, (IntKind.wrap .i64 (40 + r2.1), (IntKind.wrap .i64 (76 + r3.1), ([1, 2, 3], ()))))] : (List DT93))) else none
 else some (s1, r1.2) := by kernel_rfl
theorem spec_NewOrchestra_eq (k : Nat) (m_0 : DT25) (players_1 : (List DT93)) : spec_NewOrchestra (k + 1) m_0 players_1 =
 (spec_l33Copy k ([], (m_0, ([(0, (100, ()))], (players_1, ([], ([], ([], (1, (0, ())))))))))).bind fun r1 =>
 (spec_IsOrchestra k r1).bind fun r2 =>
 if ¬ (r2 = true) then
 some (([], ((0, (0, ())), ([], ([], ([], ([], ([], (0, (0, ()))))))))), (false, ()))
 else some (r1, (true, ())) := by kernel_rfl
theorem spec_l13Score_eq (k : Nat) (c_0 : DT134) : spec_l13Score (k + 1) c_0 =
 (spec_l8Tune k c_0 1 9).bind fun r1 =>
 (spec_l8Tune k r1.2 2 9).bind fun r2 =>
 spec_l13Score.l0 k k 0 r2.2.1 r2.2.2.1 r2.2.2.2.1 r1.1 r2.1 := by kernel_rfl
theorem spec_l13Score.l0_eq (k m : Nat) (i_5 : Int) (b0_0 : (List Int)) (b0_1 : Int) (b0_2 : Int) (s1 : (List DT60)) (s2 : (List DT60)) : spec_l13Score.l0 k (m + 1) i_5 b0_0 b0_1 b0_2 s1 s2 =
 if (i_5 : Int) < ((List.length s2 : Nat) : Int) then
 if 0 ≤ i_5 then
 if i_5 < ((List.length s2 : Nat) : Int) then
 (spec_PutEvent k s1 (rd T60 s2 i_5)).bind fun r3 =>
 spec_l13Score.l0 k m (IntKind.wrap .i64 (i_5 + 1)) b0_0 b0_1 b0_2 r3.1 s2 else none else none
 else some (s1, (b0_0, (b0_1, (b0_2, ())))) := by kernel_rfl
theorem spec_l11Draw_eq (k : Nat) (c_0 : DT134) : spec_l11Draw (k + 1) c_0 =
 (spec_l1Int k c_0 ([60, 90, 120, 50, 144])).bind fun r1 =>
 (spec_l1Below k r1.2 4).bind fun r2 =>
 spec_l11Draw.l0 k k 0 r2.1 r2.2.1 r2.2.2.1 r2.2.2.2.1 ([(0, (r1.1, ()))]) := by kernel_rfl
theorem spec_l11Draw.l0_eq (k m : Nat) (at_4 : Int) (i_5 : Int) (b0_0 : (List Int)) (b0_1 : Int) (b0_2 : Int) (s1 : (List DT25)) : spec_l11Draw.l0 k (m + 1) at_4 i_5 b0_0 b0_1 b0_2 s1 =
 if (0 : Int) < i_5 then
 (spec_l1Below k (b0_0, (b0_1, (b0_2, ()))) 50).bind fun r3 =>
 (spec_l1Int k r3.2 ([40, 60, 72, 100, 120, 200, 77])).bind fun r4 =>
 if (List.length s1 + List.length ([(IntKind.wrap .i64 ((IntKind.wrap .i64 (at_4 + 1)) + r3.1), (r4.1, ()))] : (List DT25))) * 16 ≤ 211106232532992 then
 spec_l11Draw.l0 k m (IntKind.wrap .i64 ((IntKind.wrap .i64 (at_4 + 1)) + r3.1)) (IntKind.wrap .i64 (i_5 - 1)) r4.2.1 r4.2.2.1 r4.2.2.2.1 (s1 ++ ([(IntKind.wrap .i64 ((IntKind.wrap .i64 (at_4 + 1)) + r3.1), (r4.1, ()))] : (List DT25))) else none
 else some (s1, (b0_0, (b0_1, (b0_2, ())))) := by kernel_rfl
theorem spec_l25Draw_eq (k : Nat) (c_0 : DT134) : spec_l25Draw (k + 1) c_0 =
 (spec_l1Below k c_0 9).bind fun r1 =>
 spec_l25Draw.l0 k k r1.1 r1.2.1 r1.2.2.1 r1.2.2.2.1 [] := by kernel_rfl
theorem spec_l25Draw.l0_eq (k m : Nat) (i_4 : Int) (b0_0 : (List Int)) (b0_1 : Int) (b0_2 : Int) (s1 : (List DT110)) : spec_l25Draw.l0 k (m + 1) i_4 b0_0 b0_1 b0_2 s1 =
 if (0 : Int) < i_4 then
 (spec_l25Mark k (b0_0, (b0_1, (b0_2, ())))).bind fun r2 =>
 (spec_SetMark k s1 r2.1).bind fun r3 =>
 spec_l25Draw.l0 k m (IntKind.wrap .i64 (i_4 - 1)) r2.2.1 r2.2.2.1 r2.2.2.2.1 r3
 else some (s1, (b0_0, (b0_1, (b0_2, ())))) := by kernel_rfl
theorem spec_l26Draw_eq (k : Nat) (c_0 : DT134) : spec_l26Draw (k + 1) c_0 =
 (spec_l1Below k c_0 6).bind fun r1 =>
 spec_l26Draw.l0 k k 0 r1.1 r1.2.1 r1.2.2.1 r1.2.2.2.1 [] := by kernel_rfl
theorem spec_l26Draw.l0_eq (k m : Nat) (b_4 : Int) (i_5 : Int) (b0_0 : (List Int)) (b0_1 : Int) (b0_2 : Int) (s1 : (List DT25)) : spec_l26Draw.l0 k (m + 1) b_4 i_5 b0_0 b0_1 b0_2 s1 =
 if (0 : Int) < i_5 then
 (spec_l1Below k (b0_0, (b0_1, (b0_2, ()))) 9).bind fun r2 =>
 if (List.length s1 + List.length ([(((List.length s1 : Nat) : Int), (IntKind.wrap .i64 ((IntKind.wrap .i64 (b_4 + 1)) + r2.1), ()))] : (List DT25))) * 16 ≤ 211106232532992 then
 spec_l26Draw.l0 k m (IntKind.wrap .i64 ((IntKind.wrap .i64 (b_4 + 1)) + r2.1)) (IntKind.wrap .i64 (i_5 - 1)) r2.2.1 r2.2.2.1 r2.2.2.2.1 (s1 ++ ([(((List.length s1 : Nat) : Int), (IntKind.wrap .i64 ((IntKind.wrap .i64 (b_4 + 1)) + r2.1), ()))] : (List DT25))) else none
 else some (s1, (b0_0, (b0_1, (b0_2, ())))) := by kernel_rfl
theorem spec_SeatPlayers_eq (k : Nat) (l_0 : (List DT93)) (score_1 : (List DT60)) (voices_2 : Int) : spec_SeatPlayers (k + 1) l_0 score_1 voices_2 =
 (spec_ArePlayers k l_0).bind fun r1 =>
 if ¬ (r1 = true) then
 some ([], (false, ()))
 else (spec_IsScore k score_1).bind fun r2 =>
 if ¬ (r2 = true) then
 some ([], (false, ()))
 else (spec_l1In k voices_2 1 4).bind fun r3 =>
 if ¬ (r3 = true) then
 some ([], (false, ()))
 else (spec_l29Seat k l_0 score_1 voices_2 []).bind fun r4 =>
 some (r4.1, (decide (r4.2.1 = true), ())) := by kernel_rfl
theorem spec_l29Draw_eq (k : Nat) (c_0 : DT134) : spec_l29Draw (k + 1) c_0 =
 spec_l29Draw.l0 k k 1 c_0.1 c_0.2.1 c_0.2.2.1 [] := by kernel_rfl
theorem spec_l29Draw.l0_eq (k m : Nat) (i_4 : Int) (b0_0 : (List Int)) (b0_1 : Int) (b0_2 : Int) (s1 : (List DT93)) : spec_l29Draw.l0 k (m + 1) i_4 b0_0 b0_1 b0_2 s1 =
 (spec_l1Below k (b0_0, (b0_1, (b0_2, ()))) 5).bind fun r1 =>
 if (i_4 : Int) ≤ (IntKind.wrap .i64 (1 + r1.1)) then
 (spec_l1Below k r1.2 12).bind fun r2 =>
 (spec_l1Below k r2.2 12).bind fun r3 =>
 spec_l29Draw.l1 k k m i_4 1 r3.2.1 r3.2.2.1 r3.2.2.2.1 s1 (IntKind.wrap .i64 (2 * i_4)) (IntKind.wrap .i64 (50 + r2.1)) (IntKind.wrap .i64 (66 + r3.1))
 else some (s1, r1.2) := by kernel_rfl
theorem spec_l29Draw.l1_eq (k m m1 : Nat) (i_4 : Int) (v_6 : Int) (b0_0 : (List Int)) (b0_1 : Int) (b0_2 : Int) (s1 : (List DT93)) (b2_0 : Int) (b2_1 : Int) (b2_2 : Int) : spec_l29Draw.l1 k (m + 1) m1 i_4 v_6 b0_0 b0_1 b0_2 s1 b2_0 b2_1 b2_2 =
 if (v_6 : Int) ≤ 3 then
 (spec_l1Once k (b0_0, (b0_1, (b0_2, ()))) 3).bind fun r4 =>
 if ¬ (r4.1 = true) then
 if List.length ([v_6] : (List Int)) * 8 ≤ 211106232532992 then
 spec_l29Draw.l2 k m m1 i_4 (IntKind.wrap .i64 (v_6 + 1)) r4.2.1 r4.2.2.1 r4.2.2.2.1 s1 b2_0 b2_1 b2_2 ([v_6] : (List Int)) else none
 else spec_l29Draw.l1 k m m1 i_4 (IntKind.wrap .i64 (v_6 + 1)) r4.2.1 r4.2.2.1 r4.2.2.2.1 s1 b2_0 b2_1 b2_2
 else if (List.length s1 + List.length ([(b2_0, (b2_1, (b2_2, ([], ()))))] : (List DT93))) * 48 ≤ 211106232532992 then
 spec_l29Draw.l0 k m1 (IntKind.wrap .i64 (i_4 + 1)) b0_0 b0_1 b0_2 (s1 ++ ([(b2_0, (b2_1, (b2_2, ([], ()))))] : (List DT93))) else none := by kernel_rfl
theorem spec_l29Draw.l2_eq (k m m1 : Nat) (i_4 : Int) (v_6 : Int) (b0_0 : (List Int)) (b0_1 : Int) (b0_2 : Int) (s1 : (List DT93)) (b2_0 : Int) (b2_1 : Int) (b2_2 : Int) (s3 : (List Int)) : spec_l29Draw.l2 k (m + 1) m1 i_4 v_6 b0_0 b0_1 b0_2 s1 b2_0 b2_1 b2_2 s3 =
 if (v_6 : Int) ≤ 3 then
 (spec_l1Once k (b0_0, (b0_1, (b0_2, ()))) 3).bind fun r5 =>
 if ¬ (r5.1 = true) then
 if (List.length s3 + List.length ([v_6] : (List Int))) * 8 ≤ 211106232532992 then
 spec_l29Draw.l2 k m m1 i_4 (IntKind.wrap .i64 (v_6 + 1)) r5.2.1 r5.2.2.1 r5.2.2.2.1 s1 b2_0 b2_1 b2_2 (s3 ++ ([v_6] : (List Int))) else none
 else spec_l29Draw.l2 k m m1 i_4 (IntKind.wrap .i64 (v_6 + 1)) r5.2.1 r5.2.2.1 r5.2.2.2.1 s1 b2_0 b2_1 b2_2 s3
 else if (List.length s1 + List.length ([(b2_0, (b2_1, (b2_2, (s3, ()))))] : (List DT93))) * 48 ≤ 211106232532992 then
 spec_l29Draw.l0 k m1 (IntKind.wrap .i64 (i_4 + 1)) b0_0 b0_1 b0_2 (s1 ++ ([(b2_0, (b2_1, (b2_2, (s3, ()))))] : (List DT93))) else none := by kernel_rfl
theorem impl_CanPlay_eq (k : Nat) (p_0 : DT93) (l_1 : (List DT60)) (voice_2 : Int) : impl_CanPlay (k + 1) p_0 l_1 voice_2 =
 (slices_Contains___int_int k p_0.2.2.2.1 voice_2).bind fun r1 =>
 if r1 = true then
 (impl_IsScore k l_1).bind fun r2 =>
 if r2 = true then
 (impl_VoiceOf k l_1 voice_2).bind fun r3 =>
 (impl_FitsRange k r3 p_0.2.1 p_0.2.2.1).bind fun r4 =>
 some (decide (r4 = true))
 else some false
 else some false := by kernel_rfl
theorem spec_l33Copy_eq (k : Nat) (o_0 : DT32) : spec_l33Copy (k + 1) o_0 =
 if (List.length ([] : (List DT60)) + List.length o_0.1) * 32 ≤ 211106232532992 then
 if (List.length ([] : (List DT25)) + List.length o_0.2.2.1) * 16 ≤ 211106232532992 then
 (spec_l29Copy k o_0.2.2.2.1).bind fun r1 =>
 if (List.length ([] : (List Int)) + List.length o_0.2.2.2.2.1) * 8 ≤ 211106232532992 then
 if (List.length ([] : (List DT110)) + List.length o_0.2.2.2.2.2.1) * 40 ≤ 211106232532992 then
 if (List.length ([] : (List DT25)) + List.length o_0.2.2.2.2.2.2.1) * 16 ≤ 211106232532992 then
 some ((([] : (List DT60)) ++ o_0.1), (o_0.2.1, ((([] : (List DT25)) ++ o_0.2.2.1), (r1, ((([] : (List Int)) ++ o_0.2.2.2.2.1), ((([] : (List DT110)) ++ o_0.2.2.2.2.2.1), ((([] : (List DT25)) ++ o_0.2.2.2.2.2.2.1), o_0.2.2.2.2.2.2.2))))))) else none else none else none else none else none := by kernel_rfl
theorem spec_IsOrchestra_eq (k : Nat) (o_0 : DT32) : spec_IsOrchestra (k + 1) o_0 =
 (spec_IsScore k o_0.1).bind fun r1 =>
 if r1 = true then
 (spec_IsMeter k o_0.2.1).bind fun r2 =>
 if r2 = true then
 (spec_IsTempo k o_0.2.2.1).bind fun r3 =>
 if r3 = true then
 (spec_AreMarks k o_0.2.2.2.2.2.1).bind fun r4 =>
 if r4 = true then
 (spec_AreLetters k o_0.2.2.2.2.2.2.1).bind fun r5 =>
 if r5 = true then
 (spec_IsSeating k o_0.2.2.2.1 o_0.1 o_0.2.2.2.2.1).bind fun r6 =>
 if r6 = true then
 (spec_l1In k o_0.2.2.2.2.2.2.2.1 1 9999).bind fun r7 =>
 if r7 = true then
 (spec_l1In k o_0.2.2.2.2.2.2.2.2.1 0 100000).bind fun r8 =>
 some (decide (r8 = true))
 else some false
 else some false
 else some false
 else some false
 else some false
 else some false
 else some false := by kernel_rfl
theorem spec_l25Mark_eq (k : Nat) (c_0 : DT134) : spec_l25Mark (k + 1) c_0 =
 (spec_l1Below k c_0 5).bind fun r1 =>
 (spec_l1Below k r1.2 4).bind fun r2 =>
 (spec_l1Below k r2.2 4).bind fun r3 =>
 (spec_l1Below k r3.2 5).bind fun r4 =>
 (spec_l1Below k r4.2 3).bind fun r5 =>
 some ((IntKind.wrap .i64 (1 + r1.1), (IntKind.wrap .i64 (1 + r2.1), (r3.1, (r4.1, (IntKind.wrap .i64 (1 + r5.1), ()))))), r5.2) := by kernel_rfl
theorem spec_SetMark_eq (k : Nat) (l_0 : (List DT110)) (x_1 : DT110) : spec_SetMark (k + 1) l_0 x_1 =
 (spec_l25Set k l_0 x_1).bind fun r1 =>
 (spec_AreMarks k l_0).bind fun r2 =>
 if ¬ (r2 = true) then
 if (List.length ([] : (List DT110)) + List.length l_0) * 40 ≤ 211106232532992 then
 some (([] : (List DT110)) ++ l_0) else none
 else (spec_AreMarks k r1).bind fun r3 =>
 if ¬ (r3 = true) then
 if (List.length ([] : (List DT110)) + List.length l_0) * 40 ≤ 211106232532992 then
 some (([] : (List DT110)) ++ l_0) else none
 else some r1 := by kernel_rfl
theorem spec_ArePlayers_eq (k : Nat) (l_0 : (List DT93)) : spec_ArePlayers (k + 1) l_0 =
 spec_ArePlayers.l0 k k l_0 0 := by kernel_rfl
theorem spec_ArePlayers.l0_eq (k m : Nat) (l_0 : (List DT93)) (i_3 : Int) : spec_ArePlayers.l0 k (m + 1) l_0 i_3 =
 if (i_3 : Int) < ((List.length l_0 : Nat) : Int) then
 if 0 ≤ i_3 then
 if i_3 < ((List.length l_0 : Nat) : Int) then
 (spec_l1In k (rd T93 l_0 i_3).1 1 99).bind fun r1 =>
 if ¬ (r1 = true) then
 some false
 else if LT.lt (α := Int) (rd T93 l_0 i_3).2.1 21 then
 some false
 else if LT.lt (α := Int) (rd T93 l_0 i_3).2.2.1 (rd T93 l_0 i_3).2.1 then
 some false
 else if LT.lt (α := Int) 108 (rd T93 l_0 i_3).2.2.1 then
 some false
 else if (0 : Int) < i_3 then
 if 0 ≤ (IntKind.wrap .i64 (i_3 - 1)) then
 if (IntKind.wrap .i64 (i_3 - 1)) < ((List.length l_0 : Nat) : Int) then
 if LE.le (α := Int) (rd T93 l_0 i_3).1 (rd T93 l_0 (IntKind.wrap .i64 (i_3 - 1))).1 then
 some false
 else spec_ArePlayers.l1 k k m l_0 i_3 0 (rd T93 l_0 i_3).1 (rd T93 l_0 i_3).2.1 (rd T93 l_0 i_3).2.2.1 (rd T93 l_0 i_3).2.2.2.1 else none else none
 else spec_ArePlayers.l1 k k m l_0 i_3 0 (rd T93 l_0 i_3).1 (rd T93 l_0 i_3).2.1 (rd T93 l_0 i_3).2.2.1 (rd T93 l_0 i_3).2.2.2.1 else none else none
 else some (decide ((((List.length l_0 : Nat) : Int) : Int) ≤ 8)) := by kernel_rfl
theorem spec_ArePlayers.l1_eq (k m m1 : Nat) (l_0 : (List DT93)) (i_3 : Int) (k_5 : Int) (b0_0 : Int) (b0_1 : Int) (b0_2 : Int) (b0_3 : (List Int)) : spec_ArePlayers.l1 k (m + 1) m1 l_0 i_3 k_5 b0_0 b0_1 b0_2 b0_3 =
 if (k_5 : Int) < ((List.length b0_3 : Nat) : Int) then
 if 0 ≤ k_5 then
 if k_5 < ((List.length b0_3 : Nat) : Int) then
 (spec_l1In k (rd (.int .i64) b0_3 k_5) 1 4).bind fun r2 =>
 if ¬ (r2 = true) then
 some false
 else if (0 : Int) < k_5 then
 if 0 ≤ (IntKind.wrap .i64 (k_5 - 1)) then
 if (IntKind.wrap .i64 (k_5 - 1)) < ((List.length b0_3 : Nat) : Int) then
 if 0 ≤ k_5 then
 if k_5 < ((List.length b0_3 : Nat) : Int) then
 if LE.le (α := Int) (rd (.int .i64) b0_3 k_5) (rd (.int .i64) b0_3 (IntKind.wrap .i64 (k_5 - 1))) then
 some false
 else spec_ArePlayers.l1 k m m1 l_0 i_3 (IntKind.wrap .i64 (k_5 + 1)) b0_0 b0_1 b0_2 b0_3 else none else none else none else none
 else spec_ArePlayers.l1 k m m1 l_0 i_3 (IntKind.wrap .i64 (k_5 + 1)) b0_0 b0_1 b0_2 b0_3 else none else none
 else spec_ArePlayers.l0 k m1 l_0 (IntKind.wrap .i64 (i_3 + 1)) := by kernel_rfl
theorem spec_l29Seat_eq (k : Nat) (l_0 : (List DT93)) (score_1 : (List DT60)) (voices_2 : Int) (taken_3 : (List Int)) : spec_l29Seat (k + 1) l_0 score_1 voices_2 taken_3 =
 if (((List.length taken_3 : Nat) : Int) : Int) = voices_2 then
 if (List.length ([] : (List Int)) + List.length taken_3) * 8 ≤ 211106232532992 then
 some ((([] : (List Int)) ++ taken_3), (true, ())) else none
 else spec_l29Seat.l0 k k l_0 score_1 voices_2 taken_3 0 := by kernel_rfl
theorem spec_l29Seat.l0_eq (k m : Nat) (l_0 : (List DT93)) (score_1 : (List DT60)) (voices_2 : Int) (taken_3 : (List Int)) (i_10 : Int) : spec_l29Seat.l0 k (m + 1) l_0 score_1 voices_2 taken_3 i_10 =
 if (i_10 : Int) < ((List.length l_0 : Nat) : Int) then
 if 0 ≤ i_10 then
 if i_10 < ((List.length l_0 : Nat) : Int) then
 (spec_l27Has k taken_3 (rd T93 l_0 i_10).1).bind fun r1 =>
 if r1 = true then
 spec_l29Seat.l0 k m l_0 score_1 voices_2 taken_3 (IntKind.wrap .i64 (i_10 + 1))
 else if 0 ≤ i_10 then
 if i_10 < ((List.length l_0 : Nat) : Int) then
 (spec_CanPlay k (rd T93 l_0 i_10) score_1 (IntKind.wrap .i64 (((List.length taken_3 : Nat) : Int) + 1))).bind fun r2 =>
 if ¬ (r2 = true) then
 spec_l29Seat.l0 k m l_0 score_1 voices_2 taken_3 (IntKind.wrap .i64 (i_10 + 1))
 else if (List.length ([] : (List Int)) + List.length taken_3) * 8 ≤ 211106232532992 then
 if 0 ≤ i_10 then
 if i_10 < ((List.length l_0 : Nat) : Int) then
 if (List.length (([] : (List Int)) ++ taken_3) + List.length ([(rd T93 l_0 i_10).1] : (List Int))) * 8 ≤ 211106232532992 then
 (spec_l29Seat k l_0 score_1 voices_2 ((([] : (List Int)) ++ taken_3) ++ ([(rd T93 l_0 i_10).1] : (List Int)))).bind fun r3 =>
 if r3.2.1 = true then
 some (r3.1, (true, ()))
 else spec_l29Seat.l0 k m l_0 score_1 voices_2 taken_3 (IntKind.wrap .i64 (i_10 + 1)) else none else none else none else none else none else none else none else none
 else some ([], (false, ())) := by kernel_rfl
theorem impl_FitsRange_eq (k : Nat) (l_0 : (List DT60)) (low_1 : Int) (high_2 : Int) : impl_FitsRange (k + 1) l_0 low_1 high_2 =
 impl_FitsRange.l0 k k l_0 low_1 high_2 l_0 ((List.length l_0 : Nat) : Int) 0 := by kernel_rfl
theorem impl_FitsRange.l0_eq (k m : Nat) (l_0 : (List DT60)) (low_1 : Int) (high_2 : Int) (t_9 : (List DT60)) (t_10 : Int) (t_11 : Int) : impl_FitsRange.l0 k (m + 1) l_0 low_1 high_2 t_9 t_10 t_11 =
 if (t_11 : Int) < t_10 then
 if 0 ≤ t_11 then
 if t_11 < ((List.length t_9 : Nat) : Int) then
 (impl_InRange k (rd T60 t_9 t_11).2.2.1 low_1 high_2).bind fun r1 =>
 if ¬ (r1 = true) then
 some false
 else impl_FitsRange.l0 k m l_0 low_1 high_2 t_9 t_10 (IntKind.wrap .i64 (t_11 + 1)) else none else none
 else (impl_IsScore k l_0).bind fun r2 =>
 some (decide (r2 = true)) := by kernel_rfl
theorem spec_l29Copy_eq (k : Nat) (l_0 : (List DT93)) : spec_l29Copy (k + 1) l_0 =
 spec_l29Copy.l0 k k l_0 0 [] := by kernel_rfl
theorem spec_l29Copy.l0_eq (k m : Nat) (l_0 : (List DT93)) (i_4 : Int) (s0 : (List DT93)) : spec_l29Copy.l0 k (m + 1) l_0 i_4 s0 =
 if (i_4 : Int) < ((List.length l_0 : Nat) : Int) then
 if 0 ≤ i_4 then
 if i_4 < ((List.length l_0 : Nat) : Int) then
 if (List.length ([] : (List Int)) + List.length (rd T93 l_0 i_4).2.2.2.1) * 8 ≤ 211106232532992 then
 if (List.length s0 + List.length ([((rd T93 l_0 i_4).1, ((rd T93 l_0 i_4).2.1, ((rd T93 l_0 i_4).2.2.1, ((([] : (List Int)) ++ (rd T93 l_0 i_4).2.2.2.1), ()))))] : (List DT93))) * 48 ≤ 211106232532992 then
 spec_l29Copy.l0 k m l_0 (IntKind.wrap .i64 (i_4 + 1)) (s0 ++ ([((rd T93 l_0 i_4).1, ((rd T93 l_0 i_4).2.1, ((rd T93 l_0 i_4).2.2.1, ((([] : (List Int)) ++ (rd T93 l_0 i_4).2.2.2.1), ()))))] : (List DT93))) else none else none else none else none
 else some s0 := by kernel_rfl
theorem spec_IsMeter_eq (k : Nat) (m_0 : DT25) : spec_IsMeter (k + 1) m_0 =
 (spec_l1In k m_0.1 1 12).bind fun r1 =>
 if r1 = true then
 if (m_0.2.1 : Int) = 1 then
 some true
 else if (m_0.2.1 : Int) = 2 then
 some true
 else if (m_0.2.1 : Int) = 4 then
 some true
 else some (decide ((m_0.2.1 : Int) = 8))
 else some false := by kernel_rfl
theorem spec_IsTempo_eq (k : Nat) (l_0 : (List DT25)) : spec_IsTempo (k + 1) l_0 =
 spec_IsTempo.l0 k k l_0 0 := by kernel_rfl
theorem spec_IsTempo.l0_eq (k m : Nat) (l_0 : (List DT25)) (i_3 : Int) : spec_IsTempo.l0 k (m + 1) l_0 i_3 =
 if (i_3 : Int) < ((List.length l_0 : Nat) : Int) then
 if 0 ≤ i_3 then
 if i_3 < ((List.length l_0 : Nat) : Int) then
 (spec_l1In k (rd T25 l_0 i_3).2.1 20 300).bind fun r1 =>
 if ¬ (r1 = true) then
 some false
 else if 0 ≤ i_3 then
 if i_3 < ((List.length l_0 : Nat) : Int) then
 (spec_l1In k (rd T25 l_0 i_3).1 0 2000).bind fun r2 =>
 if ¬ (r2 = true) then
 some false
 else if (i_3 : Int) = 0 then
 if 0 ≤ i_3 then
 if i_3 < ((List.length l_0 : Nat) : Int) then
 if Ne (α := Int) (rd T25 l_0 i_3).1 0 then
 some false
 else if (0 : Int) < i_3 then
 if 0 ≤ (IntKind.wrap .i64 (i_3 - 1)) then
 if (IntKind.wrap .i64 (i_3 - 1)) < ((List.length l_0 : Nat) : Int) then
 if 0 ≤ i_3 then
 if i_3 < ((List.length l_0 : Nat) : Int) then
 if LE.le (α := Int) (rd T25 l_0 i_3).1 (rd T25 l_0 (IntKind.wrap .i64 (i_3 - 1))).1 then
 some false
 else spec_IsTempo.l0 k m l_0 (IntKind.wrap .i64 (i_3 + 1)) else none else none else none else none
 else spec_IsTempo.l0 k m l_0 (IntKind.wrap .i64 (i_3 + 1)) else none else none
 else if (0 : Int) < i_3 then
 if 0 ≤ (IntKind.wrap .i64 (i_3 - 1)) then
 if (IntKind.wrap .i64 (i_3 - 1)) < ((List.length l_0 : Nat) : Int) then
 if 0 ≤ i_3 then
 if i_3 < ((List.length l_0 : Nat) : Int) then
 if LE.le (α := Int) (rd T25 l_0 i_3).1 (rd T25 l_0 (IntKind.wrap .i64 (i_3 - 1))).1 then
 some false
 else spec_IsTempo.l0 k m l_0 (IntKind.wrap .i64 (i_3 + 1)) else none else none else none else none
 else spec_IsTempo.l0 k m l_0 (IntKind.wrap .i64 (i_3 + 1)) else none else none else none else none
 else (spec_l1In k ((List.length l_0 : Nat) : Int) 1 8).bind fun r3 =>
 some (decide (r3 = true)) := by kernel_rfl
theorem spec_AreMarks_eq (k : Nat) (l_0 : (List DT110)) : spec_AreMarks (k + 1) l_0 =
 spec_AreMarks.l0 k k l_0 0 := by kernel_rfl
theorem spec_AreMarks.l0_eq (k m : Nat) (l_0 : (List DT110)) (i_3 : Int) : spec_AreMarks.l0 k (m + 1) l_0 i_3 =
 if (i_3 : Int) < ((List.length l_0 : Nat) : Int) then
 if 0 ≤ i_3 then
 if i_3 < ((List.length l_0 : Nat) : Int) then
 (spec_l1In k (rd T110 l_0 i_3).1 1 100).bind fun r1 =>
 if ¬ (r1 = true) then
 some false
 else (spec_l1In k (rd T110 l_0 i_3).2.1 1 4).bind fun r2 =>
 if ¬ (r2 = true) then
 some false
 else (spec_l1In k (rd T110 l_0 i_3).2.2.1 0 9).bind fun r3 =>
 if ¬ (r3 = true) then
 some false
 else (spec_l1In k (rd T110 l_0 i_3).2.2.2.1 0 100000).bind fun r4 =>
 if ¬ (r4 = true) then
 some false
 else (spec_l1In k (rd T110 l_0 i_3).2.2.2.2.1 1 99).bind fun r5 =>
 if ¬ (r5 = true) then
 some false
 else if (0 : Int) < i_3 then
 if 0 ≤ (IntKind.wrap .i64 (i_3 - 1)) then
 if (IntKind.wrap .i64 (i_3 - 1)) < ((List.length l_0 : Nat) : Int) then
 (spec_l25Before k (rd T110 l_0 (IntKind.wrap .i64 (i_3 - 1))) (rd T110 l_0 i_3)).bind fun r6 =>
 if ¬ (r6 = true) then
 some false
 else spec_AreMarks.l0 k m l_0 (IntKind.wrap .i64 (i_3 + 1)) else none else none
 else spec_AreMarks.l0 k m l_0 (IntKind.wrap .i64 (i_3 + 1)) else none else none
 else some (decide ((((List.length l_0 : Nat) : Int) : Int) ≤ 30)) := by kernel_rfl
theorem spec_AreLetters_eq (k : Nat) (l_0 : (List DT25)) : spec_AreLetters (k + 1) l_0 =
 spec_AreLetters.l0 k k l_0 0 := by kernel_rfl
theorem spec_AreLetters.l0_eq (k m : Nat) (l_0 : (List DT25)) (i_3 : Int) : spec_AreLetters.l0 k (m + 1) l_0 i_3 =
 if (i_3 : Int) < ((List.length l_0 : Nat) : Int) then
 if 0 ≤ i_3 then
 if i_3 < ((List.length l_0 : Nat) : Int) then
 if Ne (α := Int) (rd T25 l_0 i_3).1 i_3 then
 some false
 else if 0 ≤ i_3 then
 if i_3 < ((List.length l_0 : Nat) : Int) then
 (spec_l1In k (rd T25 l_0 i_3).2.1 1 500).bind fun r1 =>
 if ¬ (r1 = true) then
 some false
 else if (0 : Int) < i_3 then
 if 0 ≤ (IntKind.wrap .i64 (i_3 - 1)) then
 if (IntKind.wrap .i64 (i_3 - 1)) < ((List.length l_0 : Nat) : Int) then
 if 0 ≤ i_3 then
 if i_3 < ((List.length l_0 : Nat) : Int) then
 if LE.le (α := Int) (rd T25 l_0 i_3).2.1 (rd T25 l_0 (IntKind.wrap .i64 (i_3 - 1))).2.1 then
 some false
 else spec_AreLetters.l0 k m l_0 (IntKind.wrap .i64 (i_3 + 1)) else none else none else none else none
 else spec_AreLetters.l0 k m l_0 (IntKind.wrap .i64 (i_3 + 1)) else none else none else none else none
 else some (decide ((((List.length l_0 : Nat) : Int) : Int) ≤ 26)) := by kernel_rfl
theorem spec_IsSeating_eq (k : Nat) (l_0 : (List DT93)) (score_1 : (List DT60)) (seats_2 : (List Int)) : spec_IsSeating (k + 1) l_0 score_1 seats_2 =
 spec_IsSeating.l0 k k l_0 score_1 seats_2 0 := by kernel_rfl
theorem spec_IsSeating.l0_eq (k m : Nat) (l_0 : (List DT93)) (score_1 : (List DT60)) (seats_2 : (List Int)) (i_7 : Int) : spec_IsSeating.l0 k (m + 1) l_0 score_1 seats_2 i_7 =
 if (i_7 : Int) < ((List.length seats_2 : Nat) : Int) then
 spec_IsSeating.l1 k k m l_0 score_1 seats_2 i_7 false 0
 else (spec_ArePlayers k l_0).bind fun r1 =>
 if r1 = true then
 (spec_IsScore k score_1).bind fun r2 =>
 if r2 = true then
 some (decide ((((List.length seats_2 : Nat) : Int) : Int) ≤ 4))
 else some false
 else some false := by kernel_rfl
theorem spec_IsSeating.l1_eq (k m m1 : Nat) (l_0 : (List DT93)) (score_1 : (List DT60)) (seats_2 : (List Int)) (i_7 : Int) (good_8 : Bool) (k_9 : Int) : spec_IsSeating.l1 k (m + 1) m1 l_0 score_1 seats_2 i_7 good_8 k_9 =
 if (k_9 : Int) < ((List.length l_0 : Nat) : Int) then
 if good_8 = true then
 spec_IsSeating.l1 k m m1 l_0 score_1 seats_2 i_7 true (IntKind.wrap .i64 (k_9 + 1))
 else if 0 ≤ k_9 then
 if k_9 < ((List.length l_0 : Nat) : Int) then
 if 0 ≤ i_7 then
 if i_7 < ((List.length seats_2 : Nat) : Int) then
 if Eq (α := Int) (rd T93 l_0 k_9).1 (rd (.int .i64) seats_2 i_7) then
 if 0 ≤ k_9 then
 if k_9 < ((List.length l_0 : Nat) : Int) then
 (spec_CanPlay k (rd T93 l_0 k_9) score_1 (IntKind.wrap .i64 (i_7 + 1))).bind fun r3 =>
 spec_IsSeating.l1 k m m1 l_0 score_1 seats_2 i_7 (decide (r3 = true)) (IntKind.wrap .i64 (k_9 + 1)) else none else none
 else spec_IsSeating.l1 k m m1 l_0 score_1 seats_2 i_7 false (IntKind.wrap .i64 (k_9 + 1)) else none else none else none else none
 else if ¬ (good_8 = true) then
 some false
 else if 0 ≤ i_7 then
 if i_7 ≤ ((List.length seats_2 : Nat) : Int) then
 if 0 ≤ i_7 then
 if i_7 < ((List.length seats_2 : Nat) : Int) then
 (spec_l27Has k (List.take ((Int.toNat i_7) - (Int.toNat 0)) (List.drop (Int.toNat 0) seats_2)) (rd (.int .i64) seats_2 i_7)).bind fun r4 =>
 if r4 = true then
 some false
 else spec_IsSeating.l0 k m1 l_0 score_1 seats_2 (IntKind.wrap .i64 (i_7 + 1)) else none else none else none else none := by kernel_rfl
theorem spec_l25Set_eq (k : Nat) (l_0 : (List DT110)) (x_1 : DT110) : spec_l25Set (k + 1) l_0 x_1 =
 spec_l25Set.l0 k k l_0 0 x_1.1 x_1.2.1 x_1.2.2.1 x_1.2.2.2.1 x_1.2.2.2.2.1 := by kernel_rfl
theorem spec_l25Set.l0_eq (k m : Nat) (l_0 : (List DT110)) (k_5 : Int) (b0_0 : Int) (b0_1 : Int) (b0_2 : Int) (b0_3 : Int) (b0_4 : Int) : spec_l25Set.l0 k (m + 1) l_0 k_5 b0_0 b0_1 b0_2 b0_3 b0_4 =
 if (k_5 : Int) < ((List.length l_0 : Nat) : Int) then
 if 0 ≤ k_5 then
 if k_5 < ((List.length l_0 : Nat) : Int) then
 (spec_l25Before k (rd T110 l_0 k_5) (b0_0, (b0_1, (b0_2, (b0_3, (b0_4, ())))))).bind fun r1 =>
 if r1 = true then
 spec_l25Set.l0 k m l_0 (IntKind.wrap .i64 (k_5 + 1)) b0_0 b0_1 b0_2 b0_3 b0_4
 else if 0 ≤ k_5 then
 if k_5 ≤ ((List.length l_0 : Nat) : Int) then
 if (0 : Int) < ((List.length (List.take ((Int.toNat ((List.length l_0 : Nat) : Int)) - (Int.toNat k_5)) (List.drop (Int.toNat k_5) l_0)) : Nat) : Int) then
 if 0 ≤ 0 then
 if 0 < ((List.length (List.take ((Int.toNat ((List.length l_0 : Nat) : Int)) - (Int.toNat k_5)) (List.drop (Int.toNat k_5) l_0)) : Nat) : Int) then
 if Eq (α := Int) (rd T110 (List.take ((Int.toNat ((List.length l_0 : Nat) : Int)) - (Int.toNat k_5)) (List.drop (Int.toNat k_5) l_0)) 0).1 b0_0 then
 if 0 ≤ 0 then
 if 0 < ((List.length (List.take ((Int.toNat ((List.length l_0 : Nat) : Int)) - (Int.toNat k_5)) (List.drop (Int.toNat k_5) l_0)) : Nat) : Int) then
 if Eq (α := Int) (rd T110 (List.take ((Int.toNat ((List.length l_0 : Nat) : Int)) - (Int.toNat k_5)) (List.drop (Int.toNat k_5) l_0)) 0).2.1 b0_1 then
 if 0 ≤ 0 then
 if 0 < ((List.length (List.take ((Int.toNat ((List.length l_0 : Nat) : Int)) - (Int.toNat k_5)) (List.drop (Int.toNat k_5) l_0)) : Nat) : Int) then
 (spec_IsNewer k (b0_0, (b0_1, (b0_2, (b0_3, (b0_4, ()))))) (rd T110 (List.take ((Int.toNat ((List.length l_0 : Nat) : Int)) - (Int.toNat k_5)) (List.drop (Int.toNat k_5) l_0)) 0)).bind fun r2 =>
 if ¬ (r2 = true) then
 if (List.length ([] : (List DT110)) + List.length l_0) * 40 ≤ 211106232532992 then
 some (([] : (List DT110)) ++ l_0) else none
 else if 0 ≤ 1 then
 if 1 ≤ ((List.length (List.take ((Int.toNat ((List.length l_0 : Nat) : Int)) - (Int.toNat k_5)) (List.drop (Int.toNat k_5) l_0)) : Nat) : Int) then
 if 0 ≤ k_5 then
 if k_5 ≤ ((List.length l_0 : Nat) : Int) then
 if (List.length ([] : (List DT110)) + List.length (List.take ((Int.toNat k_5) - (Int.toNat 0)) (List.drop (Int.toNat 0) l_0))) * 40 ≤ 211106232532992 then
 if (List.length (([] : (List DT110)) ++ (List.take ((Int.toNat k_5) - (Int.toNat 0)) (List.drop (Int.toNat 0) l_0))) + List.length ([(b0_0, (b0_1, (b0_2, (b0_3, (b0_4, ())))))] : (List DT110))) * 40 ≤ 211106232532992 then
 if (List.length ((([] : (List DT110)) ++ (List.take ((Int.toNat k_5) - (Int.toNat 0)) (List.drop (Int.toNat 0) l_0))) ++ ([(b0_0, (b0_1, (b0_2, (b0_3, (b0_4, ())))))] : (List DT110))) + List.length (List.take ((Int.toNat ((List.length (List.take ((Int.toNat ((List.length l_0 : Nat) : Int)) - (Int.toNat k_5)) (List.drop (Int.toNat k_5) l_0)) : Nat) : Int)) - (Int.toNat 1)) (List.drop (Int.toNat 1) (List.take ((Int.toNat ((List.length l_0 : Nat) : Int)) - (Int.toNat k_5)) (List.drop (Int.toNat k_5) l_0))))) * 40 ≤ 211106232532992 then
 some (((([] : (List DT110)) ++ (List.take ((Int.toNat k_5) - (Int.toNat 0)) (List.drop (Int.toNat 0) l_0))) ++ ([(b0_0, (b0_1, (b0_2, (b0_3, (b0_4, ())))))] : (List DT110))) ++ (List.take ((Int.toNat ((List.length (List.take ((Int.toNat ((List.length l_0 : Nat) : Int)) - (Int.toNat k_5)) (List.drop (Int.toNat k_5) l_0)) : Nat) : Int)) - (Int.toNat 1)) (List.drop (Int.toNat 1) (List.take ((Int.toNat ((List.length l_0 : Nat) : Int)) - (Int.toNat k_5)) (List.drop (Int.toNat k_5) l_0))))) else none else none else none else none else none else none else none else none else none
 else if 0 ≤ k_5 then
 if k_5 ≤ ((List.length l_0 : Nat) : Int) then
 if (List.length ([] : (List DT110)) + List.length (List.take ((Int.toNat k_5) - (Int.toNat 0)) (List.drop (Int.toNat 0) l_0))) * 40 ≤ 211106232532992 then
 if (List.length (([] : (List DT110)) ++ (List.take ((Int.toNat k_5) - (Int.toNat 0)) (List.drop (Int.toNat 0) l_0))) + List.length ([(b0_0, (b0_1, (b0_2, (b0_3, (b0_4, ())))))] : (List DT110))) * 40 ≤ 211106232532992 then
 if (List.length ((([] : (List DT110)) ++ (List.take ((Int.toNat k_5) - (Int.toNat 0)) (List.drop (Int.toNat 0) l_0))) ++ ([(b0_0, (b0_1, (b0_2, (b0_3, (b0_4, ())))))] : (List DT110))) + List.length (List.take ((Int.toNat ((List.length l_0 : Nat) : Int)) - (Int.toNat k_5)) (List.drop (Int.toNat k_5) l_0))) * 40 ≤ 211106232532992 then
 some (((([] : (List DT110)) ++ (List.take ((Int.toNat k_5) - (Int.toNat 0)) (List.drop (Int.toNat 0) l_0))) ++ ([(b0_0, (b0_1, (b0_2, (b0_3, (b0_4, ())))))] : (List DT110))) ++ (List.take ((Int.toNat ((List.length l_0 : Nat) : Int)) - (Int.toNat k_5)) (List.drop (Int.toNat k_5) l_0))) else none else none else none else none else none else none else none
 else if 0 ≤ k_5 then
 if k_5 ≤ ((List.length l_0 : Nat) : Int) then
 if (List.length ([] : (List DT110)) + List.length (List.take ((Int.toNat k_5) - (Int.toNat 0)) (List.drop (Int.toNat 0) l_0))) * 40 ≤ 211106232532992 then
 if (List.length (([] : (List DT110)) ++ (List.take ((Int.toNat k_5) - (Int.toNat 0)) (List.drop (Int.toNat 0) l_0))) + List.length ([(b0_0, (b0_1, (b0_2, (b0_3, (b0_4, ())))))] : (List DT110))) * 40 ≤ 211106232532992 then
 if (List.length ((([] : (List DT110)) ++ (List.take ((Int.toNat k_5) - (Int.toNat 0)) (List.drop (Int.toNat 0) l_0))) ++ ([(b0_0, (b0_1, (b0_2, (b0_3, (b0_4, ())))))] : (List DT110))) + List.length (List.take ((Int.toNat ((List.length l_0 : Nat) : Int)) - (Int.toNat k_5)) (List.drop (Int.toNat k_5) l_0))) * 40 ≤ 211106232532992 then
 some (((([] : (List DT110)) ++ (List.take ((Int.toNat k_5) - (Int.toNat 0)) (List.drop (Int.toNat 0) l_0))) ++ ([(b0_0, (b0_1, (b0_2, (b0_3, (b0_4, ())))))] : (List DT110))) ++ (List.take ((Int.toNat ((List.length l_0 : Nat) : Int)) - (Int.toNat k_5)) (List.drop (Int.toNat k_5) l_0))) else none else none else none else none else none else none else none
 else if 0 ≤ k_5 then
 if k_5 ≤ ((List.length l_0 : Nat) : Int) then
 if (List.length ([] : (List DT110)) + List.length (List.take ((Int.toNat k_5) - (Int.toNat 0)) (List.drop (Int.toNat 0) l_0))) * 40 ≤ 211106232532992 then
 if (List.length (([] : (List DT110)) ++ (List.take ((Int.toNat k_5) - (Int.toNat 0)) (List.drop (Int.toNat 0) l_0))) + List.length ([(b0_0, (b0_1, (b0_2, (b0_3, (b0_4, ())))))] : (List DT110))) * 40 ≤ 211106232532992 then
 if (List.length ((([] : (List DT110)) ++ (List.take ((Int.toNat k_5) - (Int.toNat 0)) (List.drop (Int.toNat 0) l_0))) ++ ([(b0_0, (b0_1, (b0_2, (b0_3, (b0_4, ())))))] : (List DT110))) + List.length (List.take ((Int.toNat ((List.length l_0 : Nat) : Int)) - (Int.toNat k_5)) (List.drop (Int.toNat k_5) l_0))) * 40 ≤ 211106232532992 then
 some (((([] : (List DT110)) ++ (List.take ((Int.toNat k_5) - (Int.toNat 0)) (List.drop (Int.toNat 0) l_0))) ++ ([(b0_0, (b0_1, (b0_2, (b0_3, (b0_4, ())))))] : (List DT110))) ++ (List.take ((Int.toNat ((List.length l_0 : Nat) : Int)) - (Int.toNat k_5)) (List.drop (Int.toNat k_5) l_0))) else none else none else none else none else none else none else none else none else none
 else if 0 ≤ k_5 then
 if k_5 ≤ ((List.length l_0 : Nat) : Int) then
 if (0 : Int) < ((List.length (List.take ((Int.toNat ((List.length l_0 : Nat) : Int)) - (Int.toNat k_5)) (List.drop (Int.toNat k_5) l_0)) : Nat) : Int) then
 if 0 ≤ 0 then
 if 0 < ((List.length (List.take ((Int.toNat ((List.length l_0 : Nat) : Int)) - (Int.toNat k_5)) (List.drop (Int.toNat k_5) l_0)) : Nat) : Int) then
 if Eq (α := Int) (rd T110 (List.take ((Int.toNat ((List.length l_0 : Nat) : Int)) - (Int.toNat k_5)) (List.drop (Int.toNat k_5) l_0)) 0).1 b0_0 then
 if 0 ≤ 0 then
 if 0 < ((List.length (List.take ((Int.toNat ((List.length l_0 : Nat) : Int)) - (Int.toNat k_5)) (List.drop (Int.toNat k_5) l_0)) : Nat) : Int) then
 if Eq (α := Int) (rd T110 (List.take ((Int.toNat ((List.length l_0 : Nat) : Int)) - (Int.toNat k_5)) (List.drop (Int.toNat k_5) l_0)) 0).2.1 b0_1 then
 if 0 ≤ 0 then
 if 0 < ((List.length (List.take ((Int.toNat ((List.length l_0 : Nat) : Int)) - (Int.toNat k_5)) (List.drop (Int.toNat k_5) l_0)) : Nat) : Int) then
 (spec_IsNewer k (b0_0, (b0_1, (b0_2, (b0_3, (b0_4, ()))))) (rd T110 (List.take ((Int.toNat ((List.length l_0 : Nat) : Int)) - (Int.toNat k_5)) (List.drop (Int.toNat k_5) l_0)) 0)).bind fun r3 =>
 if ¬ (r3 = true) then
 if (List.length ([] : (List DT110)) + List.length l_0) * 40 ≤ 211106232532992 then
 some (([] : (List DT110)) ++ l_0) else none
 else if 0 ≤ 1 then
 if 1 ≤ ((List.length (List.take ((Int.toNat ((List.length l_0 : Nat) : Int)) - (Int.toNat k_5)) (List.drop (Int.toNat k_5) l_0)) : Nat) : Int) then
 if 0 ≤ k_5 then
 if k_5 ≤ ((List.length l_0 : Nat) : Int) then
 if (List.length ([] : (List DT110)) + List.length (List.take ((Int.toNat k_5) - (Int.toNat 0)) (List.drop (Int.toNat 0) l_0))) * 40 ≤ 211106232532992 then
 if (List.length (([] : (List DT110)) ++ (List.take ((Int.toNat k_5) - (Int.toNat 0)) (List.drop (Int.toNat 0) l_0))) + List.length ([(b0_0, (b0_1, (b0_2, (b0_3, (b0_4, ())))))] : (List DT110))) * 40 ≤ 211106232532992 then
 if (List.length ((([] : (List DT110)) ++ (List.take ((Int.toNat k_5) - (Int.toNat 0)) (List.drop (Int.toNat 0) l_0))) ++ ([(b0_0, (b0_1, (b0_2, (b0_3, (b0_4, ())))))] : (List DT110))) + List.length (List.take ((Int.toNat ((List.length (List.take ((Int.toNat ((List.length l_0 : Nat) : Int)) - (Int.toNat k_5)) (List.drop (Int.toNat k_5) l_0)) : Nat) : Int)) - (Int.toNat 1)) (List.drop (Int.toNat 1) (List.take ((Int.toNat ((List.length l_0 : Nat) : Int)) - (Int.toNat k_5)) (List.drop (Int.toNat k_5) l_0))))) * 40 ≤ 211106232532992 then
 some (((([] : (List DT110)) ++ (List.take ((Int.toNat k_5) - (Int.toNat 0)) (List.drop (Int.toNat 0) l_0))) ++ ([(b0_0, (b0_1, (b0_2, (b0_3, (b0_4, ())))))] : (List DT110))) ++ (List.take ((Int.toNat ((List.length (List.take ((Int.toNat ((List.length l_0 : Nat) : Int)) - (Int.toNat k_5)) (List.drop (Int.toNat k_5) l_0)) : Nat) : Int)) - (Int.toNat 1)) (List.drop (Int.toNat 1) (List.take ((Int.toNat ((List.length l_0 : Nat) : Int)) - (Int.toNat k_5)) (List.drop (Int.toNat k_5) l_0))))) else none else none else none else none else none else none else none else none else none
 else if 0 ≤ k_5 then
 if k_5 ≤ ((List.length l_0 : Nat) : Int) then
 if (List.length ([] : (List DT110)) + List.length (List.take ((Int.toNat k_5) - (Int.toNat 0)) (List.drop (Int.toNat 0) l_0))) * 40 ≤ 211106232532992 then
 if (List.length (([] : (List DT110)) ++ (List.take ((Int.toNat k_5) - (Int.toNat 0)) (List.drop (Int.toNat 0) l_0))) + List.length ([(b0_0, (b0_1, (b0_2, (b0_3, (b0_4, ())))))] : (List DT110))) * 40 ≤ 211106232532992 then
 if (List.length ((([] : (List DT110)) ++ (List.take ((Int.toNat k_5) - (Int.toNat 0)) (List.drop (Int.toNat 0) l_0))) ++ ([(b0_0, (b0_1, (b0_2, (b0_3, (b0_4, ())))))] : (List DT110))) + List.length (List.take ((Int.toNat ((List.length l_0 : Nat) : Int)) - (Int.toNat k_5)) (List.drop (Int.toNat k_5) l_0))) * 40 ≤ 211106232532992 then
 some (((([] : (List DT110)) ++ (List.take ((Int.toNat k_5) - (Int.toNat 0)) (List.drop (Int.toNat 0) l_0))) ++ ([(b0_0, (b0_1, (b0_2, (b0_3, (b0_4, ())))))] : (List DT110))) ++ (List.take ((Int.toNat ((List.length l_0 : Nat) : Int)) - (Int.toNat k_5)) (List.drop (Int.toNat k_5) l_0))) else none else none else none else none else none else none else none
 else if 0 ≤ k_5 then
 if k_5 ≤ ((List.length l_0 : Nat) : Int) then
 if (List.length ([] : (List DT110)) + List.length (List.take ((Int.toNat k_5) - (Int.toNat 0)) (List.drop (Int.toNat 0) l_0))) * 40 ≤ 211106232532992 then
 if (List.length (([] : (List DT110)) ++ (List.take ((Int.toNat k_5) - (Int.toNat 0)) (List.drop (Int.toNat 0) l_0))) + List.length ([(b0_0, (b0_1, (b0_2, (b0_3, (b0_4, ())))))] : (List DT110))) * 40 ≤ 211106232532992 then
 if (List.length ((([] : (List DT110)) ++ (List.take ((Int.toNat k_5) - (Int.toNat 0)) (List.drop (Int.toNat 0) l_0))) ++ ([(b0_0, (b0_1, (b0_2, (b0_3, (b0_4, ())))))] : (List DT110))) + List.length (List.take ((Int.toNat ((List.length l_0 : Nat) : Int)) - (Int.toNat k_5)) (List.drop (Int.toNat k_5) l_0))) * 40 ≤ 211106232532992 then
 some (((([] : (List DT110)) ++ (List.take ((Int.toNat k_5) - (Int.toNat 0)) (List.drop (Int.toNat 0) l_0))) ++ ([(b0_0, (b0_1, (b0_2, (b0_3, (b0_4, ())))))] : (List DT110))) ++ (List.take ((Int.toNat ((List.length l_0 : Nat) : Int)) - (Int.toNat k_5)) (List.drop (Int.toNat k_5) l_0))) else none else none else none else none else none else none else none
 else if 0 ≤ k_5 then
 if k_5 ≤ ((List.length l_0 : Nat) : Int) then
 if (List.length ([] : (List DT110)) + List.length (List.take ((Int.toNat k_5) - (Int.toNat 0)) (List.drop (Int.toNat 0) l_0))) * 40 ≤ 211106232532992 then
 if (List.length (([] : (List DT110)) ++ (List.take ((Int.toNat k_5) - (Int.toNat 0)) (List.drop (Int.toNat 0) l_0))) + List.length ([(b0_0, (b0_1, (b0_2, (b0_3, (b0_4, ())))))] : (List DT110))) * 40 ≤ 211106232532992 then
 if (List.length ((([] : (List DT110)) ++ (List.take ((Int.toNat k_5) - (Int.toNat 0)) (List.drop (Int.toNat 0) l_0))) ++ ([(b0_0, (b0_1, (b0_2, (b0_3, (b0_4, ())))))] : (List DT110))) + List.length (List.take ((Int.toNat ((List.length l_0 : Nat) : Int)) - (Int.toNat k_5)) (List.drop (Int.toNat k_5) l_0))) * 40 ≤ 211106232532992 then
 some (((([] : (List DT110)) ++ (List.take ((Int.toNat k_5) - (Int.toNat 0)) (List.drop (Int.toNat 0) l_0))) ++ ([(b0_0, (b0_1, (b0_2, (b0_3, (b0_4, ())))))] : (List DT110))) ++ (List.take ((Int.toNat ((List.length l_0 : Nat) : Int)) - (Int.toNat k_5)) (List.drop (Int.toNat k_5) l_0))) else none else none else none else none else none else none else none := by kernel_rfl
theorem spec_l27Has_eq (k : Nat) (l_0 : (List Int)) (n_1 : Int) : spec_l27Has (k + 1) l_0 n_1 =
 spec_l27Has.l0 k k l_0 n_1 0 := by kernel_rfl
theorem spec_l27Has.l0_eq (k m : Nat) (l_0 : (List Int)) (n_1 : Int) (i_5 : Int) : spec_l27Has.l0 k (m + 1) l_0 n_1 i_5 =
 if (i_5 : Int) < ((List.length l_0 : Nat) : Int) then
 if 0 ≤ i_5 then
 if i_5 < ((List.length l_0 : Nat) : Int) then
 if Eq (α := Int) (rd (.int .i64) l_0 i_5) n_1 then
 some true
 else spec_l27Has.l0 k m l_0 n_1 (IntKind.wrap .i64 (i_5 + 1)) else none else none
 else some false := by kernel_rfl
theorem spec_CanPlay_eq (k : Nat) (p_0 : DT93) (l_1 : (List DT60)) (voice_2 : Int) : spec_CanPlay (k + 1) p_0 l_1 voice_2 =
 (spec_l27Has k p_0.2.2.2.1 voice_2).bind fun r1 =>
 if r1 = true then
 (spec_IsScore k l_1).bind fun r2 =>
 if r2 = true then
 (spec_VoiceOf k l_1 voice_2).bind fun r3 =>
 (spec_FitsRange k r3 p_0.2.1 p_0.2.2.1).bind fun r4 =>
 some (decide (r4 = true))
 else some false
 else some false := by kernel_rfl
theorem spec_l25Before_eq (k : Nat) (a_0 : DT110) (b_1 : DT110) : spec_l25Before (k + 1) a_0 b_1 =
 if (a_0.1 : Int) < b_1.1 then
 some true
 else if (a_0.1 : Int) = b_1.1 then
 some (decide ((a_0.2.1 : Int) < b_1.2.1))
 else some false := by kernel_rfl
theorem spec_IsNewer_eq (k : Nat) (a_0 : DT110) (b_1 : DT110) : spec_IsNewer (k + 1) a_0 b_1 =
 if (a_0.2.2.2.1 : Int) ≠ b_1.2.2.2.1 then
 some (decide ((b_1.2.2.2.1 : Int) < a_0.2.2.2.1))
 else if (a_0.2.2.2.2.1 : Int) ≠ b_1.2.2.2.2.1 then
 some (decide ((b_1.2.2.2.2.1 : Int) < a_0.2.2.2.2.1))
 else some (decide ((b_1.2.2.1 : Int) < a_0.2.2.1)) := by kernel_rfl
theorem spec_FitsRange_eq (k : Nat) (l_0 : (List DT60)) (low_1 : Int) (high_2 : Int) : spec_FitsRange (k + 1) l_0 low_1 high_2 =
 spec_FitsRange.l0 k k l_0 low_1 high_2 0 := by kernel_rfl
theorem spec_FitsRange.l0_eq (k m : Nat) (l_0 : (List DT60)) (low_1 : Int) (high_2 : Int) (i_7 : Int) : spec_FitsRange.l0 k (m + 1) l_0 low_1 high_2 i_7 =
 if (i_7 : Int) < ((List.length l_0 : Nat) : Int) then
 if 0 ≤ i_7 then
 if i_7 < ((List.length l_0 : Nat) : Int) then
 (spec_l1In k (rd T60 l_0 i_7).2.2.1 low_1 high_2).bind fun r1 =>
 if ¬ (r1 = true) then
 some false
 else spec_FitsRange.l0 k m l_0 low_1 high_2 (IntKind.wrap .i64 (i_7 + 1)) else none else none
 else (spec_IsScore k l_0).bind fun r2 =>
 some (decide (r2 = true)) := by kernel_rfl
end Go.QFnMeasured
