/- The functions that the law FnExactChordsIn reaches, as equations; printed by pe.py. No condition. -/
import Derived.Test.YtkfnhbdloidfmaaPrimS
import Derived.Test.YtkfnhbdloidfmaaProg
import Derived.KernelRfl
set_option linter.unusedVariables false
open Go Go.Flat
namespace Go.QFnExactChordsIn
abbrev T44 : Ty := .pair (.int .i64) (.pair (.list (.int .i64)) .unit)
abbrev DT44 := Int × ((List Int) × Unit)
abbrev T107 : Ty := .pair (.int .i64) (.pair (.int .i64) T44)
abbrev DT107 := Int × (Int × DT44)
abbrev T71 : Ty := .pair (.int .i64) (.pair (.int .i64) .unit)
abbrev DT71 := Int × (Int × Unit)
abbrev T157 : Ty := .pair (.int .i64) T71
abbrev DT157 := Int × DT71
abbrev T135 : Ty := .pair (.int .i64) T157
abbrev DT135 := Int × DT157
abbrev T139 : Ty := .pair (.int .i64) T135
abbrev DT139 := Int × DT135
abbrev T141 : Ty := .pair (.int .i64) (.pair (.int .i64) (.pair T135 (.pair T71 (.pair T107 (.pair T139 .unit)))))
abbrev DT141 := Int × (Int × (DT135 × (DT71 × (DT107 × (DT139 × Unit)))))
abbrev T77 : Ty := .pair (.list T135) (.pair T71 (.pair (.list T71) (.pair (.list T107) (.pair (.list (.int .i64)) (.pair (.list T139) (.pair (.list T71) T71))))))
abbrev DT77 := (List DT135) × (DT71 × ((List DT71) × ((List DT107) × ((List Int) × ((List DT139) × ((List DT71) × DT71))))))
abbrev T181 : Ty := .pair (.list (.int .u8)) T71
abbrev DT181 := (List Int) × DT71
noncomputable def C : Cfg := {
  P := Go.Proofs.Try.prog,
  tt := [(1, none), (2, some (.int .i64)), (3, some (.int .i64)), (4, some .bool), (5, some (.int .u8)), (6, some (.int .u8)), (9, some .str), (10, some .str), (11, some .str), (12, some (.int .u64)), (15, none), (16, none), (17, none), (21, some (.int .i32)), (22, some (.list T107)), (23, none), (24, none), (25, none), (26, none), (27, some (.list (.int .u8))), (28, none), (29, some (.list (.list (.int .i64)))), (30, some (.list (.int .i64))), (32, none), (34, none), (35, none), (36, none), (37, none), (38, some (.list T44)), (40, none), (41, none), (42, none), (43, none), (44, some T44), (45, some T44), (47, none), (49, none), (50, none), (51, none), (52, some (.list T44)), (53, none), (54, none), (55, none), (56, none), (57, none), (58, none), (59, some (.list T135)), (60, none), (61, some (.list T141)), (62, none), (63, some (.list T135)), (64, none), (65, none), (66, none), (67, none), (68, none), (69, none), (70, none), (71, some T71), (72, some T71), (73, some (.list T71)), (74, some (.list T107)), (75, some (.list T139)), (76, some (.list T71)), (77, some T77), (78, some T77), (79, none), (80, some (.list T157)), (82, none), (83, some T71), (84, some (.list T71)), (85, some (.list T139)), (86, some (.list T71)), (87, some T77), (88, some T77), (89, none), (90, none), (91, none), (92, none), (93, none), (94, none), (95, some (.list T71)), (96, none), (97, none), (98, none), (99, none), (101, none), (102, none), (103, none), (104, none), (105, none), (106, none), (107, some T107), (108, some T107), (109, none), (110, none), (111, none), (112, none), (113, none), (114, none), (115, none), (116, none), (117, none), (118, none), (119, none), (120, none), (121, none), (122, none), (123, none), (124, none), (125, none), (126, none), (127, none), (128, none), (129, none), (130, none), (131, some T44), (132, none), (133, none), (134, none), (135, some T135), (136, some T135), (137, some T71), (138, some T71), (139, some T139), (140, some T139), (141, some T141), (142, some T141), (143, none), (144, some T135), (145, none), (146, none), (147, none), (148, none), (149, none), (150, none), (151, none), (152, none), (153, none), (154, none), (155, none), (156, none), (157, some T157), (158, some T157), (159, none), (160, none), (161, none), (162, none), (163, none), (164, none), (165, none), (166, none), (167, some T71), (168, some T71), (170, none), (171, none), (172, none), (173, some T107), (174, none), (175, none), (176, none), (177, some (.list (.list T157))), (179, none), (180, none), (181, some T181), (182, some T181), (183, none), (184, none), (185, none), (186, none), (187, none), (188, none), (189, none), (190, none), (191, none), (192, none), (193, some T71), (194, none), (195, some T139), (196, some T71), (197, some T71), (198, none), (199, some T71), (200, none), (201, none), (202, none), (203, none), (204, some (.int .u64)), (205, none), (206, none), (207, none), (208, none), (209, none), (210, none), (211, none), (212, none), (213, none), (214, none), (215, none), (217, none), (218, none), (219, none), (220, none), (221, none), (222, some (.int .i64)), (224, none), (225, none), (226, none), (228, none), (229, none), (230, some (.int .u32)), (231, none), (232, some (.int .u64)), (233, none), (234, none), (235, none), (236, none), (237, none), (238, none), (239, none), (240, none), (241, none), (242, none), (243, none), (244, none), (245, some (.int .u64)), (246, none), (247, none), (248, none), (249, none), (250, none), (251, none), (252, none), (253, none), (254, none), (256, none), (257, none), (258, none), (259, none), (260, none), (261, none), (262, none), (263, none), (264, none), (265, none), (271, none), (272, some (.int .u8)), (273, some (.int .u8)), (274, none), (275, none), (276, some (.int .i32)), (277, some (.int .i32))],
  vars := [(44, [0, 3, 4]), (47, [0, 1, 5]), (48, [0, 1, 5]), (62, [0, 3, 4, 5, 6]), (63, [0, 3, 4, 13, 14, 15, 28, 29, 30]), (64, [0, 1, 5]), (65, [0, 1, 5]), (66, [0, 1, 5]), (106, [0, 3]), (107, [0, 1, 5, 6]), (108, [0, 5, 6, 7]), (109, [1, 5, 13, 14, 15]), (131, [0, 1, 5]), (134, [0, 3, 4, 5]), (169, [0, 2, 4, 5]), (170, [0, 3, 4]), (173, [0, 2, 4, 11]), (174, [3, 7, 8, 9]), (198, [3, 6, 7, 8]), (202, [0, 1, 5]), (203, [1, 3, 4, 5]), (216, [0, 1, 12, 13]), (217, [1, 3, 21, 22, 23])],
  sigs := [(48, { lend := some 0 }), (65, { lend := some 0 }), (133, { lend := some 0 }), (134, { io := [0] }), (237, { own := false })],
  prim := fun f => bif Nat.beq f 133 then some primSort else none }
noncomputable def laws_FnExactChordsIn (k : Nat) (aL_0 : (List DT135)) : Option Bool := run C k 10 .bool [.val (.list T135) aL_0]
noncomputable def laws_szEventS (k : Nat) (a_0 : (List DT135)) (left_1 : Int) : Option Int := run C k 42 (.int .i64) [.val (.list T135) a_0, .val (.int .i64) left_1]
noncomputable def laws_toEventS (k : Nat) (a_0 : (List DT135)) : Option (List DT135) := run C k 44 (.list T135) [.val (.list T135) a_0]
noncomputable def laws_toEventS.l0 (k m : Nat) (a_0 : (List DT135)) (i_4 : Int) (s0 : (List DT135)) : Option (List DT135) := loopRun C k 44 (.list T135) [0] [.r, .r, .l, .r, .b] [] [0, 3, 4] m ⟨[.one (.cell (.list false T135 a_0)), .one (.cell (.ref 1)), .one (.cell (.int .i64 i_4))], [.arr T135 s0 .open]⟩
noncomputable def spec_ChordsIn (k : Nat) (l_0 : (List DT135)) : Option (List DT71) := run C k 62 (.list T71) [.val (.list T135) l_0]
noncomputable def spec_ChordsIn.l0 (k m : Nat) (l_0 : (List DT135)) (i_5 : Int) (s0 : (List DT71)) (s1 : (List Int)) : Option (List DT71) := loopRun C k 62 (.list T71) [0] [.r, .r, .r, .l, .r, .b] [] [0, 3, 4, 5] m ⟨[.one (.cell (.list false T135 l_0)), .one (.cell (.ref 1)), .one (.cell (.ref 5)), .one (.cell (.int .i64 i_5))], [.arr T71 s0 .open, .arr (.int .i64) s1 .open]⟩
noncomputable def spec_ChordsIn.l1 (k m : Nat) (l_0 : (List DT135)) (i_5 : Int) (i_6 : Int) (s0 : (List DT71)) (s1 : (List Int)) : Option (List DT71) := loopRun C k 62 (.list T71) [0] [.r, .r, .r, .r, .l, .r, .b] [] [0, 3, 4, 5, 6] m ⟨[.one (.cell (.list false T135 l_0)), .one (.cell (.ref 1)), .one (.cell (.ref 5)), .one (.cell (.int .i64 i_5)), .one (.cell (.int .i64 i_6))], [.arr T71 s0 .open, .arr (.int .i64) s1 .open]⟩
noncomputable def impl_ChordsIn (k : Nat) (l_0 : (List DT135)) : Option (List DT71) := run C k 63 (.list T71) [.val (.list T135) l_0]
noncomputable def impl_ChordsIn.l0 (k m : Nat) (l_0 : (List DT135)) (t_13 : (List DT135)) (t_14 : Int) (t_15 : Int) (s0 : (List DT71)) (s1 : (List Int)) : Option (List DT71) := loopRun C k 63 (.list T71) [0] [.r, .r, .l, .r, .b] [] [0, 3, 4, 13, 14, 15] m ⟨[.one (.cell (.list false T135 l_0)), .one (.cell (.ref 1)), .one (.cell (.ref 5)), .one (.cell (.list false T135 t_13)), .one (.cell (.int .i64 t_14)), .one (.cell (.int .i64 t_15))], [.arr T71 s0 .open, .arr (.int .i64) s1 .open]⟩
noncomputable def impl_ChordsIn.l1 (k m : Nat) (l_0 : (List DT135)) (t_13 : (List DT135)) (t_14 : Int) (t_15 : Int) (t_29 : Int) (t_30 : Int) (s0 : (List DT71)) (s1 : (List Int)) : Option (List DT71) := loopRun C k 63 (.list T71) [0] [.r, .r, .r, .r, .l, .r, .b] [] [0, 3, 13, 14, 15, 28, 29, 30] m ⟨[.one (.cell (.list false T135 l_0)), .one (.cell (.ref 1)), .one (.cell (.list false T135 t_13)), .one (.cell (.int .i64 t_14)), .one (.cell (.int .i64 t_15)), .one (.cell (.ref 5)), .one (.cell (.int .i64 t_29)), .one (.cell (.int .i64 t_30))], [.arr T71 s0 .open, .arr (.int .i64) s1 .open]⟩
noncomputable def laws_eqChordS (k : Nat) (a_0 : (List DT71)) (b_1 : (List DT71)) : Option Bool := run C k 64 .bool [.val (.list T71) a_0, .val (.list T71) b_1]
noncomputable def laws_eqChordS.l0 (k m : Nat) (a_0 : (List DT71)) (b_1 : (List DT71)) (i_5 : Int) : Option Bool := loopRun C k 64 .bool [0, 0] [.r, .r, .l, .r, .b] [] [0, 1, 5] m ⟨[.one (.cell (.list false T71 a_0)), .one (.cell (.list false T71 b_1)), .one (.cell (.int .i64 i_5))], []⟩
noncomputable def laws_eqEventS (k : Nat) (a_0 : (List DT135)) (b_1 : (List DT135)) : Option Bool := run C k 47 .bool [.val (.list T135) a_0, .val (.list T135) b_1]
noncomputable def laws_eqEventS.l0 (k m : Nat) (a_0 : (List DT135)) (b_1 : (List DT135)) (i_5 : Int) : Option Bool := loopRun C k 47 .bool [0, 0] [.r, .r, .l, .r, .b] [] [0, 1, 5] m ⟨[.one (.cell (.list false T135 a_0)), .one (.cell (.list false T135 b_1)), .one (.cell (.int .i64 i_5))], []⟩
noncomputable def laws_markEventS (k : Nat) (a_0 : (List DT135)) (k_1 : Int) : Option (Int × (List DT135)) := run C k 48 (.pair (.int .i64) (.list T135)) [.lend (.list T135) a_0, .val (.int .i64) k_1]
noncomputable def laws_markEventS.l0 (k m : Nat) (k_1 : Int) (i_5 : Int) (s0 : (List DT135)) : Option (Int × (List DT135)) := loopRunL C k 48 (.pair (.int .i64) (.list T135)) 0 (.list T135) 2 [.r, .l, .r, .b] [] [0, 1, 5] m ⟨[.one (.cell (.ref 1)), .one (.cell (.int .i64 k_1)), .one (.cell (.int .i64 i_5))], [.arr T135 s0 (.pinned 0)]⟩
noncomputable def laws_markChordS (k : Nat) (a_0 : (List DT71)) (k_1 : Int) : Option (Int × (List DT71)) := run C k 65 (.pair (.int .i64) (.list T71)) [.lend (.list T71) a_0, .val (.int .i64) k_1]
noncomputable def laws_markChordS.l0 (k m : Nat) (k_1 : Int) (i_5 : Int) (s0 : (List DT71)) : Option (Int × (List DT71)) := loopRunL C k 65 (.pair (.int .i64) (.list T71)) 0 (.list T71) 2 [.r, .l, .r, .b] [] [0, 1, 5] m ⟨[.one (.cell (.ref 1)), .one (.cell (.int .i64 k_1)), .one (.cell (.int .i64 i_5))], [.arr T71 s0 (.pinned 0)]⟩
noncomputable def laws_heldChordS (k : Nat) (a_0 : (List DT71)) (k_1 : Int) : Option Int := run C k 66 (.int .i64) [.val (.list T71) a_0, .val (.int .i64) k_1]
noncomputable def laws_heldChordS.l0 (k m : Nat) (a_0 : (List DT71)) (k_1 : Int) (i_5 : Int) : Option Int := loopRun C k 66 (.int .i64) [0, 0] [.r, .l, .r, .b] [] [0, 1, 5] m ⟨[.one (.cell (.list false T71 a_0)), .one (.cell (.int .i64 k_1)), .one (.cell (.int .i64 i_5))], []⟩
noncomputable def laws_toEvent (k : Nat) (a_0 : DT135) : Option DT135 := run C k 103 T135 [.val T135 a_0]
noncomputable def spec_l8Num (k : Nat) (l_0 : (List Int)) (n_1 : Int) : Option (List Int) := run C k 131 (.list (.int .i64)) [.val (.list (.int .i64)) l_0, .val (.int .i64) n_1]
noncomputable def spec_l8Num.l0 (k m : Nat) (l_0 : (List Int)) (n_1 : Int) (k_5 : Int) : Option (List Int) := loopRun C k 131 (.list (.int .i64)) [0, 0] [.r, .r, .l, .b] [] [0, 1, 5] m ⟨[.one (.cell (.list false (.int .i64) l_0)), .one (.cell (.int .i64 n_1)), .one (.cell (.int .i64 k_5))], []⟩
noncomputable def spec_ChordAt (k : Nat) (l_0 : (List DT135)) (tick_1 : Int) : Option (DT71 × (Bool × Unit)) := run C k 132 (.pair T71 (.pair .bool .unit)) [.val (.list T135) l_0, .val (.int .i64) tick_1]
noncomputable def slices_Sort___int_int (k : Nat) (x_0 : (List Int)) : Option (Unit × (List Int)) := run C k 133 (.pair .unit (.list (.int .i64))) [.lend (.list (.int .i64)) x_0]
noncomputable def slices_Compact___int_int (k : Nat) (s_0 : (List Int)) : Option (List Int) := run C k 134 (.list (.int .i64)) [.ioArr (.int .i64) s_0]
noncomputable def slices_Compact___int_int.l0 (k m : Nat) (k_3 : Int) (s0 : (List Int)) : Option (List Int) := loopRun C k 134 (.list (.int .i64)) [0] [.r, .r, .l, .r, .b] [] [0, 3] m ⟨[.one (.cell (.ref 1)), .one (.cell (.int .i64 k_3))], [.arr (.int .i64) s0 .open]⟩
noncomputable def slices_Compact___int_int.l1 (k m m1 : Nat) (k_3 : Int) (s2_4_o : Nat) (s2_4_n : Nat) (k2_5 : Int) (s0 : (List Int)) : Option (List Int) := loopRun C k 134 (.list (.int .i64)) [0] [.r, .r, .l, .r, .b, .p, .r, .l, .b, .r, .t, .r, .l, .r, .b] [⟨[0, 3], m1⟩] [0, 3, 4, 5] m ⟨[.one (.cell (.ref 1)), .one (.cell (.int .i64 k_3)), .one (.cell (.sub 1 s2_4_o s2_4_n)), .one (.cell (.int .i64 k2_5))], [.arr (.int .i64) s0 .open]⟩
noncomputable def impl_ChordAt (k : Nat) (l_0 : (List DT135)) (tick_1 : Int) : Option (DT71 × (Bool × Unit)) := run C k 135 (.pair T71 (.pair .bool .unit)) [.val (.list T135) l_0, .val (.int .i64) tick_1]
noncomputable def laws_eqChord (k : Nat) (a_0 : DT71) (b_1 : DT71) : Option Bool := run C k 136 .bool [.val T71 a_0, .val T71 b_1]
noncomputable def laws_eqEvent (k : Nat) (a_0 : DT135) (b_1 : DT135) : Option Bool := run C k 105 .bool [.val T135 a_0, .val T135 b_1]
noncomputable def spec_SoundsAt (k : Nat) (l_0 : (List DT135)) (tick_1 : Int) : Option (List Int) := run C k 107 (.list (.int .i64)) [.val (.list T135) l_0, .val (.int .i64) tick_1]
noncomputable def spec_SoundsAt.l0 (k m : Nat) (l_0 : (List DT135)) (tick_1 : Int) (i_6 : Int) (s0 : (List Int)) : Option (List Int) := loopRun C k 107 (.list (.int .i64)) [0, 0] [.r, .r, .l, .r, .b] [] [0, 1, 5, 6] m ⟨[.one (.cell (.list false T135 l_0)), .one (.cell (.int .i64 tick_1)), .one (.cell (.ref 1)), .one (.cell (.int .i64 i_6))], [.arr (.int .i64) s0 .open]⟩
noncomputable def spec_ClassesOf (k : Nat) (pitches_0 : (List Int)) : Option (List Int) := run C k 170 (.list (.int .i64)) [.val (.list (.int .i64)) pitches_0]
noncomputable def spec_ClassesOf.l0 (k m : Nat) (pitches_0 : (List Int)) (i_4 : Int) (s0 : (List Int)) : Option (List Int) := loopRun C k 170 (.list (.int .i64)) [0] [.r, .r, .l, .r, .b] [] [0, 3, 4] m ⟨[.one (.cell (.list false (.int .i64) pitches_0)), .one (.cell (.ref 1)), .one (.cell (.int .i64 i_4))], [.arr (.int .i64) s0 .open]⟩
noncomputable def spec_ChordOf (k : Nat) (classes_0 : (List Int)) : Option (DT71 × (Bool × Unit)) := run C k 169 (.pair T71 (.pair .bool .unit)) [.val (.list (.int .i64)) classes_0]
noncomputable def spec_ChordOf.l0 (k m : Nat) (classes_0 : (List Int)) (k_4 : Int) (b0_0 : Int) (b0_1 : Int) : Option (DT71 × (Bool × Unit)) := loopRun C k 169 (.pair T71 (.pair .bool .unit)) [0] [.r, .l, .r, .b] [] [0, 2, 4] m ⟨[.one (.cell (.list false (.int .i64) classes_0)), .one (.cell (.ptr 1 0)), .one (.cell (.int .i64 k_4))], [.box (some T71) [.int .i64 b0_0, .int .i64 b0_1]]⟩
noncomputable def spec_ChordOf.l1 (k m m1 : Nat) (classes_0 : (List Int)) (k_4 : Int) (r_5 : Int) (b0_0 : Int) (b0_1 : Int) : Option (DT71 × (Bool × Unit)) := loopRun C k 169 (.pair T71 (.pair .bool .unit)) [0] [.r, .l, .r, .b, .p, .r, .l, .b, .r, .b] [⟨[0, 2, 4], m1⟩] [0, 2, 4, 5] m ⟨[.one (.cell (.list false (.int .i64) classes_0)), .one (.cell (.ptr 1 0)), .one (.cell (.int .i64 k_4)), .one (.cell (.int .i64 r_5))], [.box (some T71) [.int .i64 b0_0, .int .i64 b0_1]]⟩
noncomputable def impl_SoundsAt (k : Nat) (l_0 : (List DT135)) (tick_1 : Int) : Option (List Int) := run C k 109 (.list (.int .i64)) [.val (.list T135) l_0, .val (.int .i64) tick_1]
noncomputable def impl_SoundsAt.l0 (k m : Nat) (tick_1 : Int) (t_13 : (List DT135)) (t_14 : Int) (t_15 : Int) (s0 : (List Int)) : Option (List Int) := loopRun C k 109 (.list (.int .i64)) [0, 0] [.r, .r, .r, .l, .r, .b] [] [1, 5, 13, 14, 15] m ⟨[.one (.cell (.int .i64 tick_1)), .one (.cell (.ref 1)), .one (.cell (.list false T135 t_13)), .one (.cell (.int .i64 t_14)), .one (.cell (.int .i64 t_15))], [.arr (.int .i64) s0 .open]⟩
noncomputable def impl_ClassesOf (k : Nat) (pitches_0 : (List Int)) : Option (List Int) := run C k 174 (.list (.int .i64)) [.val (.list (.int .i64)) pitches_0]
noncomputable def impl_ClassesOf.l0 (k m : Nat) (t_7 : (List Int)) (t_8 : Int) (t_9 : Int) (s0 : (List Int)) : Option (List Int) := loopRun C k 174 (.list (.int .i64)) [0] [.r, .r, .l, .r, .b] [] [3, 7, 8, 9] m ⟨[.one (.cell (.ref 1)), .one (.cell (.list false (.int .i64) t_7)), .one (.cell (.int .i64 t_8)), .one (.cell (.int .i64 t_9))], [.arr (.int .i64) s0 .open]⟩
noncomputable def impl_ChordOf (k : Nat) (classes_0 : (List Int)) : Option (DT71 × (Bool × Unit)) := run C k 173 (.pair T71 (.pair .bool .unit)) [.val (.list (.int .i64)) classes_0]
noncomputable def impl_ChordOf.l0 (k m : Nat) (classes_0 : (List Int)) (kind_4 : Int) (b0_0 : Int) (b0_1 : Int) : Option (DT71 × (Bool × Unit)) := loopRun C k 173 (.pair T71 (.pair .bool .unit)) [0] [.r, .l, .r, .b] [] [0, 2, 4] m ⟨[.one (.cell (.list false (.int .i64) classes_0)), .one (.cell (.ptr 1 0)), .one (.cell (.int .i64 kind_4))], [.box (some T71) [.int .i64 b0_0, .int .i64 b0_1]]⟩
noncomputable def impl_ChordOf.l1 (k m m1 : Nat) (classes_0 : (List Int)) (kind_4 : Int) (t_11 : Int) (b0_0 : Int) (b0_1 : Int) : Option (DT71 × (Bool × Unit)) := loopRun C k 173 (.pair T71 (.pair .bool .unit)) [0] [.r, .l, .r, .b, .p, .r, .l, .b, .r, .b] [⟨[0, 2, 4], m1⟩] [0, 2, 4, 11] m ⟨[.one (.cell (.list false (.int .i64) classes_0)), .one (.cell (.ptr 1 0)), .one (.cell (.int .i64 kind_4)), .one (.cell (.int .i64 t_11))], [.box (some T71) [.int .i64 b0_0, .int .i64 b0_1]]⟩
noncomputable def spec_IsScore (k : Nat) (l_0 : (List DT135)) : Option Bool := run C k 106 .bool [.val (.list T135) l_0]
noncomputable def spec_IsScore.l0 (k m : Nat) (l_0 : (List DT135)) (i_3 : Int) : Option Bool := loopRun C k 106 .bool [0] [.r, .l, .r, .b] [] [0, 3] m ⟨[.one (.cell (.list false T135 l_0)), .one (.cell (.int .i64 i_3))], []⟩
noncomputable def spec_Mod (k : Nat) (n_0 : Int) (m_1 : Int) : Option Int := run C k 204 (.int .i64) [.val (.int .i64) n_0, .val (.int .i64) m_1]
noncomputable def spec_TonesOf (k : Nat) (x_0 : DT71) : Option (List Int) := run C k 203 (.list (.int .i64)) [.val T71 x_0]
noncomputable def spec_TonesOf.l0 (k m : Nat) (h_4 : (List Int)) (i_5 : Int) (b0_0 : Int) (b0_1 : Int) (s1 : (List Int)) : Option (List Int) := loopRun C k 203 (.list (.int .i64)) [0] [.r, .r, .r, .r, .l, .r, .b] [] [1, 3, 4, 5] m ⟨[.one (.cell (.ptr 1 0)), .one (.cell (.ref 5)), .one (.cell (.list true (.int .i64) h_4)), .one (.cell (.int .i64 i_5))], [.box (some T71) [.int .i64 b0_0, .int .i64 b0_1], .arr (.int .i64) s1 .open]⟩
noncomputable def spec_EqualInts (k : Nat) (a_0 : (List Int)) (b_1 : (List Int)) : Option Bool := run C k 202 .bool [.val (.list (.int .i64)) a_0, .val (.list (.int .i64)) b_1]
noncomputable def spec_EqualInts.l0 (k m : Nat) (a_0 : (List Int)) (b_1 : (List Int)) (i_5 : Int) : Option Bool := loopRun C k 202 .bool [0, 0] [.r, .r, .l, .r, .b] [] [0, 1, 5] m ⟨[.one (.cell (.list false (.int .i64) a_0)), .one (.cell (.list false (.int .i64) b_1)), .one (.cell (.int .i64 i_5))], []⟩
noncomputable def impl_IsScore (k : Nat) (l_0 : (List DT135)) : Option Bool := run C k 108 .bool [.val (.list T135) l_0]
noncomputable def impl_IsScore.l0 (k m : Nat) (l_0 : (List DT135)) (t_5 : (List DT135)) (t_6 : Int) (t_7 : Int) : Option Bool := loopRun C k 108 .bool [0] [.r, .l, .r, .b] [] [0, 5, 6, 7] m ⟨[.one (.cell (.list false T135 l_0)), .one (.cell (.list false T135 t_5)), .one (.cell (.int .i64 t_6)), .one (.cell (.int .i64 t_7))], []⟩
noncomputable def impl_Event__sounds (k : Nat) (e_0 : DT135) (tick_1 : Int) : Option Bool := run C k 161 .bool [.val T135 e_0, .val (.int .i64) tick_1]
noncomputable def impl_Mod (k : Nat) (p_0 : Int) (q_1 : Int) : Option Int := run C k 218 (.int .i64) [.val (.int .i64) p_0, .val (.int .i64) q_1]
noncomputable def impl_TonesOf (k : Nat) (x_0 : DT71) : Option (List Int) := run C k 217 (.list (.int .i64)) [.val T71 x_0]
noncomputable def impl_TonesOf.l0 (k m : Nat) (t_21 : (List Int)) (t_22 : Int) (t_23 : Int) (b0_0 : Int) (b0_1 : Int) (s1 : (List Int)) : Option (List Int) := loopRun C k 217 (.list (.int .i64)) [0] [.r, .r, .r, .l, .r, .b] [] [1, 3, 21, 22, 23] m ⟨[.one (.cell (.ptr 1 0)), .one (.cell (.ref 5)), .one (.cell (.list true (.int .i64) t_21)), .one (.cell (.int .i64 t_22)), .one (.cell (.int .i64 t_23))], [.box (some T71) [.int .i64 b0_0, .int .i64 b0_1], .arr (.int .i64) s1 .open]⟩
noncomputable def slices_Equal___int_int (k : Nat) (s1_0 : (List Int)) (s2_1 : (List Int)) : Option Bool := run C k 216 .bool [.val (.list (.int .i64)) s1_0, .val (.list (.int .i64)) s2_1]
noncomputable def slices_Equal___int_int.l0 (k m : Nat) (s1_0 : (List Int)) (s2_1 : (List Int)) (t_12 : Int) (t_13 : Int) : Option Bool := loopRun C k 216 .bool [0, 0] [.r, .r, .l, .r, .b] [] [0, 1, 12, 13] m ⟨[.one (.cell (.list false (.int .i64) s1_0)), .one (.cell (.list false (.int .i64) s2_1)), .one (.cell (.int .i64 t_12)), .one (.cell (.int .i64 t_13))], []⟩
noncomputable def spec_l8Ok (k : Nat) (e_0 : DT135) : Option Bool := run C k 158 .bool [.val T135 e_0]
noncomputable def spec_l8Before (k : Nat) (a_0 : DT135) (b_1 : DT135) : Option Bool := run C k 159 .bool [.val T135 a_0, .val T135 b_1]
noncomputable def spec_l1In (k : Nat) (x_0 : Int) (least_1 : Int) (most_2 : Int) : Option Bool := run C k 85 .bool [.val (.int .i64) x_0, .val (.int .i64) least_1, .val (.int .i64) most_2]
noncomputable def spec_IsChord (k : Nat) (x_0 : DT71) : Option Bool := run C k 236 .bool [.val T71 x_0]
noncomputable def spec_l22Halves (k : Nat) (kind_0 : Int) : Option (List Int) := run C k 237 (.list (.int .i64)) [.val (.int .i64) kind_0]
noncomputable def impl_InRange (k : Nat) (n_0 : Int) (low_1 : Int) (high_2 : Int) : Option Bool := run C k 82 .bool [.val (.int .i64) n_0, .val (.int .i64) low_1, .val (.int .i64) high_2]
noncomputable def impl_eventOrder (k : Nat) (a_0 : DT135) (b_1 : DT135) : Option Int := run C k 160 (.int .i64) [.val T135 a_0, .val T135 b_1]
noncomputable def impl_IsChord (k : Nat) (x_0 : DT71) : Option Bool := run C k 243 .bool [.val T71 x_0]
noncomputable def cmp_Compare_int (k : Nat) (x_0 : Int) (y_1 : Int) : Option Int := run C k 199 (.int .i64) [.val (.int .i64) x_0, .val (.int .i64) y_1]
noncomputable def cmp_Or_int (k : Nat) (vals_0 : (List Int)) : Option Int := run C k 198 (.int .i64) [.val (.list (.int .i64)) vals_0]
noncomputable def cmp_Or_int.l0 (k m : Nat) (zero_3 : Int) (t_6 : (List Int)) (t_7 : Int) (t_8 : Int) : Option Int := loopRun C k 198 (.int .i64) [0] [.r, .r, .l, .r, .b] [] [3, 6, 7, 8] m ⟨[.one (.cell (.int .i64 zero_3)), .one (.cell (.list false (.int .i64) t_6)), .one (.cell (.int .i64 t_7)), .one (.cell (.int .i64 t_8))], []⟩
noncomputable def cmp_isNaN_int (k : Nat) (x_0 : Int) : Option Bool := run C k 234 .bool [.val (.int .i64) x_0]
theorem laws_FnExactChordsIn_eq (k : Nat) (aL_0 : (List DT135)) : laws_FnExactChordsIn (k + 1) aL_0 =
 (laws_szEventS k aL_0 1048576).bind fun r1 =>
 if (r1 : Int) < 0 then
 some true
 else (laws_toEventS k aL_0).bind fun r2 =>
 (spec_ChordsIn k r2).bind fun r3 =>
 (laws_toEventS k aL_0).bind fun r4 =>
 (impl_ChordsIn k r4).bind fun r5 =>
 (laws_eqChordS k r5 r3).bind fun r6 =>
 if ¬ (r6 = true) then
 some false
 else (laws_toEventS k aL_0).bind fun r7 =>
 (laws_eqEventS k r4 r7).bind fun r8 =>
 if ¬ (r8 = true) then
 some false
 else (laws_markEventS k r4 1).bind fun r9 =>
 if (r9.1 : Int) < 0 then
 some false
 else (laws_eqChordS k r5 r3).bind fun r10 =>
 if ¬ (r10 = true) then
 some false
 else (laws_markChordS k r5 1).bind fun r11 =>
 (laws_heldChordS k r11.2 1).bind fun r12 =>
 if (r12 : Int) < 0 then
 some false
 else if (r12 : Int) ≠ r11.1 then
 some false
 else (laws_toEventS k aL_0).bind fun r13 =>
 (impl_ChordsIn k r13).bind fun r14 =>
 (laws_eqChordS k r14 r3).bind fun r15 =>
 if ¬ (r15 = true) then
 some false
 else (laws_heldChordS k r11.2 1).bind fun r16 =>
 if (r16 : Int) < 0 then
 some false
 else if (r16 : Int) ≠ r11.1 then
 some false
 else some true := by kernel_rfl
theorem laws_szEventS_eq (k : Nat) (a_0 : (List DT135)) (left_1 : Int) : laws_szEventS (k + 1) a_0 left_1 =
 if ((IntKind.wrap .i64 (left_1 - ((List.length a_0 : Nat) : Int))) : Int) < 0 then
 some (-1)
 else some (IntKind.wrap .i64 (left_1 - ((List.length a_0 : Nat) : Int))) := by kernel_rfl
theorem laws_toEventS_eq (k : Nat) (a_0 : (List DT135)) : laws_toEventS (k + 1) a_0 =
 if 0 ≤ ((List.length a_0 : Nat) : Int) then
 if ((List.length a_0 : Nat) : Int) ≤ ((List.length a_0 : Nat) : Int) then
 if ((List.length a_0 : Nat) : Int) * 32 ≤ 211106232532992 then
 laws_toEventS.l0 k k a_0 0 (List.replicate (Int.toNat ((List.length a_0 : Nat) : Int)) (Ty.dflt T135)) else none else none else none := by kernel_rfl
theorem laws_toEventS.l0_eq (k m : Nat) (a_0 : (List DT135)) (i_4 : Int) (s0 : (List DT135)) : laws_toEventS.l0 k (m + 1) a_0 i_4 s0 =
 if (i_4 : Int) < ((List.length a_0 : Nat) : Int) then
 if 0 ≤ i_4 then
 if i_4 < ((List.length a_0 : Nat) : Int) then
 (laws_toEvent k (rd T135 a_0 i_4)).bind fun r1 =>
 if 0 ≤ i_4 then
 if i_4 < ((List.length s0 : Nat) : Int) then
 laws_toEventS.l0 k m a_0 (IntKind.wrap .i64 (i_4 + 1)) (List.set s0 (Int.toNat i_4) r1) else none else none else none else none
 else some s0 := by kernel_rfl
theorem spec_ChordsIn_eq (k : Nat) (l_0 : (List DT135)) : spec_ChordsIn (k + 1) l_0 =
 spec_ChordsIn.l0 k k l_0 0 [] [] := by kernel_rfl
theorem spec_ChordsIn.l0_eq (k m : Nat) (l_0 : (List DT135)) (i_5 : Int) (s0 : (List DT71)) (s1 : (List Int)) : spec_ChordsIn.l0 k (m + 1) l_0 i_5 s0 s1 =
 if (i_5 : Int) < ((List.length l_0 : Nat) : Int) then
 if 0 ≤ i_5 then
 if i_5 < ((List.length l_0 : Nat) : Int) then
 (spec_l8Num k s1 (rd T135 l_0 i_5).1).bind fun r1 =>
 spec_ChordsIn.l0 k m l_0 (IntKind.wrap .i64 (i_5 + 1)) s0 r1 else none else none
 else spec_ChordsIn.l1 k k l_0 i_5 0 s0 s1 := by kernel_rfl
theorem spec_ChordsIn.l1_eq (k m : Nat) (l_0 : (List DT135)) (i_5 : Int) (i_6 : Int) (s0 : (List DT71)) (s1 : (List Int)) : spec_ChordsIn.l1 k (m + 1) l_0 i_5 i_6 s0 s1 =
 if (i_6 : Int) < ((List.length s1 : Nat) : Int) then
 if 0 ≤ i_6 then
 if i_6 < ((List.length s1 : Nat) : Int) then
 (spec_ChordAt k l_0 (rd (.int .i64) s1 i_6)).bind fun r2 =>
 if r2.2.1 = true then
 if (((List.length s0 : Nat) : Int) : Int) = 0 then
 if (List.length s0 + List.length [r2.1]) * 16 ≤ 211106232532992 then
 spec_ChordsIn.l1 k m l_0 i_5 (IntKind.wrap .i64 (i_6 + 1)) (s0 ++ [r2.1]) s1 else none
 else if 0 ≤ (IntKind.wrap .i64 (((List.length s0 : Nat) : Int) - 1)) then
 if (IntKind.wrap .i64 (((List.length s0 : Nat) : Int) - 1)) < ((List.length s0 : Nat) : Int) then
 if ¬ ((((rd T71 s0 (IntKind.wrap .i64 (((List.length s0 : Nat) : Int) - 1))).1 : Int) = r2.1.1) ∧ (((rd T71 s0 (IntKind.wrap .i64 (((List.length s0 : Nat) : Int) - 1))).2.1 : Int) = r2.1.2.1)) then
 if (List.length s0 + List.length [r2.1]) * 16 ≤ 211106232532992 then
 spec_ChordsIn.l1 k m l_0 i_5 (IntKind.wrap .i64 (i_6 + 1)) (s0 ++ [r2.1]) s1 else none
 else spec_ChordsIn.l1 k m l_0 i_5 (IntKind.wrap .i64 (i_6 + 1)) s0 s1 else none else none
 else spec_ChordsIn.l1 k m l_0 i_5 (IntKind.wrap .i64 (i_6 + 1)) s0 s1 else none else none
 else some s0 := by kernel_rfl
theorem impl_ChordsIn_eq (k : Nat) (l_0 : (List DT135)) : impl_ChordsIn (k + 1) l_0 =
 impl_ChordsIn.l0 k k l_0 l_0 ((List.length l_0 : Nat) : Int) 0 [] [] := by kernel_rfl
theorem impl_ChordsIn.l0_eq (k m : Nat) (l_0 : (List DT135)) (t_13 : (List DT135)) (t_14 : Int) (t_15 : Int) (s0 : (List DT71)) (s1 : (List Int)) : impl_ChordsIn.l0 k (m + 1) l_0 t_13 t_14 t_15 s0 s1 =
 if (t_15 : Int) < t_14 then
 if 0 ≤ t_15 then
 if t_15 < ((List.length t_13 : Nat) : Int) then
 if (List.length s1 + List.length ([(rd T135 t_13 t_15).1])) * 8 ≤ 211106232532992 then
 impl_ChordsIn.l0 k m l_0 t_13 t_14 (IntKind.wrap .i64 (t_15 + 1)) s0 (s1 ++ [(rd T135 t_13 t_15).1]) else none else none else none
 else (slices_Sort___int_int k s1).bind fun r1 =>
 (slices_Compact___int_int k r1.2).bind fun r2 =>
 impl_ChordsIn.l1 k k l_0 t_13 t_14 t_15 ((List.length r2 : Nat) : Int) 0 s0 r2 := by kernel_rfl
theorem impl_ChordsIn.l1_eq (k m : Nat) (l_0 : (List DT135)) (t_13 : (List DT135)) (t_14 : Int) (t_15 : Int) (t_29 : Int) (t_30 : Int) (s0 : (List DT71)) (s1 : (List Int)) : impl_ChordsIn.l1 k (m + 1) l_0 t_13 t_14 t_15 t_29 t_30 s0 s1 =
 if (t_30 : Int) < t_29 then
 if 0 ≤ t_30 then
 if t_30 < ((List.length s1 : Nat) : Int) then
 (impl_ChordAt k l_0 (rd (.int .i64) s1 t_30)).bind fun r3 =>
 if r3.2.1 = true then
 if (((List.length s0 : Nat) : Int) : Int) = 0 then
 if (List.length s0 + List.length [r3.1]) * 16 ≤ 211106232532992 then
 impl_ChordsIn.l1 k m l_0 t_13 t_14 t_15 t_29 (IntKind.wrap .i64 (t_30 + 1)) (s0 ++ [r3.1]) s1 else none
 else if 0 ≤ (IntKind.wrap .i64 (((List.length s0 : Nat) : Int) - 1)) then
 if (IntKind.wrap .i64 (((List.length s0 : Nat) : Int) - 1)) < ((List.length s0 : Nat) : Int) then
 if ¬ ((((rd T71 s0 (IntKind.wrap .i64 (((List.length s0 : Nat) : Int) - 1))).1 : Int) = r3.1.1) ∧ (((rd T71 s0 (IntKind.wrap .i64 (((List.length s0 : Nat) : Int) - 1))).2.1 : Int) = r3.1.2.1)) then
 if (List.length s0 + List.length [r3.1]) * 16 ≤ 211106232532992 then
 impl_ChordsIn.l1 k m l_0 t_13 t_14 t_15 t_29 (IntKind.wrap .i64 (t_30 + 1)) (s0 ++ [r3.1]) s1 else none
 else impl_ChordsIn.l1 k m l_0 t_13 t_14 t_15 t_29 (IntKind.wrap .i64 (t_30 + 1)) s0 s1 else none else none
 else impl_ChordsIn.l1 k m l_0 t_13 t_14 t_15 t_29 (IntKind.wrap .i64 (t_30 + 1)) s0 s1 else none else none
 else some s0 := by kernel_rfl
theorem laws_eqChordS_eq (k : Nat) (a_0 : (List DT71)) (b_1 : (List DT71)) : laws_eqChordS (k + 1) a_0 b_1 =
 if (((List.length a_0 : Nat) : Int) : Int) ≠ ((List.length b_1 : Nat) : Int) then
 some false
 else laws_eqChordS.l0 k k a_0 b_1 0 := by kernel_rfl
theorem laws_eqChordS.l0_eq (k m : Nat) (a_0 : (List DT71)) (b_1 : (List DT71)) (i_5 : Int) : laws_eqChordS.l0 k (m + 1) a_0 b_1 i_5 =
 if (i_5 : Int) < ((List.length a_0 : Nat) : Int) then
 if 0 ≤ i_5 then
 if i_5 < ((List.length a_0 : Nat) : Int) then
 if 0 ≤ i_5 then
 if i_5 < ((List.length b_1 : Nat) : Int) then
 (laws_eqChord k (rd T71 a_0 i_5) (rd T71 b_1 i_5)).bind fun r1 =>
 if ¬ (r1 = true) then
 some false
 else laws_eqChordS.l0 k m a_0 b_1 (IntKind.wrap .i64 (i_5 + 1)) else none else none else none else none
 else some true := by kernel_rfl
theorem laws_eqEventS_eq (k : Nat) (a_0 : (List DT135)) (b_1 : (List DT135)) : laws_eqEventS (k + 1) a_0 b_1 =
 if (((List.length a_0 : Nat) : Int) : Int) ≠ ((List.length b_1 : Nat) : Int) then
 some false
 else laws_eqEventS.l0 k k a_0 b_1 0 := by kernel_rfl
theorem laws_eqEventS.l0_eq (k m : Nat) (a_0 : (List DT135)) (b_1 : (List DT135)) (i_5 : Int) : laws_eqEventS.l0 k (m + 1) a_0 b_1 i_5 =
 if (i_5 : Int) < ((List.length a_0 : Nat) : Int) then
 if 0 ≤ i_5 then
 if i_5 < ((List.length a_0 : Nat) : Int) then
 if 0 ≤ i_5 then
 if i_5 < ((List.length b_1 : Nat) : Int) then
 (laws_eqEvent k (rd T135 a_0 i_5) (rd T135 b_1 i_5)).bind fun r1 =>
 if ¬ (r1 = true) then
 some false
 else laws_eqEventS.l0 k m a_0 b_1 (IntKind.wrap .i64 (i_5 + 1)) else none else none else none else none
 else some true := by kernel_rfl
theorem laws_markEventS_eq (k : Nat) (a_0 : (List DT135)) (k_1 : Int) : laws_markEventS (k + 1) a_0 k_1 =
 laws_markEventS.l0 k k k_1 0 a_0 := by kernel_rfl
theorem laws_markEventS.l0_eq (k m : Nat) (k_1 : Int) (i_5 : Int) (s0 : (List DT135)) : laws_markEventS.l0 k (m + 1) k_1 i_5 s0 =
 if (i_5 : Int) < ((List.length s0 : Nat) : Int) then
 if 0 ≤ i_5 then
 if i_5 < ((List.length s0 : Nat) : Int) then
 if 0 ≤ i_5 then
 if i_5 < ((List.length (setAt T135 s0 i_5 (fun yy => (k_1, yy.2))) : Nat) : Int) then
 if 0 ≤ i_5 then
 if i_5 < ((List.length (setAt T135 (setAt T135 s0 i_5 (fun yy => (k_1, yy.2))) i_5 (fun yy => (yy.1, (IntKind.wrap .i64 (k_1 + 1), yy.2.2)))) : Nat) : Int) then
 if 0 ≤ i_5 then
 if i_5 < ((List.length (setAt T135 (setAt T135 (setAt T135 s0 i_5 (fun yy => (k_1, yy.2))) i_5 (fun yy => (yy.1, (IntKind.wrap .i64 (k_1 + 1), yy.2.2)))) i_5 (fun yy => (yy.1, (yy.2.1, (IntKind.wrap .i64 ((IntKind.wrap .i64 (k_1 + 1)) + 1), yy.2.2.2))))) : Nat) : Int) then
 laws_markEventS.l0 k m (IntKind.wrap .i64 ((IntKind.wrap .i64 ((IntKind.wrap .i64 ((IntKind.wrap .i64 (k_1 + 1)) + 1)) + 1)) + 1)) (IntKind.wrap .i64 (i_5 + 1)) (setAt T135 (setAt T135 (setAt T135 (setAt T135 s0 i_5 (fun yy => (k_1, yy.2))) i_5 (fun yy => (yy.1, (IntKind.wrap .i64 (k_1 + 1), yy.2.2)))) i_5 (fun yy => (yy.1, (yy.2.1, (IntKind.wrap .i64 ((IntKind.wrap .i64 (k_1 + 1)) + 1), yy.2.2.2))))) i_5 (fun yy => (yy.1, (yy.2.1, (yy.2.2.1, (IntKind.wrap .i64 ((IntKind.wrap .i64 ((IntKind.wrap .i64 (k_1 + 1)) + 1)) + 1), ())))))) else none else none else none else none else none else none else none else none
 else some (k_1, s0) := by kernel_rfl
theorem laws_markChordS_eq (k : Nat) (a_0 : (List DT71)) (k_1 : Int) : laws_markChordS (k + 1) a_0 k_1 =
 laws_markChordS.l0 k k k_1 0 a_0 := by kernel_rfl
theorem laws_markChordS.l0_eq (k m : Nat) (k_1 : Int) (i_5 : Int) (s0 : (List DT71)) : laws_markChordS.l0 k (m + 1) k_1 i_5 s0 =
 if (i_5 : Int) < ((List.length s0 : Nat) : Int) then
 if 0 ≤ i_5 then
 if i_5 < ((List.length s0 : Nat) : Int) then
 if 0 ≤ i_5 then
 if i_5 < ((List.length (setAt T71 s0 i_5 (fun yy => (k_1, yy.2))) : Nat) : Int) then
 laws_markChordS.l0 k m (IntKind.wrap .i64 ((IntKind.wrap .i64 (k_1 + 1)) + 1)) (IntKind.wrap .i64 (i_5 + 1)) (setAt T71 (setAt T71 s0 i_5 (fun yy => (k_1, yy.2))) i_5 (fun yy => (yy.1, (IntKind.wrap .i64 (k_1 + 1), ())))) else none else none else none else none
 else some (k_1, s0) := by kernel_rfl
theorem laws_heldChordS_eq (k : Nat) (a_0 : (List DT71)) (k_1 : Int) : laws_heldChordS (k + 1) a_0 k_1 =
 laws_heldChordS.l0 k k a_0 k_1 0 := by kernel_rfl
theorem laws_heldChordS.l0_eq (k m : Nat) (a_0 : (List DT71)) (k_1 : Int) (i_5 : Int) : laws_heldChordS.l0 k (m + 1) a_0 k_1 i_5 =
 if (i_5 : Int) < ((List.length a_0 : Nat) : Int) then
 if 0 ≤ i_5 then
 if i_5 < ((List.length a_0 : Nat) : Int) then
 if Ne (α := Int) (rd T71 a_0 i_5).1 k_1 then
 some (-1)
 else if 0 ≤ i_5 then
 if i_5 < ((List.length a_0 : Nat) : Int) then
 if Ne (α := Int) (rd T71 a_0 i_5).2.1 (IntKind.wrap .i64 (k_1 + 1)) then
 some (-1)
 else laws_heldChordS.l0 k m a_0 (IntKind.wrap .i64 ((IntKind.wrap .i64 (k_1 + 1)) + 1)) (IntKind.wrap .i64 (i_5 + 1)) else none else none else none else none
 else some k_1 := by kernel_rfl
theorem laws_toEvent_eq (k : Nat) (a_0 : DT135) : laws_toEvent (k + 1) a_0 =
 some a_0 := by kernel_rfl
theorem spec_l8Num_eq (k : Nat) (l_0 : (List Int)) (n_1 : Int) : spec_l8Num (k + 1) l_0 n_1 =
 spec_l8Num.l0 k k l_0 n_1 0 := by kernel_rfl
theorem spec_l8Num.l0_eq (k m : Nat) (l_0 : (List Int)) (n_1 : Int) (k_5 : Int) : spec_l8Num.l0 k (m + 1) l_0 n_1 k_5 =
 if (k_5 : Int) < ((List.length l_0 : Nat) : Int) then
 if 0 ≤ k_5 then
 if k_5 < ((List.length l_0 : Nat) : Int) then
 if LT.lt (α := Int) (rd (.int .i64) l_0 k_5) n_1 then
 spec_l8Num.l0 k m l_0 n_1 (IntKind.wrap .i64 (k_5 + 1))
 else if (k_5 : Int) < ((List.length l_0 : Nat) : Int) then
 if 0 ≤ k_5 then
 if k_5 < ((List.length l_0 : Nat) : Int) then
 if Eq (α := Int) (rd (.int .i64) l_0 k_5) n_1 then
 if (List.length ([] : (List Int)) + List.length l_0) * 8 ≤ 211106232532992 then
 some (([] : (List Int)) ++ l_0) else none
 else if 0 ≤ k_5 then
 if k_5 ≤ ((List.length l_0 : Nat) : Int) then
 if (List.length ([] : (List Int)) + List.length (List.take ((Int.toNat k_5) - (Int.toNat 0)) (List.drop (Int.toNat 0) l_0))) * 8 ≤ 211106232532992 then
 if (List.length (([] : (List Int)) ++ (List.take ((Int.toNat k_5) - (Int.toNat 0)) (List.drop (Int.toNat 0) l_0))) + List.length [n_1]) * 8 ≤ 211106232532992 then
 if 0 ≤ k_5 then
 if k_5 ≤ ((List.length l_0 : Nat) : Int) then
 if (List.length ((([] : (List Int)) ++ (List.take ((Int.toNat k_5) - (Int.toNat 0)) (List.drop (Int.toNat 0) l_0))) ++ [n_1]) + List.length (List.take ((Int.toNat ((List.length l_0 : Nat) : Int)) - (Int.toNat k_5)) (List.drop (Int.toNat k_5) l_0))) * 8 ≤ 211106232532992 then
 some (((([] : (List Int)) ++ (List.take ((Int.toNat k_5) - (Int.toNat 0)) (List.drop (Int.toNat 0) l_0))) ++ [n_1]) ++ (List.take ((Int.toNat ((List.length l_0 : Nat) : Int)) - (Int.toNat k_5)) (List.drop (Int.toNat k_5) l_0))) else none else none else none else none else none else none else none else none else none
 else if 0 ≤ k_5 then
 if k_5 ≤ ((List.length l_0 : Nat) : Int) then
 if (List.length ([] : (List Int)) + List.length (List.take ((Int.toNat k_5) - (Int.toNat 0)) (List.drop (Int.toNat 0) l_0))) * 8 ≤ 211106232532992 then
 if (List.length (([] : (List Int)) ++ (List.take ((Int.toNat k_5) - (Int.toNat 0)) (List.drop (Int.toNat 0) l_0))) + List.length [n_1]) * 8 ≤ 211106232532992 then
 if 0 ≤ k_5 then
 if k_5 ≤ ((List.length l_0 : Nat) : Int) then
 if (List.length ((([] : (List Int)) ++ (List.take ((Int.toNat k_5) - (Int.toNat 0)) (List.drop (Int.toNat 0) l_0))) ++ [n_1]) + List.length (List.take ((Int.toNat ((List.length l_0 : Nat) : Int)) - (Int.toNat k_5)) (List.drop (Int.toNat k_5) l_0))) * 8 ≤ 211106232532992 then
 some (((([] : (List Int)) ++ (List.take ((Int.toNat k_5) - (Int.toNat 0)) (List.drop (Int.toNat 0) l_0))) ++ [n_1]) ++ (List.take ((Int.toNat ((List.length l_0 : Nat) : Int)) - (Int.toNat k_5)) (List.drop (Int.toNat k_5) l_0))) else none else none else none else none else none else none else none else none else none
 else if (k_5 : Int) < ((List.length l_0 : Nat) : Int) then
 if 0 ≤ k_5 then
 if k_5 < ((List.length l_0 : Nat) : Int) then
 if Eq (α := Int) (rd (.int .i64) l_0 k_5) n_1 then
 if (List.length ([] : (List Int)) + List.length l_0) * 8 ≤ 211106232532992 then
 some (([] : (List Int)) ++ l_0) else none
 else if 0 ≤ k_5 then
 if k_5 ≤ ((List.length l_0 : Nat) : Int) then
 if (List.length ([] : (List Int)) + List.length (List.take ((Int.toNat k_5) - (Int.toNat 0)) (List.drop (Int.toNat 0) l_0))) * 8 ≤ 211106232532992 then
 if (List.length (([] : (List Int)) ++ (List.take ((Int.toNat k_5) - (Int.toNat 0)) (List.drop (Int.toNat 0) l_0))) + List.length [n_1]) * 8 ≤ 211106232532992 then
 if 0 ≤ k_5 then
 if k_5 ≤ ((List.length l_0 : Nat) : Int) then
 if (List.length ((([] : (List Int)) ++ (List.take ((Int.toNat k_5) - (Int.toNat 0)) (List.drop (Int.toNat 0) l_0))) ++ [n_1]) + List.length (List.take ((Int.toNat ((List.length l_0 : Nat) : Int)) - (Int.toNat k_5)) (List.drop (Int.toNat k_5) l_0))) * 8 ≤ 211106232532992 then
 some (((([] : (List Int)) ++ (List.take ((Int.toNat k_5) - (Int.toNat 0)) (List.drop (Int.toNat 0) l_0))) ++ [n_1]) ++ (List.take ((Int.toNat ((List.length l_0 : Nat) : Int)) - (Int.toNat k_5)) (List.drop (Int.toNat k_5) l_0))) else none else none else none else none else none else none else none else none else none
 else if 0 ≤ k_5 then
 if k_5 ≤ ((List.length l_0 : Nat) : Int) then
 if (List.length ([] : (List Int)) + List.length (List.take ((Int.toNat k_5) - (Int.toNat 0)) (List.drop (Int.toNat 0) l_0))) * 8 ≤ 211106232532992 then
 if (List.length (([] : (List Int)) ++ (List.take ((Int.toNat k_5) - (Int.toNat 0)) (List.drop (Int.toNat 0) l_0))) + List.length [n_1]) * 8 ≤ 211106232532992 then
 if 0 ≤ k_5 then
 if k_5 ≤ ((List.length l_0 : Nat) : Int) then
 if (List.length ((([] : (List Int)) ++ (List.take ((Int.toNat k_5) - (Int.toNat 0)) (List.drop (Int.toNat 0) l_0))) ++ [n_1]) + List.length (List.take ((Int.toNat ((List.length l_0 : Nat) : Int)) - (Int.toNat k_5)) (List.drop (Int.toNat k_5) l_0))) * 8 ≤ 211106232532992 then
 some (((([] : (List Int)) ++ (List.take ((Int.toNat k_5) - (Int.toNat 0)) (List.drop (Int.toNat 0) l_0))) ++ [n_1]) ++ (List.take ((Int.toNat ((List.length l_0 : Nat) : Int)) - (Int.toNat k_5)) (List.drop (Int.toNat k_5) l_0))) else none else none else none else none else none else none else none := by kernel_rfl
theorem spec_ChordAt_eq (k : Nat) (l_0 : (List DT135)) (tick_1 : Int) : spec_ChordAt (k + 1) l_0 tick_1 =
 (spec_SoundsAt k l_0 tick_1).bind fun r1 =>
 (spec_ClassesOf k r1).bind fun r2 =>
 (spec_ChordOf k r2).bind fun r3 =>
 some (r3.1, (decide (r3.2.1 = true), ())) := by kernel_rfl
theorem slices_Sort___int_int_eq (k : Nat) (x_0 : (List Int)) : slices_Sort___int_int (k + 1) x_0 = primSort (.pair .unit (.list (.int .i64))) [.lend (.list (.int .i64)) x_0] := by kernel_rfl
theorem slices_Compact___int_int_eq (k : Nat) (s_0 : (List Int)) : slices_Compact___int_int (k + 1) s_0 =
 if (((List.length s_0 : Nat) : Int) : Int) < 2 then
 some s_0
 else slices_Compact___int_int.l0 k k 1 s_0 := by kernel_rfl
theorem slices_Compact___int_int.l0_eq (k m : Nat) (k_3 : Int) (s0 : (List Int)) : slices_Compact___int_int.l0 k (m + 1) k_3 s0 =
 if (k_3 : Int) < ((List.length s0 : Nat) : Int) then
 if 0 ≤ k_3 then
 if k_3 < ((List.length s0 : Nat) : Int) then
 if 0 ≤ (IntKind.wrap .i64 (k_3 - 1)) then
 if (IntKind.wrap .i64 (k_3 - 1)) < ((List.length s0 : Nat) : Int) then
 if Eq (α := Int) (rd (.int .i64) s0 k_3) (rd (.int .i64) s0 (IntKind.wrap .i64 (k_3 - 1))) then
 if 0 ≤ k_3 then
 if k_3 ≤ ((List.length s0 : Nat) : Int) then
 slices_Compact___int_int.l1 k k m k_3 (Int.toNat k_3) ((Int.toNat ((List.length s0 : Nat) : Int)) - (Int.toNat k_3)) 1 s0 else none else none
 else slices_Compact___int_int.l0 k m (IntKind.wrap .i64 (k_3 + 1)) s0 else none else none else none else none
 else some s0 := by kernel_rfl
theorem slices_Compact___int_int.l1_eq (k m m1 : Nat) (k_3 : Int) (s2_4_o : Nat) (s2_4_n : Nat) (k2_5 : Int) (s0 : (List Int)) : slices_Compact___int_int.l1 k (m + 1) m1 k_3 s2_4_o s2_4_n k2_5 s0 =
 if (k2_5 : Int) < ((s2_4_n : Nat) : Int) then
 if 0 ≤ k2_5 then
 if k2_5 < ((s2_4_n : Nat) : Int) then
 if 0 ≤ (IntKind.wrap .i64 (k2_5 - 1)) then
 if (IntKind.wrap .i64 (k2_5 - 1)) < ((s2_4_n : Nat) : Int) then
 if Ne (α := Int) (rd (.int .i64) s0 ((s2_4_o + Int.toNat k2_5 : Nat) : Int)) (rd (.int .i64) s0 ((s2_4_o + Int.toNat (IntKind.wrap .i64 (k2_5 - 1)) : Nat) : Int)) then
 if 0 ≤ k2_5 then
 if k2_5 < ((s2_4_n : Nat) : Int) then
 if 0 ≤ k_3 then
 if k_3 < ((List.length s0 : Nat) : Int) then
 slices_Compact___int_int.l1 k m m1 (IntKind.wrap .i64 (k_3 + 1)) s2_4_o s2_4_n (IntKind.wrap .i64 (k2_5 + 1)) (List.set s0 (Int.toNat k_3) (rd (.int .i64) s0 ((s2_4_o + Int.toNat k2_5 : Nat) : Int))) else none else none else none else none
 else slices_Compact___int_int.l1 k m m1 k_3 s2_4_o s2_4_n (IntKind.wrap .i64 (k2_5 + 1)) s0 else none else none else none else none
 else if 0 ≤ k_3 then
 if k_3 ≤ ((List.length s0 : Nat) : Int) then
 if 0 ≤ k_3 then
 if k_3 ≤ ((List.length (List.take (Int.toNat k_3) s0 ++ List.replicate ((Int.toNat ((List.length s0 : Nat) : Int)) - (Int.toNat k_3)) (Ty.dflt (.int .i64)) ++ List.drop ((Int.toNat k_3) + ((Int.toNat ((List.length s0 : Nat) : Int)) - (Int.toNat k_3))) s0) : Nat) : Int) then
 some (List.take ((Int.toNat k_3) - (Int.toNat 0)) (List.drop (Int.toNat 0) (List.take (Int.toNat k_3) s0 ++ List.replicate ((Int.toNat ((List.length s0 : Nat) : Int)) - (Int.toNat k_3)) (Ty.dflt (.int .i64)) ++ List.drop ((Int.toNat k_3) + ((Int.toNat ((List.length s0 : Nat) : Int)) - (Int.toNat k_3))) s0))) else none else none else none else none := by kernel_rfl
theorem impl_ChordAt_eq (k : Nat) (l_0 : (List DT135)) (tick_1 : Int) : impl_ChordAt (k + 1) l_0 tick_1 =
 (impl_SoundsAt k l_0 tick_1).bind fun r1 =>
 (impl_ClassesOf k r1).bind fun r2 =>
 (impl_ChordOf k r2).bind fun r3 =>
 some (r3.1, (decide (r3.2.1 = true), ())) := by kernel_rfl
theorem laws_eqChord_eq (k : Nat) (a_0 : DT71) (b_1 : DT71) : laws_eqChord (k + 1) a_0 b_1 =
 if (a_0.1 : Int) ≠ b_1.1 then
 some false
 else if (a_0.2.1 : Int) ≠ b_1.2.1 then
 some false
 else some true := by kernel_rfl
theorem laws_eqEvent_eq (k : Nat) (a_0 : DT135) (b_1 : DT135) : laws_eqEvent (k + 1) a_0 b_1 =
 if (a_0.1 : Int) ≠ b_1.1 then
 some false
 else if (a_0.2.1 : Int) ≠ b_1.2.1 then
 some false
 else if (a_0.2.2.1 : Int) ≠ b_1.2.2.1 then
 some false
 else if (a_0.2.2.2.1 : Int) ≠ b_1.2.2.2.1 then
 some false
 else some true := by kernel_rfl
theorem spec_SoundsAt_eq (k : Nat) (l_0 : (List DT135)) (tick_1 : Int) : spec_SoundsAt (k + 1) l_0 tick_1 =
 spec_SoundsAt.l0 k k l_0 tick_1 0 [] := by kernel_rfl
theorem spec_SoundsAt.l0_eq (k m : Nat) (l_0 : (List DT135)) (tick_1 : Int) (i_6 : Int) (s0 : (List Int)) : spec_SoundsAt.l0 k (m + 1) l_0 tick_1 i_6 s0 =
 if (i_6 : Int) < ((List.length l_0 : Nat) : Int) then
 (spec_IsScore k l_0).bind fun r1 =>
 if r1 = true then
 if 0 ≤ i_6 then
 if i_6 < ((List.length l_0 : Nat) : Int) then
 if LE.le (α := Int) (rd T135 l_0 i_6).1 tick_1 then
 if 0 ≤ i_6 then
 if i_6 < ((List.length l_0 : Nat) : Int) then
 if 0 ≤ i_6 then
 if i_6 < ((List.length l_0 : Nat) : Int) then
 if LT.lt (α := Int) tick_1 (IntKind.wrap .i64 ((rd T135 l_0 i_6).1 + (rd T135 l_0 i_6).2.1)) then
 if 0 ≤ i_6 then
 if i_6 < ((List.length l_0 : Nat) : Int) then
 (spec_l8Num k s0 (rd T135 l_0 i_6).2.2.1).bind fun r2 =>
 spec_SoundsAt.l0 k m l_0 tick_1 (IntKind.wrap .i64 (i_6 + 1)) r2 else none else none
 else spec_SoundsAt.l0 k m l_0 tick_1 (IntKind.wrap .i64 (i_6 + 1)) s0 else none else none else none else none
 else spec_SoundsAt.l0 k m l_0 tick_1 (IntKind.wrap .i64 (i_6 + 1)) s0 else none else none
 else some s0
 else some s0 := by kernel_rfl
theorem spec_ClassesOf_eq (k : Nat) (pitches_0 : (List Int)) : spec_ClassesOf (k + 1) pitches_0 =
 spec_ClassesOf.l0 k k pitches_0 0 [] := by kernel_rfl
theorem spec_ClassesOf.l0_eq (k m : Nat) (pitches_0 : (List Int)) (i_4 : Int) (s0 : (List Int)) : spec_ClassesOf.l0 k (m + 1) pitches_0 i_4 s0 =
 if (i_4 : Int) < ((List.length pitches_0 : Nat) : Int) then
 if 0 ≤ i_4 then
 if i_4 < ((List.length pitches_0 : Nat) : Int) then
 (spec_Mod k (rd (.int .i64) pitches_0 i_4) 12).bind fun r1 =>
 (spec_l8Num k s0 r1).bind fun r2 =>
 spec_ClassesOf.l0 k m pitches_0 (IntKind.wrap .i64 (i_4 + 1)) r2 else none else none
 else some s0 := by kernel_rfl
theorem spec_ChordOf_eq (k : Nat) (classes_0 : (List Int)) : spec_ChordOf (k + 1) classes_0 =
 spec_ChordOf.l0 k k classes_0 1 0 0 := by kernel_rfl
theorem spec_ChordOf.l0_eq (k m : Nat) (classes_0 : (List Int)) (k_4 : Int) (b0_0 : Int) (b0_1 : Int) : spec_ChordOf.l0 k (m + 1) classes_0 k_4 b0_0 b0_1 =
 if (k_4 : Int) ≤ 5 then
 spec_ChordOf.l1 k k m classes_0 k_4 0 b0_0 b0_1
 else some ((0, (0, ())), (false, ())) := by kernel_rfl
theorem spec_ChordOf.l1_eq (k m m1 : Nat) (classes_0 : (List Int)) (k_4 : Int) (r_5 : Int) (b0_0 : Int) (b0_1 : Int) : spec_ChordOf.l1 k (m + 1) m1 classes_0 k_4 r_5 b0_0 b0_1 =
 if (r_5 : Int) < 12 then
 (spec_TonesOf k (r_5, (k_4, ()))).bind fun r1 =>
 (spec_EqualInts k r1 classes_0).bind fun r2 =>
 if r2 = true then
 some ((r_5, (k_4, ())), (true, ()))
 else spec_ChordOf.l1 k m m1 classes_0 k_4 (IntKind.wrap .i64 (r_5 + 1)) b0_0 b0_1
 else spec_ChordOf.l0 k m1 classes_0 (IntKind.wrap .i64 (k_4 + 1)) b0_0 b0_1 := by kernel_rfl
theorem impl_SoundsAt_eq (k : Nat) (l_0 : (List DT135)) (tick_1 : Int) : impl_SoundsAt (k + 1) l_0 tick_1 =
 (impl_IsScore k l_0).bind fun r1 =>
 if ¬ (r1 = true) then
 some []
 else impl_SoundsAt.l0 k k tick_1 l_0 ((List.length l_0 : Nat) : Int) 0 [] := by kernel_rfl
theorem impl_SoundsAt.l0_eq (k m : Nat) (tick_1 : Int) (t_13 : (List DT135)) (t_14 : Int) (t_15 : Int) (s0 : (List Int)) : impl_SoundsAt.l0 k (m + 1) tick_1 t_13 t_14 t_15 s0 =
 if (t_15 : Int) < t_14 then
 if 0 ≤ t_15 then
 if t_15 < ((List.length t_13 : Nat) : Int) then
 (impl_Event__sounds k (rd T135 t_13 t_15) tick_1).bind fun r2 =>
 if r2 = true then
 if (List.length s0 + List.length ([(rd T135 t_13 t_15).2.2.1])) * 8 ≤ 211106232532992 then
 impl_SoundsAt.l0 k m tick_1 t_13 t_14 (IntKind.wrap .i64 (t_15 + 1)) (s0 ++ [(rd T135 t_13 t_15).2.2.1]) else none
 else impl_SoundsAt.l0 k m tick_1 t_13 t_14 (IntKind.wrap .i64 (t_15 + 1)) s0 else none else none
 else (slices_Sort___int_int k s0).bind fun r3 =>
 (slices_Compact___int_int k r3.2).bind fun r4 =>
 some r4 := by kernel_rfl
theorem impl_ClassesOf_eq (k : Nat) (pitches_0 : (List Int)) : impl_ClassesOf (k + 1) pitches_0 =
 impl_ClassesOf.l0 k k pitches_0 ((List.length pitches_0 : Nat) : Int) 0 [] := by kernel_rfl
theorem impl_ClassesOf.l0_eq (k m : Nat) (t_7 : (List Int)) (t_8 : Int) (t_9 : Int) (s0 : (List Int)) : impl_ClassesOf.l0 k (m + 1) t_7 t_8 t_9 s0 =
 if (t_9 : Int) < t_8 then
 if 0 ≤ t_9 then
 if t_9 < ((List.length t_7 : Nat) : Int) then
 (impl_Mod k (rd (.int .i64) t_7 t_9) 12).bind fun r1 =>
 if (List.length s0 + List.length [r1]) * 8 ≤ 211106232532992 then
 impl_ClassesOf.l0 k m t_7 t_8 (IntKind.wrap .i64 (t_9 + 1)) (s0 ++ [r1]) else none else none else none
 else (slices_Sort___int_int k s0).bind fun r2 =>
 (slices_Compact___int_int k r2.2).bind fun r3 =>
 some r3 := by kernel_rfl
theorem impl_ChordOf_eq (k : Nat) (classes_0 : (List Int)) : impl_ChordOf (k + 1) classes_0 =
 impl_ChordOf.l0 k k classes_0 1 0 0 := by kernel_rfl
theorem impl_ChordOf.l0_eq (k m : Nat) (classes_0 : (List Int)) (kind_4 : Int) (b0_0 : Int) (b0_1 : Int) : impl_ChordOf.l0 k (m + 1) classes_0 kind_4 b0_0 b0_1 =
 if (kind_4 : Int) ≤ 5 then
 impl_ChordOf.l1 k k m classes_0 kind_4 0 b0_0 b0_1
 else some ((0, (0, ())), (false, ())) := by kernel_rfl
theorem impl_ChordOf.l1_eq (k m m1 : Nat) (classes_0 : (List Int)) (kind_4 : Int) (t_11 : Int) (b0_0 : Int) (b0_1 : Int) : impl_ChordOf.l1 k (m + 1) m1 classes_0 kind_4 t_11 b0_0 b0_1 =
 if (t_11 : Int) < 12 then
 (impl_TonesOf k (t_11, (kind_4, ()))).bind fun r1 =>
 (slices_Equal___int_int k r1 classes_0).bind fun r2 =>
 if r2 = true then
 some ((t_11, (kind_4, ())), (true, ()))
 else impl_ChordOf.l1 k m m1 classes_0 kind_4 (IntKind.wrap .i64 (t_11 + 1)) b0_0 b0_1
 else impl_ChordOf.l0 k m1 classes_0 (IntKind.wrap .i64 (kind_4 + 1)) b0_0 b0_1 := by kernel_rfl
theorem spec_IsScore_eq (k : Nat) (l_0 : (List DT135)) : spec_IsScore (k + 1) l_0 =
 spec_IsScore.l0 k k l_0 0 := by kernel_rfl
theorem spec_IsScore.l0_eq (k m : Nat) (l_0 : (List DT135)) (i_3 : Int) : spec_IsScore.l0 k (m + 1) l_0 i_3 =
 if (i_3 : Int) < ((List.length l_0 : Nat) : Int) then
 if 0 ≤ i_3 then
 if i_3 < ((List.length l_0 : Nat) : Int) then
 (spec_l8Ok k (rd T135 l_0 i_3)).bind fun r1 =>
 if ¬ (r1 = true) then
 some false
 else if (0 : Int) < i_3 then
 if 0 ≤ (IntKind.wrap .i64 (i_3 - 1)) then
 if (IntKind.wrap .i64 (i_3 - 1)) < ((List.length l_0 : Nat) : Int) then
 if 0 ≤ i_3 then
 if i_3 < ((List.length l_0 : Nat) : Int) then
 (spec_l8Before k (rd T135 l_0 (IntKind.wrap .i64 (i_3 - 1))) (rd T135 l_0 i_3)).bind fun r2 =>
 if ¬ (r2 = true) then
 some false
 else spec_IsScore.l0 k m l_0 (IntKind.wrap .i64 (i_3 + 1)) else none else none else none else none
 else spec_IsScore.l0 k m l_0 (IntKind.wrap .i64 (i_3 + 1)) else none else none
 else some (decide ((((List.length l_0 : Nat) : Int) : Int) ≤ 40)) := by kernel_rfl
theorem spec_Mod_eq (k : Nat) (n_0 : Int) (m_1 : Int) : spec_Mod (k + 1) n_0 m_1 =
 (spec_l1In k m_1 1 1000000000000).bind fun r1 =>
 if ¬ (r1 = true) then
 some 0
 else if m_1 = (0 : Int) then
 none
 else if m_1 = (0 : Int) then
 none
 else some (Int.tmod (IntKind.wrap .i64 ((Int.tmod n_0 m_1) + m_1)) m_1) := by kernel_rfl
theorem spec_TonesOf_eq (k : Nat) (x_0 : DT71) : spec_TonesOf (k + 1) x_0 =
 (spec_IsChord k x_0).bind fun r1 =>
 if ¬ (r1 = true) then
 some []
 else (spec_l22Halves k x_0.2.1).bind fun r2 =>
 spec_TonesOf.l0 k k r2 0 x_0.1 x_0.2.1 [] := by kernel_rfl
theorem spec_TonesOf.l0_eq (k m : Nat) (h_4 : (List Int)) (i_5 : Int) (b0_0 : Int) (b0_1 : Int) (s1 : (List Int)) : spec_TonesOf.l0 k (m + 1) h_4 i_5 b0_0 b0_1 s1 =
 if (i_5 : Int) < ((List.length h_4 : Nat) : Int) then
 if 0 ≤ i_5 then
 if i_5 < ((List.length h_4 : Nat) : Int) then
 if 12 = (0 : Int) then
 none
 else (spec_l8Num k s1 (Int.tmod (IntKind.wrap .i64 (b0_0 + (rd (.int .i64) h_4 i_5))) 12)).bind fun r3 =>
 spec_TonesOf.l0 k m h_4 (IntKind.wrap .i64 (i_5 + 1)) b0_0 b0_1 r3 else none else none
 else some s1 := by kernel_rfl
theorem spec_EqualInts_eq (k : Nat) (a_0 : (List Int)) (b_1 : (List Int)) : spec_EqualInts (k + 1) a_0 b_1 =
 if (((List.length a_0 : Nat) : Int) : Int) ≠ ((List.length b_1 : Nat) : Int) then
 some false
 else spec_EqualInts.l0 k k a_0 b_1 0 := by kernel_rfl
theorem spec_EqualInts.l0_eq (k m : Nat) (a_0 : (List Int)) (b_1 : (List Int)) (i_5 : Int) : spec_EqualInts.l0 k (m + 1) a_0 b_1 i_5 =
 if (i_5 : Int) < ((List.length a_0 : Nat) : Int) then
 if 0 ≤ i_5 then
 if i_5 < ((List.length a_0 : Nat) : Int) then
 if 0 ≤ i_5 then
 if i_5 < ((List.length b_1 : Nat) : Int) then
 if Ne (α := Int) (rd (.int .i64) a_0 i_5) (rd (.int .i64) b_1 i_5) then
 some false
 else spec_EqualInts.l0 k m a_0 b_1 (IntKind.wrap .i64 (i_5 + 1)) else none else none else none else none
 else some true := by kernel_rfl
theorem impl_IsScore_eq (k : Nat) (l_0 : (List DT135)) : impl_IsScore (k + 1) l_0 =
 impl_IsScore.l0 k k l_0 l_0 ((List.length l_0 : Nat) : Int) 0 := by kernel_rfl
theorem impl_IsScore.l0_eq (k m : Nat) (l_0 : (List DT135)) (t_5 : (List DT135)) (t_6 : Int) (t_7 : Int) : impl_IsScore.l0 k (m + 1) l_0 t_5 t_6 t_7 =
 if (t_7 : Int) < t_6 then
 if 0 ≤ t_7 then
 if t_7 < ((List.length t_5 : Nat) : Int) then
 (impl_InRange k (rd T135 t_5 t_7).1 0 2000).bind fun r1 =>
 if ¬ (r1 = true) then
 some false
 else (impl_InRange k (rd T135 t_5 t_7).2.1 1 96).bind fun r2 =>
 if ¬ (r2 = true) then
 some false
 else (impl_InRange k (rd T135 t_5 t_7).2.2.1 21 108).bind fun r3 =>
 if ¬ (r3 = true) then
 some false
 else (impl_InRange k (rd T135 t_5 t_7).2.2.2.1 1 4).bind fun r4 =>
 if ¬ (r4 = true) then
 some false
 else if (0 : Int) < t_7 then
 if 0 ≤ (IntKind.wrap .i64 (t_7 - 1)) then
 if (IntKind.wrap .i64 (t_7 - 1)) < ((List.length l_0 : Nat) : Int) then
 (impl_eventOrder k (rd T135 l_0 (IntKind.wrap .i64 (t_7 - 1))) (rd T135 t_5 t_7)).bind fun r5 =>
 if (0 : Int) ≤ r5 then
 some false
 else impl_IsScore.l0 k m l_0 t_5 t_6 (IntKind.wrap .i64 (t_7 + 1)) else none else none
 else impl_IsScore.l0 k m l_0 t_5 t_6 (IntKind.wrap .i64 (t_7 + 1)) else none else none
 else some (decide ((((List.length l_0 : Nat) : Int) : Int) ≤ 40)) := by kernel_rfl
theorem impl_Event__sounds_eq (k : Nat) (e_0 : DT135) (tick_1 : Int) : impl_Event__sounds (k + 1) e_0 tick_1 =
 if (e_0.1 : Int) ≤ tick_1 then
 some (decide ((tick_1 : Int) < (IntKind.wrap .i64 (e_0.1 + e_0.2.1))))
 else some false := by kernel_rfl
theorem impl_Mod_eq (k : Nat) (p_0 : Int) (q_1 : Int) : impl_Mod (k + 1) p_0 q_1 =
 (impl_InRange k q_1 1 1000000000000).bind fun r1 =>
 if ¬ (r1 = true) then
 some 0
 else if q_1 = (0 : Int) then
 none
 else if q_1 = (0 : Int) then
 none
 else some (Int.tmod (IntKind.wrap .i64 ((Int.tmod p_0 q_1) + q_1)) q_1) := by kernel_rfl
theorem impl_TonesOf_eq (k : Nat) (x_0 : DT71) : impl_TonesOf (k + 1) x_0 =
 (impl_IsChord k x_0).bind fun r1 =>
 if ¬ (r1 = true) then
 some []
 else if 0 ≤ (IntKind.wrap .i64 (x_0.2.1 - 1)) then
 if (IntKind.wrap .i64 (x_0.2.1 - 1)) < ((List.length ([[0, 4, 7], [0, 3, 7], [0, 3, 6], [0, 4, 8], [0, 4, 7, 10]]) : Nat) : Int) then
 impl_TonesOf.l0 k k (rd (.list (.int .i64)) ([[0, 4, 7], [0, 3, 7], [0, 3, 6], [0, 4, 8], [0, 4, 7, 10]]) (IntKind.wrap .i64 (x_0.2.1 - 1))) ((List.length (rd (.list (.int .i64)) ([[0, 4, 7], [0, 3, 7], [0, 3, 6], [0, 4, 8], [0, 4, 7, 10]]) (IntKind.wrap .i64 (x_0.2.1 - 1))) : Nat) : Int) 0 x_0.1 x_0.2.1 [] else none else none := by kernel_rfl
theorem impl_TonesOf.l0_eq (k m : Nat) (t_21 : (List Int)) (t_22 : Int) (t_23 : Int) (b0_0 : Int) (b0_1 : Int) (s1 : (List Int)) : impl_TonesOf.l0 k (m + 1) t_21 t_22 t_23 b0_0 b0_1 s1 =
 if (t_23 : Int) < t_22 then
 if 0 ≤ t_23 then
 if t_23 < ((List.length t_21 : Nat) : Int) then
 if (List.length s1 + List.length ([IntKind.wrap .i64 (b0_0 + (rd (.int .i64) t_21 t_23))])) * 8 ≤ 211106232532992 then
 impl_TonesOf.l0 k m t_21 t_22 (IntKind.wrap .i64 (t_23 + 1)) b0_0 b0_1 (s1 ++ [IntKind.wrap .i64 (b0_0 + (rd (.int .i64) t_21 t_23))]) else none else none else none
 else (impl_ClassesOf k s1).bind fun r2 =>
 some r2 := by kernel_rfl
theorem slices_Equal___int_int_eq (k : Nat) (s1_0 : (List Int)) (s2_1 : (List Int)) : slices_Equal___int_int (k + 1) s1_0 s2_1 =
 if (((List.length s1_0 : Nat) : Int) : Int) ≠ ((List.length s2_1 : Nat) : Int) then
 some false
 else slices_Equal___int_int.l0 k k s1_0 s2_1 ((List.length s1_0 : Nat) : Int) 0 := by kernel_rfl
theorem slices_Equal___int_int.l0_eq (k m : Nat) (s1_0 : (List Int)) (s2_1 : (List Int)) (t_12 : Int) (t_13 : Int) : slices_Equal___int_int.l0 k (m + 1) s1_0 s2_1 t_12 t_13 =
 if (t_13 : Int) < t_12 then
 if 0 ≤ t_13 then
 if t_13 < ((List.length s1_0 : Nat) : Int) then
 if 0 ≤ t_13 then
 if t_13 < ((List.length s2_1 : Nat) : Int) then
 if Ne (α := Int) (rd (.int .i64) s1_0 t_13) (rd (.int .i64) s2_1 t_13) then
 some false
 else slices_Equal___int_int.l0 k m s1_0 s2_1 t_12 (IntKind.wrap .i64 (t_13 + 1)) else none else none else none else none
 else some true := by kernel_rfl
theorem spec_l8Ok_eq (k : Nat) (e_0 : DT135) : spec_l8Ok (k + 1) e_0 =
 (spec_l1In k e_0.1 0 2000).bind fun r1 =>
 if r1 = true then
 (spec_l1In k e_0.2.1 1 96).bind fun r2 =>
 if r2 = true then
 (spec_l1In k e_0.2.2.1 21 108).bind fun r3 =>
 if r3 = true then
 (spec_l1In k e_0.2.2.2.1 1 4).bind fun r4 =>
 some (decide (r4 = true))
 else some false
 else some false
 else some false := by kernel_rfl
theorem spec_l8Before_eq (k : Nat) (a_0 : DT135) (b_1 : DT135) : spec_l8Before (k + 1) a_0 b_1 =
 if (a_0.1 : Int) ≠ b_1.1 then
 some (decide ((a_0.1 : Int) < b_1.1))
 else if (a_0.2.2.2.1 : Int) ≠ b_1.2.2.2.1 then
 some (decide ((a_0.2.2.2.1 : Int) < b_1.2.2.2.1))
 else some (decide ((a_0.2.2.1 : Int) < b_1.2.2.1)) := by kernel_rfl
theorem spec_l1In_eq (k : Nat) (x_0 : Int) (least_1 : Int) (most_2 : Int) : spec_l1In (k + 1) x_0 least_1 most_2 =
 if (least_1 : Int) ≤ x_0 then
 some (decide ((x_0 : Int) ≤ most_2))
 else some false := by kernel_rfl
theorem spec_IsChord_eq (k : Nat) (x_0 : DT71) : spec_IsChord (k + 1) x_0 =
 (spec_l1In k x_0.1 0 11).bind fun r1 =>
 if r1 = true then
 (spec_l1In k x_0.2.1 1 5).bind fun r2 =>
 some (decide (r2 = true))
 else some false := by kernel_rfl
theorem spec_l22Halves_eq (k : Nat) (kind_0 : Int) : spec_l22Halves (k + 1) kind_0 =
 if 0 ≤ (IntKind.wrap .i64 (kind_0 - 1)) then
 if (IntKind.wrap .i64 (kind_0 - 1)) < ((List.length ([[0, 4, 7], [0, 3, 7], [0, 3, 6], [0, 4, 8], [0, 4, 7, 10]]) : Nat) : Int) then
 some (rd (.list (.int .i64)) ([[0, 4, 7], [0, 3, 7], [0, 3, 6], [0, 4, 8], [0, 4, 7, 10]]) (IntKind.wrap .i64 (kind_0 - 1))) else none else none := by kernel_rfl
theorem impl_InRange_eq (k : Nat) (n_0 : Int) (low_1 : Int) (high_2 : Int) : impl_InRange (k + 1) n_0 low_1 high_2 =
 if (low_1 : Int) ≤ n_0 then
 some (decide ((n_0 : Int) ≤ high_2))
 else some false := by kernel_rfl
theorem impl_eventOrder_eq (k : Nat) (a_0 : DT135) (b_1 : DT135) : impl_eventOrder (k + 1) a_0 b_1 =
 (cmp_Compare_int k a_0.1 b_1.1).bind fun r1 =>
 (cmp_Compare_int k a_0.2.2.2.1 b_1.2.2.2.1).bind fun r2 =>
 (cmp_Compare_int k a_0.2.2.1 b_1.2.2.1).bind fun r3 =>
 (cmp_Or_int k ([r1, r2, r3])).bind fun r4 =>
 some r4 := by kernel_rfl
theorem impl_IsChord_eq (k : Nat) (x_0 : DT71) : impl_IsChord (k + 1) x_0 =
 (impl_InRange k x_0.1 0 11).bind fun r1 =>
 if r1 = true then
 (impl_InRange k x_0.2.1 1 5).bind fun r2 =>
 some (decide (r2 = true))
 else some false := by kernel_rfl
theorem cmp_Compare_int_eq (k : Nat) (x_0 : Int) (y_1 : Int) : cmp_Compare_int (k + 1) x_0 y_1 =
 (cmp_isNaN_int k x_0).bind fun r1 =>
 (cmp_isNaN_int k y_1).bind fun r2 =>
 if r1 = true then
 if r2 = true then
 some 0
 else some (-1)
 else if r2 = true then
 some 1
 else if (x_0 : Int) < y_1 then
 some (-1)
 else if (y_1 : Int) < x_0 then
 some 1
 else some 0 := by kernel_rfl
theorem cmp_Or_int_eq (k : Nat) (vals_0 : (List Int)) : cmp_Or_int (k + 1) vals_0 =
 cmp_Or_int.l0 k k 0 vals_0 ((List.length vals_0 : Nat) : Int) 0 := by kernel_rfl
theorem cmp_Or_int.l0_eq (k m : Nat) (zero_3 : Int) (t_6 : (List Int)) (t_7 : Int) (t_8 : Int) : cmp_Or_int.l0 k (m + 1) zero_3 t_6 t_7 t_8 =
 if (t_8 : Int) < t_7 then
 if 0 ≤ t_8 then
 if t_8 < ((List.length t_6 : Nat) : Int) then
 if Ne (α := Int) (rd (.int .i64) t_6 t_8) zero_3 then
 some (rd (.int .i64) t_6 t_8)
 else cmp_Or_int.l0 k m zero_3 t_6 t_7 (IntKind.wrap .i64 (t_8 + 1)) else none else none
 else some zero_3 := by kernel_rfl
theorem cmp_isNaN_int_eq (k : Nat) (x_0 : Int) : cmp_isNaN_int (k + 1) x_0 =
 some (decide ((x_0 : Int) ≠ x_0)) := by kernel_rfl
end Go.QFnExactChordsIn
