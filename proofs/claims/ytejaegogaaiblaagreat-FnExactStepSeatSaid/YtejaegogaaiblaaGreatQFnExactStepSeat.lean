/- The functions that the law FnExactStepSeat reaches, as equations; printed by pe.py. No condition. -/
import Derived.Test.YtejaegogaaiblaaGreatPrim
import Derived.Test.YtejaegogaaiblaaGreatPureSeat
import Derived.Test.YtejaegogaaiblaaGreatSeatF
import Derived.Test.YtejaegogaaiblaaGreatProg
import Derived.KernelRfl
set_option linter.unusedVariables false
open Go Go.Flat
namespace Go.QFnExactStepSeat
abbrev T23 : Ty := .pair (.int .i64) (.pair (.int .i64) .unit)
abbrev DT23 := Int × (Int × Unit)
abbrev T49 : Ty := .pair (.int .i64) (.pair (.int .i64) T23)
abbrev DT49 := Int × (Int × DT23)
abbrev T61 : Ty := .pair (.int .i64) (.pair (.int .i64) (.pair (.int .i64) (.pair (.list (.int .i64)) .unit)))
abbrev DT61 := Int × (Int × (Int × ((List Int) × Unit)))
abbrev T131 : Ty := .pair (.int .i64) T49
abbrev DT131 := Int × DT49
abbrev T30 : Ty := .pair (.list T49) (.pair T23 (.pair (.list T23) (.pair (.dlist T61) (.pair (.list (.int .i64)) (.pair (.list T131) (.pair (.list T23) T23))))))
abbrev DT30 := (List DT49) × (DT23 × ((List DT23) × ((List DT61) × ((List Int) × ((List DT131) × ((List DT23) × DT23))))))
abbrev T161 : Ty := .pair (.list (.int .u8)) T23
abbrev DT161 := (List Int) × DT23
noncomputable def C : Cfg := {
  P := Go.Proofs.Tryz.prog,
  tt := [(1, none), (2, some (.int .i64)), (3, some (.int .i64)), (4, some .bool), (5, some (.int .u8)), (6, some (.int .u8)), (9, some .str), (10, some .str), (11, some .str), (12, some (.int .u64)), (15, none), (16, none), (17, none), (21, some (.int .i32)), (22, some (.list T49)), (23, some T23), (24, some T23), (25, some (.list T23)), (26, some (.dlist T61)), (27, some (.list (.int .i64))), (28, some (.list T131)), (29, some (.list T23)), (30, some T30), (31, some T30), (32, none), (33, some (.list T49)), (34, some T23), (35, some (.list T23)), (36, some (.dlist T61)), (37, some (.list T131)), (38, some (.list T23)), (39, some T30), (40, some T30), (42, none), (43, none), (44, none), (45, none), (46, none), (47, some (.list (.int .u8))), (48, none), (49, some T49), (50, some T49), (52, none), (53, none), (54, some T23), (55, some T23), (57, none), (58, none), (60, none), (61, some T61), (62, some T61), (64, none), (65, none), (67, none), (68, none), (69, none), (70, none), (71, none), (72, none), (73, some T61), (74, none), (75, none), (76, none), (77, none), (78, none), (79, none), (80, none), (81, none), (82, none), (83, none), (84, none), (85, none), (87, none), (88, none), (89, none), (90, none), (91, none), (92, none), (93, none), (94, none), (95, none), (96, none), (97, none), (98, none), (99, none), (100, none), (101, none), (102, none), (103, none), (104, none), (105, none), (106, none), (107, none), (108, none), (109, none), (110, none), (111, none), (112, none), (113, none), (114, none), (115, none), (117, none), (118, none), (119, none), (120, none), (121, none), (122, none), (123, none), (125, none), (126, none), (127, none), (128, none), (129, none), (130, none), (131, some T131), (132, some T131), (133, none), (134, none), (135, none), (136, none), (137, none), (138, none), (139, none), (140, none), (141, some T23), (142, some T23), (143, none), (144, none), (145, none), (146, none), (147, some T49), (148, none), (149, some T23), (150, none), (151, some T131), (152, none), (153, some T23), (154, none), (155, none), (156, none), (157, none), (158, none), (159, none), (160, none), (161, some T161), (162, some T161), (163, none), (164, none), (165, none), (166, none), (167, none), (168, none), (169, none), (170, none), (171, none), (172, none), (173, none), (174, none), (175, none), (176, none), (177, none), (178, none), (179, none), (180, none), (181, none), (182, none), (183, none), (184, none), (185, none), (186, none), (187, none), (188, none), (189, none), (190, some (.int .u64)), (191, none), (192, none), (193, none), (194, none), (195, none), (196, none), (197, none), (198, none), (199, none), (200, none), (201, none), (202, none), (203, none), (209, none), (210, some (.int .u32)), (211, some (.int .u8)), (212, some (.int .u8)), (213, none), (214, none), (215, some (.int .i32)), (216, some (.int .i32))],
  vars := [(41, [0, 1, 5]), (48, [0, 3, 4]), (50, [0, 3, 4]), (51, [0, 3, 4]), (52, [0, 3, 4]), (53, [0, 3, 4]), (54, [0, 3, 4]), (58, [0, 1, 5]), (60, [0, 1, 5]), (61, [0, 1, 5]), (62, [0, 1, 5]), (63, [0, 1, 5]), (64, [0, 1, 5]), (65, [0, 1, 5]), (66, [0, 1, 5]), (67, [0, 1, 5]), (68, [0, 1, 5]), (69, [0, 1, 5]), (70, [0, 1, 5]), (71, [0, 1, 5]), (72, [0, 1, 5]), (73, [0, 1, 5]), (74, [0, 1, 5]), (75, [0, 1, 5]), (76, [0, 1, 5]), (92, [0, 1, 7, 8]), (94, [0, 1, 7, 8]), (106, [0, 5, 6, 7]), (108, [0, 5, 6, 7]), (109, [0, 5, 6, 7]), (110, [0, 5, 6, 7]), (111, [0, 2, 4, 22, 23, 24]), (118, [0, 3, 4]), (119, [0, 3, 4, 5]), (120, [0, 3]), (122, [0, 1, 2, 3, 10]), (128, [1, 2, 3, 8, 9, 10]), (129, [0, 3, 7, 8, 9]), (141, [0, 1, 7, 8]), (162, [0, 1, 5]), (165, [0, 3]), (166, [0, 3]), (167, [0, 3]), (168, [0, 1, 2, 7, 8, 9]), (171, [0, 1, 2, 9, 10, 11]), (172, [0, 1, 2, 9, 10, 11]), (185, [3, 6, 7, 8]), (194, [0, 1, 2, 7]), (195, [0, 1, 5, 6]), (197, [0, 1, 5, 6])],
  sigs := [(11, { lend := some 0 }), (47, { io := [1] }), (56, { lend := some 0 }), (65, { lend := some 0 }), (66, { lend := some 0 }), (67, { lend := some 0 }), (68, { lend := some 0 }), (69, { lend := some 0 }), (70, { lend := some 0 }), (197, { io := [0] })],
  prim := fun f => bif Nat.beq f 57 then some (primSeat Go.QSeat.plB Go.QSeat.scB Go.QSeat.canB) else none,
  ptrs := [15, 16, 17, 97, 110, 214],
  gives := [62] }
noncomputable def laws_FnExactStepSeat (k : Nat) (aO_0 : DT30) (aVoices_1 : Int) : Option Bool := run C k 3 .bool [.val T30 aO_0, .val (.int .i64) aVoices_1]
noncomputable def laws_szOrchestra (k : Nat) (a_0 : DT30) (left_1 : Int) : Option Int := run C k 6 (.int .i64) [.val T30 a_0, .val (.int .i64) left_1]
noncomputable def laws_toOrchestra (k : Nat) (a_0 : DT30) : Option DT30 := run C k 8 T30 [.val T30 a_0]
noncomputable def spec_StepSeat (k : Nat) (o_0 : DT30) (voices_1 : Int) : Option (DT30 × (Bool × Unit)) := run C k 7 (.pair T30 (.pair .bool .unit)) [.val T30 o_0, .val (.int .i64) voices_1]
noncomputable def impl_StepSeat (k : Nat) (o_0 : DT30) (voices_1 : Int) : Option (DT30 × (Bool × Unit)) := run C k 9 (.pair T30 (.pair .bool .unit)) [.val T30 o_0, .val (.int .i64) voices_1]
noncomputable def laws_eqOrchestra (k : Nat) (a_0 : DT30) (b_1 : DT30) : Option Bool := run C k 10 .bool [.val T30 a_0, .val T30 b_1]
noncomputable def laws_markOrchestra (k : Nat) (a_0 : DT30) (k_1 : Int) : Option (Int × ((List DT49) × ((Unit × (Unit × Unit)) × ((List DT23) × ((List DT61) × ((List Int) × ((List DT131) × ((List DT23) × (Unit × (Unit × Unit)))))))))) := run C k 11 (.pair (.int .i64) (.pair (.list T49) (.pair (.pair .unit (.pair .unit .unit)) (.pair (.list T23) (.pair (.dlist T61) (.pair (.list (.int .i64)) (.pair (.list T131) (.pair (.list T23) (.pair .unit (.pair .unit .unit)))))))))) [.lend T30 a_0, .val (.int .i64) k_1]
noncomputable def laws_heldOrchestra (k : Nat) (a_0 : DT30) (k_1 : Int) : Option Int := run C k 12 (.int .i64) [.val T30 a_0, .val (.int .i64) k_1]
noncomputable def laws_szEventS (k : Nat) (a_0 : (List DT49)) (left_1 : Int) : Option Int := run C k 39 (.int .i64) [.val (.list T49) a_0, .val (.int .i64) left_1]
noncomputable def laws_szTempoS (k : Nat) (a_0 : (List DT23)) (left_1 : Int) : Option Int := run C k 40 (.int .i64) [.val (.list T23) a_0, .val (.int .i64) left_1]
noncomputable def laws_szPlayerS (k : Nat) (a_0 : (List DT61)) (left_1 : Int) : Option Int := run C k 41 (.int .i64) [.val (.dlist T61) a_0, .val (.int .i64) left_1]
noncomputable def laws_szPlayerS.l0 (k m : Nat) (a_0 : (List DT61)) (left_1 : Int) (i_5 : Int) : Option Int := loopRun C k 41 (.int .i64) [0, 0] [.r, .r, .r, .l, .r, .b] [] [0, 1, 5] m ⟨[.one (.cell (.list false T61 a_0)), .one (.cell (.int .i64 left_1)), .one (.cell (.int .i64 i_5))], []⟩
noncomputable def laws_szIntS (k : Nat) (a_0 : (List Int)) (left_1 : Int) : Option Int := run C k 42 (.int .i64) [.val (.list (.int .i64)) a_0, .val (.int .i64) left_1]
noncomputable def laws_szMarkS (k : Nat) (a_0 : (List DT131)) (left_1 : Int) : Option Int := run C k 43 (.int .i64) [.val (.list T131) a_0, .val (.int .i64) left_1]
noncomputable def laws_szLetterS (k : Nat) (a_0 : (List DT23)) (left_1 : Int) : Option Int := run C k 44 (.int .i64) [.val (.list T23) a_0, .val (.int .i64) left_1]
noncomputable def laws_toEventS (k : Nat) (a_0 : (List DT49)) : Option (List DT49) := run C k 48 (.list T49) [.val (.list T49) a_0]
noncomputable def laws_toEventS.l0 (k m : Nat) (a_0 : (List DT49)) (i_4 : Int) (s0 : (List DT49)) : Option (List DT49) := loopRun C k 48 (.list T49) [0] [.r, .r, .l, .r, .b] [] [0, 3, 4] m ⟨[.one (.cell (.list false T49 a_0)), .one (.cell (.ref 1)), .one (.cell (.int .i64 i_4))], [.arr T49 s0 .open]⟩
noncomputable def laws_toMeter (k : Nat) (a_0 : DT23) : Option DT23 := run C k 49 T23 [.val T23 a_0]
noncomputable def laws_toTempoS (k : Nat) (a_0 : (List DT23)) : Option (List DT23) := run C k 50 (.list T23) [.val (.list T23) a_0]
noncomputable def laws_toTempoS.l0 (k m : Nat) (a_0 : (List DT23)) (i_4 : Int) (s0 : (List DT23)) : Option (List DT23) := loopRun C k 50 (.list T23) [0] [.r, .r, .l, .r, .b] [] [0, 3, 4] m ⟨[.one (.cell (.list false T23 a_0)), .one (.cell (.ref 1)), .one (.cell (.int .i64 i_4))], [.arr T23 s0 .open]⟩
noncomputable def laws_toPlayerS (k : Nat) (a_0 : (List DT61)) : Option (List DT61) := run C k 51 (.dlist T61) [.val (.dlist T61) a_0]
noncomputable def laws_toPlayerS.l0 (k m : Nat) (a_0 : (List DT61)) (i_4 : Int) (s0 : (List DT61)) : Option (List DT61) := loopRun C k 51 (.dlist T61) [0] [.r, .r, .l, .r, .b] [] [0, 3, 4] m ⟨[.one (.cell (.list false T61 a_0)), .one (.cell (.dref 1)), .one (.cell (.int .i64 i_4))], [.deep T61 s0 none]⟩
noncomputable def laws_toIntS (k : Nat) (a_0 : (List Int)) : Option (List Int) := run C k 52 (.list (.int .i64)) [.val (.list (.int .i64)) a_0]
noncomputable def laws_toIntS.l0 (k m : Nat) (a_0 : (List Int)) (i_4 : Int) (s0 : (List Int)) : Option (List Int) := loopRun C k 52 (.list (.int .i64)) [0] [.r, .r, .l, .r, .b] [] [0, 3, 4] m ⟨[.one (.cell (.list false (.int .i64) a_0)), .one (.cell (.ref 1)), .one (.cell (.int .i64 i_4))], [.arr (.int .i64) s0 .open]⟩
noncomputable def laws_toMarkS (k : Nat) (a_0 : (List DT131)) : Option (List DT131) := run C k 53 (.list T131) [.val (.list T131) a_0]
noncomputable def laws_toMarkS.l0 (k m : Nat) (a_0 : (List DT131)) (i_4 : Int) (s0 : (List DT131)) : Option (List DT131) := loopRun C k 53 (.list T131) [0] [.r, .r, .l, .r, .b] [] [0, 3, 4] m ⟨[.one (.cell (.list false T131 a_0)), .one (.cell (.ref 1)), .one (.cell (.int .i64 i_4))], [.arr T131 s0 .open]⟩
noncomputable def laws_toLetterS (k : Nat) (a_0 : (List DT23)) : Option (List DT23) := run C k 54 (.list T23) [.val (.list T23) a_0]
noncomputable def laws_toLetterS.l0 (k m : Nat) (a_0 : (List DT23)) (i_4 : Int) (s0 : (List DT23)) : Option (List DT23) := loopRun C k 54 (.list T23) [0] [.r, .r, .l, .r, .b] [] [0, 3, 4] m ⟨[.one (.cell (.list false T23 a_0)), .one (.cell (.ref 1)), .one (.cell (.int .i64 i_4))], [.arr T23 s0 .open]⟩
noncomputable def spec_l33Copy (k : Nat) (o_0 : DT30) : Option DT30 := run C k 45 T30 [.val T30 o_0]
noncomputable def spec_SeatPlayers (k : Nat) (l_0 : (List DT61)) (score_1 : (List DT49)) (voices_2 : Int) : Option ((List Int) × (Bool × Unit)) := run C k 46 (.pair (.list (.int .i64)) (.pair .bool .unit)) [.val (.dlist T61) l_0, .val (.list T49) score_1, .val (.int .i64) voices_2]
noncomputable def spec_l34Done (k : Nat) (o_0 : DT30) (out_1 : DT30) (ok_2 : Bool) : Option (DT30 × (Bool × Unit)) := run C k 47 (.pair T30 (.pair .bool .unit)) [.val T30 o_0, .give T30 out_1, .val .bool ok_2]
noncomputable def impl_stepped_56 (k : Nat) (o_0 : DT30) (c1_0 : Int) : Option (DT30 × (Bool × Unit)) := run C k 55 (.pair T30 (.pair .bool .unit)) [.val T30 o_0, .clo 56 [.ro (.int .i64) c1_0]]
noncomputable def laws_eqEventS (k : Nat) (a_0 : (List DT49)) (b_1 : (List DT49)) : Option Bool := run C k 58 .bool [.val (.list T49) a_0, .val (.list T49) b_1]
noncomputable def laws_eqEventS.l0 (k m : Nat) (a_0 : (List DT49)) (b_1 : (List DT49)) (i_5 : Int) : Option Bool := loopRun C k 58 .bool [0, 0] [.r, .r, .l, .r, .b] [] [0, 1, 5] m ⟨[.one (.cell (.list false T49 a_0)), .one (.cell (.list false T49 b_1)), .one (.cell (.int .i64 i_5))], []⟩
noncomputable def laws_eqMeter (k : Nat) (a_0 : DT23) (b_1 : DT23) : Option Bool := run C k 59 .bool [.val T23 a_0, .val T23 b_1]
noncomputable def laws_eqTempoS (k : Nat) (a_0 : (List DT23)) (b_1 : (List DT23)) : Option Bool := run C k 60 .bool [.val (.list T23) a_0, .val (.list T23) b_1]
noncomputable def laws_eqTempoS.l0 (k m : Nat) (a_0 : (List DT23)) (b_1 : (List DT23)) (i_5 : Int) : Option Bool := loopRun C k 60 .bool [0, 0] [.r, .r, .l, .r, .b] [] [0, 1, 5] m ⟨[.one (.cell (.list false T23 a_0)), .one (.cell (.list false T23 b_1)), .one (.cell (.int .i64 i_5))], []⟩
noncomputable def laws_eqPlayerS (k : Nat) (a_0 : (List DT61)) (b_1 : (List DT61)) : Option Bool := run C k 61 .bool [.val (.dlist T61) a_0, .val (.dlist T61) b_1]
noncomputable def laws_eqPlayerS.l0 (k m : Nat) (a_0 : (List DT61)) (b_1 : (List DT61)) (i_5 : Int) : Option Bool := loopRun C k 61 .bool [0, 0] [.r, .r, .l, .r, .b] [] [0, 1, 5] m ⟨[.one (.cell (.list false T61 a_0)), .one (.cell (.list false T61 b_1)), .one (.cell (.int .i64 i_5))], []⟩
noncomputable def laws_eqIntS (k : Nat) (a_0 : (List Int)) (b_1 : (List Int)) : Option Bool := run C k 62 .bool [.val (.list (.int .i64)) a_0, .val (.list (.int .i64)) b_1]
noncomputable def laws_eqIntS.l0 (k m : Nat) (a_0 : (List Int)) (b_1 : (List Int)) (i_5 : Int) : Option Bool := loopRun C k 62 .bool [0, 0] [.r, .r, .l, .r, .b] [] [0, 1, 5] m ⟨[.one (.cell (.list false (.int .i64) a_0)), .one (.cell (.list false (.int .i64) b_1)), .one (.cell (.int .i64 i_5))], []⟩
noncomputable def laws_eqMarkS (k : Nat) (a_0 : (List DT131)) (b_1 : (List DT131)) : Option Bool := run C k 63 .bool [.val (.list T131) a_0, .val (.list T131) b_1]
noncomputable def laws_eqMarkS.l0 (k m : Nat) (a_0 : (List DT131)) (b_1 : (List DT131)) (i_5 : Int) : Option Bool := loopRun C k 63 .bool [0, 0] [.r, .r, .l, .r, .b] [] [0, 1, 5] m ⟨[.one (.cell (.list false T131 a_0)), .one (.cell (.list false T131 b_1)), .one (.cell (.int .i64 i_5))], []⟩
noncomputable def laws_eqLetterS (k : Nat) (a_0 : (List DT23)) (b_1 : (List DT23)) : Option Bool := run C k 64 .bool [.val (.list T23) a_0, .val (.list T23) b_1]
noncomputable def laws_eqLetterS.l0 (k m : Nat) (a_0 : (List DT23)) (b_1 : (List DT23)) (i_5 : Int) : Option Bool := loopRun C k 64 .bool [0, 0] [.r, .r, .l, .r, .b] [] [0, 1, 5] m ⟨[.one (.cell (.list false T23 a_0)), .one (.cell (.list false T23 b_1)), .one (.cell (.int .i64 i_5))], []⟩
noncomputable def laws_markEventS (k : Nat) (a_0 : (List DT49)) (k_1 : Int) : Option (Int × (List DT49)) := run C k 65 (.pair (.int .i64) (.list T49)) [.lend (.list T49) a_0, .val (.int .i64) k_1]
noncomputable def laws_markEventS.l0 (k m : Nat) (k_1 : Int) (i_5 : Int) (s0 : (List DT49)) : Option (Int × (List DT49)) := loopRunL C k 65 (.pair (.int .i64) (.list T49)) 0 (.list T49) 2 [.r, .l, .r, .b] [] [0, 1, 5] m ⟨[.one (.cell (.ref 1)), .one (.cell (.int .i64 k_1)), .one (.cell (.int .i64 i_5))], [.arr T49 s0 (.pinned 0)]⟩
noncomputable def laws_markTempoS (k : Nat) (a_0 : (List DT23)) (k_1 : Int) : Option (Int × (List DT23)) := run C k 66 (.pair (.int .i64) (.list T23)) [.lend (.list T23) a_0, .val (.int .i64) k_1]
noncomputable def laws_markTempoS.l0 (k m : Nat) (k_1 : Int) (i_5 : Int) (s0 : (List DT23)) : Option (Int × (List DT23)) := loopRunL C k 66 (.pair (.int .i64) (.list T23)) 0 (.list T23) 2 [.r, .l, .r, .b] [] [0, 1, 5] m ⟨[.one (.cell (.ref 1)), .one (.cell (.int .i64 k_1)), .one (.cell (.int .i64 i_5))], [.arr T23 s0 (.pinned 0)]⟩
noncomputable def laws_markPlayerS (k : Nat) (a_0 : (List DT61)) (k_1 : Int) : Option (Int × (List DT61)) := run C k 67 (.pair (.int .i64) (.dlist T61)) [.lend (.dlist T61) a_0, .val (.int .i64) k_1]
noncomputable def laws_markPlayerS.l0 (k m : Nat) (k_1 : Int) (i_5 : Int) (s0 : (List DT61)) : Option (Int × (List DT61)) := loopRunL C k 67 (.pair (.int .i64) (.dlist T61)) 0 (.dlist T61) 2 [.r, .l, .r, .b] [] [0, 1, 5] m ⟨[.one (.cell (.dref 1)), .one (.cell (.int .i64 k_1)), .one (.cell (.int .i64 i_5))], [.deep T61 s0 (some 0)]⟩
noncomputable def laws_markIntS (k : Nat) (a_0 : (List Int)) (k_1 : Int) : Option (Int × (List Int)) := run C k 68 (.pair (.int .i64) (.list (.int .i64))) [.lend (.list (.int .i64)) a_0, .val (.int .i64) k_1]
noncomputable def laws_markIntS.l0 (k m : Nat) (k_1 : Int) (i_5 : Int) (s0 : (List Int)) : Option (Int × (List Int)) := loopRunL C k 68 (.pair (.int .i64) (.list (.int .i64))) 0 (.list (.int .i64)) 2 [.r, .l, .r, .b] [] [0, 1, 5] m ⟨[.one (.cell (.ref 1)), .one (.cell (.int .i64 k_1)), .one (.cell (.int .i64 i_5))], [.arr (.int .i64) s0 (.pinned 0)]⟩
noncomputable def laws_markMarkS (k : Nat) (a_0 : (List DT131)) (k_1 : Int) : Option (Int × (List DT131)) := run C k 69 (.pair (.int .i64) (.list T131)) [.lend (.list T131) a_0, .val (.int .i64) k_1]
noncomputable def laws_markMarkS.l0 (k m : Nat) (k_1 : Int) (i_5 : Int) (s0 : (List DT131)) : Option (Int × (List DT131)) := loopRunL C k 69 (.pair (.int .i64) (.list T131)) 0 (.list T131) 2 [.r, .l, .r, .b] [] [0, 1, 5] m ⟨[.one (.cell (.ref 1)), .one (.cell (.int .i64 k_1)), .one (.cell (.int .i64 i_5))], [.arr T131 s0 (.pinned 0)]⟩
noncomputable def laws_markLetterS (k : Nat) (a_0 : (List DT23)) (k_1 : Int) : Option (Int × (List DT23)) := run C k 70 (.pair (.int .i64) (.list T23)) [.lend (.list T23) a_0, .val (.int .i64) k_1]
noncomputable def laws_markLetterS.l0 (k m : Nat) (k_1 : Int) (i_5 : Int) (s0 : (List DT23)) : Option (Int × (List DT23)) := loopRunL C k 70 (.pair (.int .i64) (.list T23)) 0 (.list T23) 2 [.r, .l, .r, .b] [] [0, 1, 5] m ⟨[.one (.cell (.ref 1)), .one (.cell (.int .i64 k_1)), .one (.cell (.int .i64 i_5))], [.arr T23 s0 (.pinned 0)]⟩
noncomputable def laws_heldEventS (k : Nat) (a_0 : (List DT49)) (k_1 : Int) : Option Int := run C k 71 (.int .i64) [.val (.list T49) a_0, .val (.int .i64) k_1]
noncomputable def laws_heldEventS.l0 (k m : Nat) (a_0 : (List DT49)) (k_1 : Int) (i_5 : Int) : Option Int := loopRun C k 71 (.int .i64) [0, 0] [.r, .l, .r, .b] [] [0, 1, 5] m ⟨[.one (.cell (.list false T49 a_0)), .one (.cell (.int .i64 k_1)), .one (.cell (.int .i64 i_5))], []⟩
noncomputable def laws_heldTempoS (k : Nat) (a_0 : (List DT23)) (k_1 : Int) : Option Int := run C k 72 (.int .i64) [.val (.list T23) a_0, .val (.int .i64) k_1]
noncomputable def laws_heldTempoS.l0 (k m : Nat) (a_0 : (List DT23)) (k_1 : Int) (i_5 : Int) : Option Int := loopRun C k 72 (.int .i64) [0, 0] [.r, .l, .r, .b] [] [0, 1, 5] m ⟨[.one (.cell (.list false T23 a_0)), .one (.cell (.int .i64 k_1)), .one (.cell (.int .i64 i_5))], []⟩
noncomputable def laws_heldPlayerS (k : Nat) (a_0 : (List DT61)) (k_1 : Int) : Option Int := run C k 73 (.int .i64) [.val (.dlist T61) a_0, .val (.int .i64) k_1]
noncomputable def laws_heldPlayerS.l0 (k m : Nat) (a_0 : (List DT61)) (k_1 : Int) (i_5 : Int) : Option Int := loopRun C k 73 (.int .i64) [0, 0] [.r, .l, .r, .b] [] [0, 1, 5] m ⟨[.one (.cell (.list false T61 a_0)), .one (.cell (.int .i64 k_1)), .one (.cell (.int .i64 i_5))], []⟩
noncomputable def laws_heldIntS (k : Nat) (a_0 : (List Int)) (k_1 : Int) : Option Int := run C k 74 (.int .i64) [.val (.list (.int .i64)) a_0, .val (.int .i64) k_1]
noncomputable def laws_heldIntS.l0 (k m : Nat) (a_0 : (List Int)) (k_1 : Int) (i_5 : Int) : Option Int := loopRun C k 74 (.int .i64) [0, 0] [.r, .l, .r, .b] [] [0, 1, 5] m ⟨[.one (.cell (.list false (.int .i64) a_0)), .one (.cell (.int .i64 k_1)), .one (.cell (.int .i64 i_5))], []⟩
noncomputable def laws_heldMarkS (k : Nat) (a_0 : (List DT131)) (k_1 : Int) : Option Int := run C k 75 (.int .i64) [.val (.list T131) a_0, .val (.int .i64) k_1]
noncomputable def laws_heldMarkS.l0 (k m : Nat) (a_0 : (List DT131)) (k_1 : Int) (i_5 : Int) : Option Int := loopRun C k 75 (.int .i64) [0, 0] [.r, .l, .r, .b] [] [0, 1, 5] m ⟨[.one (.cell (.list false T131 a_0)), .one (.cell (.int .i64 k_1)), .one (.cell (.int .i64 i_5))], []⟩
noncomputable def laws_heldLetterS (k : Nat) (a_0 : (List DT23)) (k_1 : Int) : Option Int := run C k 76 (.int .i64) [.val (.list T23) a_0, .val (.int .i64) k_1]
noncomputable def laws_heldLetterS.l0 (k m : Nat) (a_0 : (List DT23)) (k_1 : Int) (i_5 : Int) : Option Int := loopRun C k 76 (.int .i64) [0, 0] [.r, .l, .r, .b] [] [0, 1, 5] m ⟨[.one (.cell (.list false T23 a_0)), .one (.cell (.int .i64 k_1)), .one (.cell (.int .i64 i_5))], []⟩
noncomputable def laws_szPlayer (k : Nat) (a_0 : DT61) (left_1 : Int) : Option Int := run C k 34 (.int .i64) [.val T61 a_0, .val (.int .i64) left_1]
noncomputable def laws_toEvent (k : Nat) (a_0 : DT49) : Option DT49 := run C k 124 T49 [.val T49 a_0]
noncomputable def laws_toTempo (k : Nat) (a_0 : DT23) : Option DT23 := run C k 125 T23 [.val T23 a_0]
noncomputable def laws_toPlayer (k : Nat) (a_0 : DT61) : Option DT61 := run C k 36 T61 [.val T61 a_0]
noncomputable def laws_toMark (k : Nat) (a_0 : DT131) : Option DT131 := run C k 126 T131 [.val T131 a_0]
noncomputable def laws_toLetter (k : Nat) (a_0 : DT23) : Option DT23 := run C k 127 T23 [.val T23 a_0]
noncomputable def spec_l29Copy (k : Nat) (l_0 : (List DT61)) : Option (List DT61) := run C k 118 (.dlist T61) [.val (.dlist T61) l_0]
noncomputable def spec_l29Copy.l0 (k m : Nat) (l_0 : (List DT61)) (i_4 : Int) (s0 : (List DT61)) : Option (List DT61) := loopRun C k 118 (.dlist T61) [0] [.r, .r, .l, .r, .b] [] [0, 3, 4] m ⟨[.one (.cell (.list false T61 l_0)), .one (.cell (.dref 1)), .one (.cell (.int .i64 i_4))], [.deep T61 s0 none]⟩
noncomputable def spec_ArePlayers (k : Nat) (l_0 : (List DT61)) : Option Bool := run C k 119 .bool [.val (.dlist T61) l_0]
noncomputable def spec_ArePlayers.l0 (k m : Nat) (l_0 : (List DT61)) (i_3 : Int) : Option Bool := loopRun C k 119 .bool [0] [.r, .l, .r, .b] [] [0, 3] m ⟨[.one (.cell (.list false T61 l_0)), .one (.cell (.int .i64 i_3))], []⟩
noncomputable def spec_ArePlayers.l1 (k m m1 : Nat) (l_0 : (List DT61)) (i_3 : Int) (k_5 : Int) (b0_0 : Int) (b0_1 : Int) (b0_2 : Int) (b0_3 : (List Int)) : Option Bool := loopRun C k 119 .bool [0] [.r, .l, .r, .b, .p, .r, .l, .b, .r, .r, .r, .b] [⟨[0, 3], m1⟩] [0, 3, 4, 5] m ⟨[.one (.cell (.list false T61 l_0)), .one (.cell (.int .i64 i_3)), .one (.cell (.ptr 1 0)), .one (.cell (.int .i64 k_5))], [.box (some T61) [.int .i64 b0_0, .int .i64 b0_1, .int .i64 b0_2, .list true (.int .i64) b0_3]]⟩
noncomputable def spec_IsScore (k : Nat) (l_0 : (List DT49)) : Option Bool := run C k 120 .bool [.val (.list T49) l_0]
noncomputable def spec_IsScore.l0 (k m : Nat) (l_0 : (List DT49)) (i_3 : Int) : Option Bool := loopRun C k 120 .bool [0] [.r, .l, .r, .b] [] [0, 3] m ⟨[.one (.cell (.list false T49 l_0)), .one (.cell (.int .i64 i_3))], []⟩
noncomputable def spec_l1In (k : Nat) (x_0 : Int) (least_1 : Int) (most_2 : Int) : Option Bool := run C k 121 .bool [.val (.int .i64) x_0, .val (.int .i64) least_1, .val (.int .i64) most_2]
noncomputable def spec_l29Seat (k : Nat) (l_0 : (List DT61)) (score_1 : (List DT49)) (voices_2 : Int) (taken_3 : (List Int)) : Option ((List Int) × (Bool × Unit)) := run C k 122 (.pair (.list (.int .i64)) (.pair .bool .unit)) [.val (.dlist T61) l_0, .val (.list T49) score_1, .val (.int .i64) voices_2, .val (.list (.int .i64)) taken_3]
noncomputable def spec_l29Seat.l0 (k m : Nat) (l_0 : (List DT61)) (score_1 : (List DT49)) (voices_2 : Int) (taken_3 : (List Int)) (i_10 : Int) : Option ((List Int) × (Bool × Unit)) := loopRun C k 122 (.pair (.list (.int .i64)) (.pair .bool .unit)) [0, 0, 0, 0] [.r, .r, .l, .r, .b] [] [0, 1, 2, 3, 10] m ⟨[.one (.cell (.list false T61 l_0)), .one (.cell (.list false T49 score_1)), .one (.cell (.int .i64 voices_2)), .one (.cell (.list false (.int .i64) taken_3)), .one (.cell (.int .i64 i_10))], []⟩
noncomputable def spec_IsOrchestra (k : Nat) (o_0 : DT30) : Option Bool := run C k 123 .bool [.val T30 o_0]
noncomputable def impl_Orchestra__copied (k : Nat) (o_0 : DT30) : Option DT30 := run C k 128 T30 [.val T30 o_0]
noncomputable def impl_Orchestra__copied.l0 (k m : Nat) (t_8 : (List DT61)) (t_9 : Int) (t_10 : Int) (b0_0 : (List DT49)) (b0_1 : Int) (b0_2 : Int) (b0_3 : (List DT23)) (b0_4 : (List DT61)) (b0_5 : (List Int)) (b0_6 : (List DT131)) (b0_7 : (List DT23)) (b0_8 : Int) (b0_9 : Int) (b1_1 : Int) (b1_2 : Int) (b1_8 : Int) (b1_9 : Int) (s2 : (List DT61)) : Option DT30 := loopRun C k 128 T30 [0] [.r, .r, .l, .r, .b] [] [1, 2, 3, 8, 9, 10] m ⟨[.one (.cell (.ptr 1 0)), .one (.cell (.ptr 5 0)), .one (.cell (.dref 9)), .one (.cell (.list false T61 t_8)), .one (.cell (.int .i64 t_9)), .one (.cell (.int .i64 t_10))], [.box (some T30) [.list false T49 b0_0, .int .i64 b0_1, .int .i64 b0_2, .list false T23 b0_3, .list false T61 b0_4, .list false (.int .i64) b0_5, .list false T131 b0_6, .list false T23 b0_7, .int .i64 b0_8, .int .i64 b0_9], .box (some T30) [.nil, .int .i64 b1_1, .int .i64 b1_2, .nil, .nil, .nil, .nil, .nil, .int .i64 b1_8, .int .i64 b1_9], .deep T61 s2 none]⟩
noncomputable def impl_StepSeat_1 (k : Nat) (o_0 : DT30) (a_1 : Int) : Option (Bool × DT30) := run C k 56 (.pair .bool T30) [.ioBox T30 o_0, .rp (.int .i64) a_1]
noncomputable def impl_IsOrchestra (k : Nat) (o_0 : DT30) : Option Bool := run C k 29 .bool [.val T30 o_0]
noncomputable def laws_eqEvent (k : Nat) (a_0 : DT49) (b_1 : DT49) : Option Bool := run C k 133 .bool [.val T49 a_0, .val T49 b_1]
noncomputable def laws_eqTempo (k : Nat) (a_0 : DT23) (b_1 : DT23) : Option Bool := run C k 134 .bool [.val T23 a_0, .val T23 b_1]
noncomputable def laws_eqPlayer (k : Nat) (a_0 : DT61) (b_1 : DT61) : Option Bool := run C k 37 .bool [.val T61 a_0, .val T61 b_1]
noncomputable def laws_eqMark (k : Nat) (a_0 : DT131) (b_1 : DT131) : Option Bool := run C k 135 .bool [.val T131 a_0, .val T131 b_1]
noncomputable def laws_eqLetter (k : Nat) (a_0 : DT23) (b_1 : DT23) : Option Bool := run C k 136 .bool [.val T23 a_0, .val T23 b_1]
noncomputable def spec_l8Ok (k : Nat) (e_0 : DT49) : Option Bool := run C k 160 .bool [.val T49 e_0]
noncomputable def spec_l8Before (k : Nat) (a_0 : DT49) (b_1 : DT49) : Option Bool := run C k 161 .bool [.val T49 a_0, .val T49 b_1]
noncomputable def spec_l27Has (k : Nat) (l_0 : (List Int)) (n_1 : Int) : Option Bool := run C k 162 .bool [.val (.list (.int .i64)) l_0, .val (.int .i64) n_1]
noncomputable def spec_l27Has.l0 (k m : Nat) (l_0 : (List Int)) (n_1 : Int) (i_5 : Int) : Option Bool := loopRun C k 162 .bool [0, 0] [.r, .l, .r, .b] [] [0, 1, 5] m ⟨[.one (.cell (.list false (.int .i64) l_0)), .one (.cell (.int .i64 n_1)), .one (.cell (.int .i64 i_5))], []⟩
noncomputable def spec_CanPlay (k : Nat) (p_0 : DT61) (l_1 : (List DT49)) (voice_2 : Int) : Option Bool := run C k 163 .bool [.val T61 p_0, .val (.list T49) l_1, .val (.int .i64) voice_2]
noncomputable def spec_IsMeter (k : Nat) (m_0 : DT23) : Option Bool := run C k 164 .bool [.val T23 m_0]
noncomputable def spec_IsTempo (k : Nat) (l_0 : (List DT23)) : Option Bool := run C k 165 .bool [.val (.list T23) l_0]
noncomputable def spec_IsTempo.l0 (k m : Nat) (l_0 : (List DT23)) (i_3 : Int) : Option Bool := loopRun C k 165 .bool [0] [.r, .l, .r, .b] [] [0, 3] m ⟨[.one (.cell (.list false T23 l_0)), .one (.cell (.int .i64 i_3))], []⟩
noncomputable def spec_AreMarks (k : Nat) (l_0 : (List DT131)) : Option Bool := run C k 166 .bool [.val (.list T131) l_0]
noncomputable def spec_AreMarks.l0 (k m : Nat) (l_0 : (List DT131)) (i_3 : Int) : Option Bool := loopRun C k 166 .bool [0] [.r, .l, .r, .b] [] [0, 3] m ⟨[.one (.cell (.list false T131 l_0)), .one (.cell (.int .i64 i_3))], []⟩
noncomputable def spec_AreLetters (k : Nat) (l_0 : (List DT23)) : Option Bool := run C k 167 .bool [.val (.list T23) l_0]
noncomputable def spec_AreLetters.l0 (k m : Nat) (l_0 : (List DT23)) (i_3 : Int) : Option Bool := loopRun C k 167 .bool [0] [.r, .l, .r, .b] [] [0, 3] m ⟨[.one (.cell (.list false T23 l_0)), .one (.cell (.int .i64 i_3))], []⟩
noncomputable def spec_IsSeating (k : Nat) (l_0 : (List DT61)) (score_1 : (List DT49)) (seats_2 : (List Int)) : Option Bool := run C k 168 .bool [.val (.dlist T61) l_0, .val (.list T49) score_1, .val (.list (.int .i64)) seats_2]
noncomputable def spec_IsSeating.l0 (k m : Nat) (l_0 : (List DT61)) (score_1 : (List DT49)) (seats_2 : (List Int)) (i_7 : Int) : Option Bool := loopRun C k 168 .bool [0, 0, 0] [.r, .l, .r, .b] [] [0, 1, 2, 7] m ⟨[.one (.cell (.list false T61 l_0)), .one (.cell (.list false T49 score_1)), .one (.cell (.list false (.int .i64) seats_2)), .one (.cell (.int .i64 i_7))], []⟩
noncomputable def spec_IsSeating.l1 (k m m1 : Nat) (l_0 : (List DT61)) (score_1 : (List DT49)) (seats_2 : (List Int)) (i_7 : Int) (good_8 : Bool) (k_9 : Int) : Option Bool := loopRun C k 168 .bool [0, 0, 0] [.r, .l, .r, .b, .p, .r, .l, .b, .r, .l, .r, .b] [⟨[0, 1, 2, 7], m1⟩] [0, 1, 2, 7, 8, 9] m ⟨[.one (.cell (.list false T61 l_0)), .one (.cell (.list false T49 score_1)), .one (.cell (.list false (.int .i64) seats_2)), .one (.cell (.int .i64 i_7)), .one (.cell (.prop (good_8 = true) (instDecidableEqBool good_8 true))), .one (.cell (.int .i64 k_9))], []⟩
noncomputable def impl_clonePlayer (k : Nat) (p_0 : DT61) : Option DT61 := run C k 100 T61 [.val T61 p_0]
noncomputable def impl_clone_impl_Event (k : Nat) (l_0 : (List DT49)) : Option (List DT49) := run C k 145 (.list T49) [.val (.list T49) l_0]
noncomputable def impl_clone_impl_Tempo (k : Nat) (l_0 : (List DT23)) : Option (List DT23) := run C k 169 (.list T23) [.val (.list T23) l_0]
noncomputable def impl_clone_int (k : Nat) (l_0 : (List Int)) : Option (List Int) := run C k 154 (.list (.int .i64)) [.val (.list (.int .i64)) l_0]
noncomputable def impl_clone_impl_Mark (k : Nat) (l_0 : (List DT131)) : Option (List DT131) := run C k 156 (.list T131) [.val (.list T131) l_0]
noncomputable def impl_clone_impl_Letter (k : Nat) (l_0 : (List DT23)) : Option (List DT23) := run C k 170 (.list T23) [.val (.list T23) l_0]
noncomputable def impl_SeatPlayers (k : Nat) (l_0 : (List DT61)) (score_1 : (List DT49)) (voices_2 : Int) : Option ((List Int) × (Bool × Unit)) := run C k 57 (.pair (.list (.int .i64)) (.pair .bool .unit)) [.val (.dlist T61) l_0, .val (.list T49) score_1, .val (.int .i64) voices_2]
noncomputable def impl_IsScore (k : Nat) (l_0 : (List DT49)) : Option Bool := run C k 106 .bool [.val (.list T49) l_0]
noncomputable def impl_IsScore.l0 (k m : Nat) (l_0 : (List DT49)) (t_5 : (List DT49)) (t_6 : Int) (t_7 : Int) : Option Bool := loopRun C k 106 .bool [0] [.r, .l, .r, .b] [] [0, 5, 6, 7] m ⟨[.one (.cell (.list false T49 l_0)), .one (.cell (.list false T49 t_5)), .one (.cell (.int .i64 t_6)), .one (.cell (.int .i64 t_7))], []⟩
noncomputable def impl_IsMeter (k : Nat) (m_0 : DT23) : Option Bool := run C k 107 .bool [.val T23 m_0]
noncomputable def impl_IsTempo (k : Nat) (l_0 : (List DT23)) : Option Bool := run C k 108 .bool [.val (.list T23) l_0]
noncomputable def impl_IsTempo.l0 (k m : Nat) (l_0 : (List DT23)) (t_5 : (List DT23)) (t_6 : Int) (t_7 : Int) : Option Bool := loopRun C k 108 .bool [0] [.r, .l, .r, .b] [] [0, 5, 6, 7] m ⟨[.one (.cell (.list false T23 l_0)), .one (.cell (.list false T23 t_5)), .one (.cell (.int .i64 t_6)), .one (.cell (.int .i64 t_7))], []⟩
noncomputable def impl_AreMarks (k : Nat) (l_0 : (List DT131)) : Option Bool := run C k 109 .bool [.val (.list T131) l_0]
noncomputable def impl_AreMarks.l0 (k m : Nat) (l_0 : (List DT131)) (t_5 : (List DT131)) (t_6 : Int) (t_7 : Int) : Option Bool := loopRun C k 109 .bool [0] [.r, .l, .r, .b] [] [0, 5, 6, 7] m ⟨[.one (.cell (.list false T131 l_0)), .one (.cell (.list false T131 t_5)), .one (.cell (.int .i64 t_6)), .one (.cell (.int .i64 t_7))], []⟩
noncomputable def impl_AreLetters (k : Nat) (l_0 : (List DT23)) : Option Bool := run C k 110 .bool [.val (.list T23) l_0]
noncomputable def impl_AreLetters.l0 (k m : Nat) (l_0 : (List DT23)) (t_5 : (List DT23)) (t_6 : Int) (t_7 : Int) : Option Bool := loopRun C k 110 .bool [0] [.r, .l, .r, .b] [] [0, 5, 6, 7] m ⟨[.one (.cell (.list false T23 l_0)), .one (.cell (.list false T23 t_5)), .one (.cell (.int .i64 t_6)), .one (.cell (.int .i64 t_7))], []⟩
noncomputable def impl_IsSeating (k : Nat) (l_0 : (List DT61)) (score_1 : (List DT49)) (seats_2 : (List Int)) : Option Bool := run C k 111 .bool [.val (.dlist T61) l_0, .val (.list T49) score_1, .val (.list (.int .i64)) seats_2]
noncomputable def impl_IsSeating.l0 (k m : Nat) (l_0 : (List DT61)) (seats_2 : (List Int)) (t_22 : (List Int)) (t_23 : Int) (t_24 : Int) (b0_0 : (List DT49)) : Option Bool := loopRun C k 111 .bool [0, 0, 0] [.r, .r, .l, .r, .b] [] [0, 2, 4, 22, 23, 24] m ⟨[.one (.cell (.list false T61 l_0)), .one (.cell (.list false (.int .i64) seats_2)), .one (.cell (.ptr 1 0)), .one (.cell (.list false (.int .i64) t_22)), .one (.cell (.int .i64 t_23)), .one (.cell (.int .i64 t_24))], [.box (some (.list T49)) [.list false T49 b0_0]]⟩
noncomputable def impl_InRange (k : Nat) (n_0 : Int) (low_1 : Int) (high_2 : Int) : Option Bool := run C k 105 .bool [.val (.int .i64) n_0, .val (.int .i64) low_1, .val (.int .i64) high_2]
noncomputable def spec_VoiceOf (k : Nat) (l_0 : (List DT49)) (voice_1 : Int) : Option (List DT49) := run C k 195 (.list T49) [.val (.list T49) l_0, .val (.int .i64) voice_1]
noncomputable def spec_VoiceOf.l0 (k m : Nat) (l_0 : (List DT49)) (voice_1 : Int) (i_6 : Int) (s0 : (List DT49)) : Option (List DT49) := loopRun C k 195 (.list T49) [0, 0] [.r, .r, .l, .r, .b] [] [0, 1, 5, 6] m ⟨[.one (.cell (.list false T49 l_0)), .one (.cell (.int .i64 voice_1)), .one (.cell (.ref 1)), .one (.cell (.int .i64 i_6))], [.arr T49 s0 .open]⟩
noncomputable def spec_FitsRange (k : Nat) (l_0 : (List DT49)) (low_1 : Int) (high_2 : Int) : Option Bool := run C k 194 .bool [.val (.list T49) l_0, .val (.int .i64) low_1, .val (.int .i64) high_2]
noncomputable def spec_FitsRange.l0 (k m : Nat) (l_0 : (List DT49)) (low_1 : Int) (high_2 : Int) (i_7 : Int) : Option Bool := loopRun C k 194 .bool [0, 0, 0] [.r, .l, .r, .b] [] [0, 1, 2, 7] m ⟨[.one (.cell (.list false T49 l_0)), .one (.cell (.int .i64 low_1)), .one (.cell (.int .i64 high_2)), .one (.cell (.int .i64 i_7))], []⟩
noncomputable def spec_l25Before (k : Nat) (a_0 : DT131) (b_1 : DT131) : Option Bool := run C k 196 .bool [.val T131 a_0, .val T131 b_1]
noncomputable def impl_eventOrder (k : Nat) (a_0 : DT49) (b_1 : DT49) : Option Int := run C k 143 (.int .i64) [.val T49 a_0, .val T49 b_1]
noncomputable def impl_markOrder (k : Nat) (a_0 : DT131) (b_1 : DT131) : Option Int := run C k 157 (.int .i64) [.val T131 a_0, .val T131 b_1]
noncomputable def impl_ArePlayers (k : Nat) (l_0 : (List DT61)) : Option Bool := run C k 129 .bool [.val (.dlist T61) l_0]
noncomputable def impl_ArePlayers.l0 (k m : Nat) (l_0 : (List DT61)) (t_7 : (List DT61)) (t_8 : Int) (t_9 : Int) (s0 : (List Int)) : Option Bool := loopRun C k 129 .bool [0] [.r, .r, .l, .r, .b] [] [0, 3, 7, 8, 9] m ⟨[.one (.cell (.list false T61 l_0)), .one (.cell (.ref 1)), .one (.cell (.list false T61 t_7)), .one (.cell (.int .i64 t_8)), .one (.cell (.int .i64 t_9))], [.arr (.int .i64) s0 .open]⟩
noncomputable def slices_Contains___int_int (k : Nat) (s_0 : (List Int)) (v_1 : Int) : Option Bool := run C k 131 .bool [.val (.list (.int .i64)) s_0, .val (.int .i64) v_1]
noncomputable def slices_ContainsFunc_impl_Player_159 (k : Nat) (s_0 : (List DT61)) (c1_0 : Int) (c1_1 : (List DT49)) (c1_2 : Int) : Option Bool := run C k 158 .bool [.val (.dlist T61) s_0, .clo 159 [.ro (.int .i64) c1_0, .ro (.list T49) c1_1, .ro (.int .i64) c1_2]]
noncomputable def cmp_Compare_int (k : Nat) (x_0 : Int) (y_1 : Int) : Option Int := run C k 186 (.int .i64) [.val (.int .i64) x_0, .val (.int .i64) y_1]
noncomputable def cmp_Or_int (k : Nat) (vals_0 : (List Int)) : Option Int := run C k 185 (.int .i64) [.val (.list (.int .i64)) vals_0]
noncomputable def cmp_Or_int.l0 (k m : Nat) (zero_3 : Int) (t_6 : (List Int)) (t_7 : Int) (t_8 : Int) : Option Int := loopRun C k 185 (.int .i64) [0] [.r, .r, .l, .r, .b] [] [3, 6, 7, 8] m ⟨[.one (.cell (.int .i64 zero_3)), .one (.cell (.list false (.int .i64) t_6)), .one (.cell (.int .i64 t_7)), .one (.cell (.int .i64 t_8))], []⟩
noncomputable def impl_ascending (k : Nat) (l_0 : (List Int)) (low_1 : Int) (high_2 : Int) : Option Bool := run C k 171 .bool [.val (.list (.int .i64)) l_0, .val (.int .i64) low_1, .val (.int .i64) high_2]
noncomputable def impl_ascending.l0 (k m : Nat) (l_0 : (List Int)) (low_1 : Int) (high_2 : Int) (t_9 : (List Int)) (t_10 : Int) (t_11 : Int) : Option Bool := loopRun C k 171 .bool [0, 0, 0] [.r, .l, .r, .b] [] [0, 1, 2, 9, 10, 11] m ⟨[.one (.cell (.list false (.int .i64) l_0)), .one (.cell (.int .i64 low_1)), .one (.cell (.int .i64 high_2)), .one (.cell (.list false (.int .i64) t_9)), .one (.cell (.int .i64 t_10)), .one (.cell (.int .i64 t_11))], []⟩
noncomputable def slices_Index___int_int (k : Nat) (s_0 : (List Int)) (v_1 : Int) : Option Int := run C k 94 (.int .i64) [.val (.list (.int .i64)) s_0, .val (.int .i64) v_1]
noncomputable def slices_Index___int_int.l0 (k m : Nat) (s_0 : (List Int)) (v_1 : Int) (t_7 : Int) (t_8 : Int) : Option Int := loopRun C k 94 (.int .i64) [0, 0] [.r, .l, .r, .b] [] [0, 1, 7, 8] m ⟨[.one (.cell (.list false (.int .i64) s_0)), .one (.cell (.int .i64 v_1)), .one (.cell (.int .i64 t_7)), .one (.cell (.int .i64 t_8))], []⟩
noncomputable def slices_IndexFunc_impl_Player_159 (k : Nat) (s_0 : (List DT61)) (c1_0 : Int) (c1_1 : (List DT49)) (c1_2 : Int) : Option Int := run C k 92 (.int .i64) [.val (.dlist T61) s_0, .clo 159 [.ro (.int .i64) c1_0, .ro (.list T49) c1_1, .ro (.int .i64) c1_2]]
noncomputable def slices_IndexFunc_impl_Player_159.l0 (k m : Nat) (s_0 : (List DT61)) (f_1_c : Int) (f_1_c_1 : (List DT49)) (f_1_c_2 : Int) (t_7 : Int) (t_8 : Int) : Option Int := loopRun C k 92 (.int .i64) [0, 0] [.r, .l, .r, .b] [] [0, 1, 7, 8] m ⟨[.one (.cell (.list false T61 s_0)), .one (.cell (.clo 159 [.ro (.int .i64) f_1_c, .ro (.list T49) f_1_c_1, .ro (.int .i64) f_1_c_2])), .one (.cell (.int .i64 t_7)), .one (.cell (.int .i64 t_8))], []⟩
noncomputable def cmp_isNaN_int (k : Nat) (x_0 : Int) : Option Bool := run C k 203 .bool [.val (.int .i64) x_0]
noncomputable def impl_IsSeating_1 (k : Nat) (p_0 : DT61) (a_1 : Int) (a_2 : (List DT49)) (a_3 : Int) : Option Bool := run C k 159 .bool [.val T61 p_0, .rp (.int .i64) a_1, .rp (.list T49) a_2, .rp (.int .i64) a_3]
noncomputable def impl_CanPlay (k : Nat) (p_0 : DT61) (l_1 : (List DT49)) (voice_2 : Int) : Option Bool := run C k 132 .bool [.val T61 p_0, .val (.list T49) l_1, .val (.int .i64) voice_2]
noncomputable def impl_VoiceOf (k : Nat) (l_0 : (List DT49)) (voice_1 : Int) : Option (List DT49) := run C k 173 (.list T49) [.val (.list T49) l_0, .val (.int .i64) voice_1]
noncomputable def impl_FitsRange (k : Nat) (l_0 : (List DT49)) (low_1 : Int) (high_2 : Int) : Option Bool := run C k 172 .bool [.val (.list T49) l_0, .val (.int .i64) low_1, .val (.int .i64) high_2]
noncomputable def impl_FitsRange.l0 (k m : Nat) (l_0 : (List DT49)) (low_1 : Int) (high_2 : Int) (t_9 : (List DT49)) (t_10 : Int) (t_11 : Int) : Option Bool := loopRun C k 172 .bool [0, 0, 0] [.r, .l, .r, .b] [] [0, 1, 2, 9, 10, 11] m ⟨[.one (.cell (.list false T49 l_0)), .one (.cell (.int .i64 low_1)), .one (.cell (.int .i64 high_2)), .one (.cell (.list false T49 t_9)), .one (.cell (.int .i64 t_10)), .one (.cell (.int .i64 t_11))], []⟩
noncomputable def slices_DeleteFunc_impl_Event_198 (k : Nat) (s_0 : (List DT49)) (c1_0 : Int) : Option (List DT49) := run C k 197 (.list T49) [.give (.list T49) s_0, .clo 198 [.ro (.int .i64) c1_0]]
noncomputable def slices_DeleteFunc_impl_Event_198.l0 (k m : Nat) (del_1_c : Int) (i_5 : Int) (j_6 : Int) (s0 : (List DT49)) : Option (List DT49) := loopRun C k 197 (.list T49) [0, 0] [.r, .r, .r, .l, .r, .b] [] [0, 1, 5, 6] m ⟨[.one (.cell (.ref 1)), .one (.cell (.clo 198 [.ro (.int .i64) del_1_c])), .one (.cell (.int .i64 i_5)), .one (.cell (.int .i64 j_6))], [.arr T49 s0 .open]⟩
noncomputable def slices_IndexFunc_impl_Event_198 (k : Nat) (s_0 : (List DT49)) (c1_0 : Int) : Option Int := run C k 141 (.int .i64) [.val (.list T49) s_0, .clo 198 [.ro (.int .i64) c1_0]]
noncomputable def slices_IndexFunc_impl_Event_198.l0 (k m : Nat) (s_0 : (List DT49)) (f_1_c : Int) (t_7 : Int) (t_8 : Int) : Option Int := loopRun C k 141 (.int .i64) [0, 0] [.r, .l, .r, .b] [] [0, 1, 7, 8] m ⟨[.one (.cell (.list false T49 s_0)), .one (.cell (.clo 198 [.ro (.int .i64) f_1_c])), .one (.cell (.int .i64 t_7)), .one (.cell (.int .i64 t_8))], []⟩
noncomputable def impl_VoiceOf_1 (k : Nat) (e_0 : DT49) (a_1 : Int) : Option Bool := run C k 198 .bool [.val T49 e_0, .rp (.int .i64) a_1]
theorem laws_FnExactStepSeat_eq (k : Nat) (aO_0 : DT30) (aVoices_1 : Int) : laws_FnExactStepSeat (k + 1) aO_0 aVoices_1 =
 (laws_szOrchestra k aO_0 1048576).bind fun r1 =>
 if (r1 : Int) < 0 then
 some true
 else (laws_toOrchestra k aO_0).bind fun r2 =>
 (spec_StepSeat k r2 aVoices_1).bind fun r3 =>
 (laws_toOrchestra k aO_0).bind fun r4 =>
 (impl_StepSeat k r4 aVoices_1).bind fun r5 =>
 (laws_eqOrchestra k r5.1 r3.1).bind fun r6 =>
 if ¬ (r6 = true) then
 some false
 else if ¬ ((decide (r5.2.1 = true)) = (decide (r3.2.1 = true))) then
 some false
 else (laws_toOrchestra k aO_0).bind fun r7 =>
 (laws_eqOrchestra k r4 r7).bind fun r8 =>
 if ¬ (r8 = true) then
 some false
 else (laws_markOrchestra k (r4.1, ((r4.2.1.1, (r4.2.1.2.1, ())), (r4.2.2.1, (r4.2.2.2.1, (r4.2.2.2.2.1, (r4.2.2.2.2.2.1, (r4.2.2.2.2.2.2.1, (r4.2.2.2.2.2.2.2.1, (r4.2.2.2.2.2.2.2.2.1, ()))))))))) 1).bind fun r9 =>
 if (r9.1 : Int) < 0 then
 some false
 else (laws_eqOrchestra k r5.1 r3.1).bind fun r10 =>
 if ¬ (r10 = true) then
 some false
 else if ¬ ((decide (r5.2.1 = true)) = (decide (r3.2.1 = true))) then
 some false
 else (laws_markOrchestra k (r5.1.1, ((r5.1.2.1.1, (r5.1.2.1.2.1, ())), (r5.1.2.2.1, (r5.1.2.2.2.1, (r5.1.2.2.2.2.1, (r5.1.2.2.2.2.2.1, (r5.1.2.2.2.2.2.2.1, (r5.1.2.2.2.2.2.2.2.1, (r5.1.2.2.2.2.2.2.2.2.1, ()))))))))) 1).bind fun r11 =>
 (laws_heldOrchestra k (r11.2.1, (r5.1.2.1, (r11.2.2.2.1, (r11.2.2.2.2.1, (r11.2.2.2.2.2.1, (r11.2.2.2.2.2.2.1, (r11.2.2.2.2.2.2.2.1, r5.1.2.2.2.2.2.2.2))))))) 1).bind fun r12 =>
 if (r12 : Int) < 0 then
 some false
 else if (r12 : Int) ≠ r11.1 then
 some false
 else (laws_toOrchestra k aO_0).bind fun r13 =>
 (impl_StepSeat k r13 aVoices_1).bind fun r14 =>
 (laws_eqOrchestra k r14.1 r3.1).bind fun r15 =>
 if ¬ (r15 = true) then
 some false
 else if ¬ ((decide (r14.2.1 = true)) = (decide (r3.2.1 = true))) then
 some false
 else (laws_heldOrchestra k (r11.2.1, (r5.1.2.1, (r11.2.2.2.1, (r11.2.2.2.2.1, (r11.2.2.2.2.2.1, (r11.2.2.2.2.2.2.1, (r11.2.2.2.2.2.2.2.1, r5.1.2.2.2.2.2.2.2))))))) 1).bind fun r16 =>
 if (r16 : Int) < 0 then
 some false
 else if (r16 : Int) ≠ r11.1 then
 some false
 else some true := by kernel_rfl
theorem laws_szOrchestra_eq (k : Nat) (a_0 : DT30) (left_1 : Int) : laws_szOrchestra (k + 1) a_0 left_1 =
 (laws_szEventS k a_0.1 left_1).bind fun r1 =>
 if (r1 : Int) < 0 then
 some (-1)
 else (laws_szTempoS k a_0.2.2.1 r1).bind fun r2 =>
 if (r2 : Int) < 0 then
 some (-1)
 else (laws_szPlayerS k a_0.2.2.2.1 r2).bind fun r3 =>
 if (r3 : Int) < 0 then
 some (-1)
 else (laws_szIntS k a_0.2.2.2.2.1 r3).bind fun r4 =>
 if (r4 : Int) < 0 then
 some (-1)
 else (laws_szMarkS k a_0.2.2.2.2.2.1 r4).bind fun r5 =>
 if (r5 : Int) < 0 then
 some (-1)
 else (laws_szLetterS k a_0.2.2.2.2.2.2.1 r5).bind fun r6 =>
 if (r6 : Int) < 0 then
 some (-1)
 else some r6 := by kernel_rfl
theorem laws_toOrchestra_eq (k : Nat) (a_0 : DT30) : laws_toOrchestra (k + 1) a_0 =
 (laws_toEventS k a_0.1).bind fun r1 =>
 (laws_toMeter k a_0.2.1).bind fun r2 =>
 (laws_toTempoS k a_0.2.2.1).bind fun r3 =>
 (laws_toPlayerS k a_0.2.2.2.1).bind fun r4 =>
 (laws_toIntS k a_0.2.2.2.2.1).bind fun r5 =>
 (laws_toMarkS k a_0.2.2.2.2.2.1).bind fun r6 =>
 (laws_toLetterS k a_0.2.2.2.2.2.2.1).bind fun r7 =>
 some (r1, (r2, (r3, (r4, (r5, (r6, (r7, a_0.2.2.2.2.2.2.2))))))) := by kernel_rfl
theorem spec_StepSeat_eq (k : Nat) (o_0 : DT30) (voices_1 : Int) : spec_StepSeat (k + 1) o_0 voices_1 =
 (spec_l33Copy k o_0).bind fun r1 =>
 (spec_SeatPlayers k o_0.2.2.2.1 o_0.1 voices_1).bind fun r2 =>
 (spec_l34Done k o_0 (r1.1, (r1.2.1, (r1.2.2.1, (r1.2.2.2.1, (r2.1, r1.2.2.2.2.2))))) (decide (r2.2.1 = true))).bind fun r3 =>
 some (r3.1, (decide (r3.2.1 = true), ())) := by kernel_rfl
theorem impl_StepSeat_eq (k : Nat) (o_0 : DT30) (voices_1 : Int) : impl_StepSeat (k + 1) o_0 voices_1 =
 (impl_stepped_56 k o_0 voices_1).bind fun r1 =>
 some (r1.1, (decide (r1.2.1 = true), ())) := by kernel_rfl
theorem laws_eqOrchestra_eq (k : Nat) (a_0 : DT30) (b_1 : DT30) : laws_eqOrchestra (k + 1) a_0 b_1 =
 (laws_eqEventS k a_0.1 b_1.1).bind fun r1 =>
 if ¬ (r1 = true) then
 some false
 else (laws_eqMeter k a_0.2.1 b_1.2.1).bind fun r2 =>
 if ¬ (r2 = true) then
 some false
 else (laws_eqTempoS k a_0.2.2.1 b_1.2.2.1).bind fun r3 =>
 if ¬ (r3 = true) then
 some false
 else (laws_eqPlayerS k a_0.2.2.2.1 b_1.2.2.2.1).bind fun r4 =>
 if ¬ (r4 = true) then
 some false
 else (laws_eqIntS k a_0.2.2.2.2.1 b_1.2.2.2.2.1).bind fun r5 =>
 if ¬ (r5 = true) then
 some false
 else (laws_eqMarkS k a_0.2.2.2.2.2.1 b_1.2.2.2.2.2.1).bind fun r6 =>
 if ¬ (r6 = true) then
 some false
 else (laws_eqLetterS k a_0.2.2.2.2.2.2.1 b_1.2.2.2.2.2.2.1).bind fun r7 =>
 if ¬ (r7 = true) then
 some false
 else if (a_0.2.2.2.2.2.2.2.1 : Int) ≠ b_1.2.2.2.2.2.2.2.1 then
 some false
 else if (a_0.2.2.2.2.2.2.2.2.1 : Int) ≠ b_1.2.2.2.2.2.2.2.2.1 then
 some false
 else some true := by kernel_rfl
theorem laws_markOrchestra_eq (k : Nat) (a_0 : DT30) (k_1 : Int) : laws_markOrchestra (k + 1) a_0 k_1 =
 (laws_markEventS k a_0.1 k_1).bind fun r1 =>
 (laws_markTempoS k a_0.2.2.1 r1.1).bind fun r2 =>
 (laws_markPlayerS k a_0.2.2.2.1 r2.1).bind fun r3 =>
 (laws_markIntS k a_0.2.2.2.2.1 r3.1).bind fun r4 =>
 (laws_markMarkS k a_0.2.2.2.2.2.1 r4.1).bind fun r5 =>
 (laws_markLetterS k a_0.2.2.2.2.2.2.1 r5.1).bind fun r6 =>
 some (r6.1, (r1.2, (((), ((), ())), (r2.2, (r3.2, (r4.2, (r5.2, (r6.2, ((), ((), ())))))))))) := by kernel_rfl
theorem laws_heldOrchestra_eq (k : Nat) (a_0 : DT30) (k_1 : Int) : laws_heldOrchestra (k + 1) a_0 k_1 =
 (laws_heldEventS k a_0.1 k_1).bind fun r1 =>
 if (r1 : Int) < 0 then
 some (-1)
 else (laws_heldTempoS k a_0.2.2.1 r1).bind fun r2 =>
 if (r2 : Int) < 0 then
 some (-1)
 else (laws_heldPlayerS k a_0.2.2.2.1 r2).bind fun r3 =>
 if (r3 : Int) < 0 then
 some (-1)
 else (laws_heldIntS k a_0.2.2.2.2.1 r3).bind fun r4 =>
 if (r4 : Int) < 0 then
 some (-1)
 else (laws_heldMarkS k a_0.2.2.2.2.2.1 r4).bind fun r5 =>
 if (r5 : Int) < 0 then
 some (-1)
 else (laws_heldLetterS k a_0.2.2.2.2.2.2.1 r5).bind fun r6 =>
 if (r6 : Int) < 0 then
 some (-1)
 else some r6 := by kernel_rfl
theorem laws_szEventS_eq (k : Nat) (a_0 : (List DT49)) (left_1 : Int) : laws_szEventS (k + 1) a_0 left_1 =
 if ((IntKind.wrap .i64 (left_1 - ((List.length a_0 : Nat) : Int))) : Int) < 0 then
 some (-1)
 else some (IntKind.wrap .i64 (left_1 - ((List.length a_0 : Nat) : Int))) := by kernel_rfl
theorem laws_szTempoS_eq (k : Nat) (a_0 : (List DT23)) (left_1 : Int) : laws_szTempoS (k + 1) a_0 left_1 =
 if ((IntKind.wrap .i64 (left_1 - ((List.length a_0 : Nat) : Int))) : Int) < 0 then
 some (-1)
 else some (IntKind.wrap .i64 (left_1 - ((List.length a_0 : Nat) : Int))) := by kernel_rfl
theorem laws_szPlayerS_eq (k : Nat) (a_0 : (List DT61)) (left_1 : Int) : laws_szPlayerS (k + 1) a_0 left_1 =
 if ((IntKind.wrap .i64 (left_1 - ((List.length a_0 : Nat) : Int))) : Int) < 0 then
 some (-1)
 else laws_szPlayerS.l0 k k a_0 (IntKind.wrap .i64 (left_1 - ((List.length a_0 : Nat) : Int))) 0 := by kernel_rfl
theorem laws_szPlayerS.l0_eq (k m : Nat) (a_0 : (List DT61)) (left_1 : Int) (i_5 : Int) : laws_szPlayerS.l0 k (m + 1) a_0 left_1 i_5 =
 if (i_5 : Int) < ((List.length a_0 : Nat) : Int) then
 if 0 ≤ i_5 then
 if i_5 < ((List.length a_0 : Nat) : Int) then
 (laws_szPlayer k (rd T61 a_0 i_5) left_1).bind fun r1 =>
 if (r1 : Int) < 0 then
 some (-1)
 else laws_szPlayerS.l0 k m a_0 r1 (IntKind.wrap .i64 (i_5 + 1)) else none else none
 else some left_1 := by kernel_rfl
theorem laws_szIntS_eq (k : Nat) (a_0 : (List Int)) (left_1 : Int) : laws_szIntS (k + 1) a_0 left_1 =
 if ((IntKind.wrap .i64 (left_1 - ((List.length a_0 : Nat) : Int))) : Int) < 0 then
 some (-1)
 else some (IntKind.wrap .i64 (left_1 - ((List.length a_0 : Nat) : Int))) := by kernel_rfl
theorem laws_szMarkS_eq (k : Nat) (a_0 : (List DT131)) (left_1 : Int) : laws_szMarkS (k + 1) a_0 left_1 =
 if ((IntKind.wrap .i64 (left_1 - ((List.length a_0 : Nat) : Int))) : Int) < 0 then
 some (-1)
 else some (IntKind.wrap .i64 (left_1 - ((List.length a_0 : Nat) : Int))) := by kernel_rfl
theorem laws_szLetterS_eq (k : Nat) (a_0 : (List DT23)) (left_1 : Int) : laws_szLetterS (k + 1) a_0 left_1 =
 if ((IntKind.wrap .i64 (left_1 - ((List.length a_0 : Nat) : Int))) : Int) < 0 then
 some (-1)
 else some (IntKind.wrap .i64 (left_1 - ((List.length a_0 : Nat) : Int))) := by kernel_rfl
theorem laws_toEventS_eq (k : Nat) (a_0 : (List DT49)) : laws_toEventS (k + 1) a_0 =
 if 0 ≤ ((List.length a_0 : Nat) : Int) then
 if ((List.length a_0 : Nat) : Int) ≤ ((List.length a_0 : Nat) : Int) then
 if ((List.length a_0 : Nat) : Int) * 32 ≤ 211106232532992 then
 laws_toEventS.l0 k k a_0 0 (List.replicate (Int.toNat ((List.length a_0 : Nat) : Int)) (Ty.dflt T49)) else none else none else none := by kernel_rfl
theorem laws_toEventS.l0_eq (k m : Nat) (a_0 : (List DT49)) (i_4 : Int) (s0 : (List DT49)) : laws_toEventS.l0 k (m + 1) a_0 i_4 s0 =
 if (i_4 : Int) < ((List.length a_0 : Nat) : Int) then
 if 0 ≤ i_4 then
 if i_4 < ((List.length a_0 : Nat) : Int) then
 (laws_toEvent k (rd T49 a_0 i_4)).bind fun r1 =>
 if 0 ≤ i_4 then
 if i_4 < ((List.length s0 : Nat) : Int) then
 laws_toEventS.l0 k m a_0 (IntKind.wrap .i64 (i_4 + 1)) (List.set s0 (Int.toNat i_4) r1) else none else none else none else none
 else some s0 := by kernel_rfl
theorem laws_toMeter_eq (k : Nat) (a_0 : DT23) : laws_toMeter (k + 1) a_0 =
 some a_0 := by kernel_rfl
theorem laws_toTempoS_eq (k : Nat) (a_0 : (List DT23)) : laws_toTempoS (k + 1) a_0 =
 if 0 ≤ ((List.length a_0 : Nat) : Int) then
 if ((List.length a_0 : Nat) : Int) ≤ ((List.length a_0 : Nat) : Int) then
 if ((List.length a_0 : Nat) : Int) * 16 ≤ 211106232532992 then
 laws_toTempoS.l0 k k a_0 0 (List.replicate (Int.toNat ((List.length a_0 : Nat) : Int)) (Ty.dflt T23)) else none else none else none := by kernel_rfl
theorem laws_toTempoS.l0_eq (k m : Nat) (a_0 : (List DT23)) (i_4 : Int) (s0 : (List DT23)) : laws_toTempoS.l0 k (m + 1) a_0 i_4 s0 =
 if (i_4 : Int) < ((List.length a_0 : Nat) : Int) then
 if 0 ≤ i_4 then
 if i_4 < ((List.length a_0 : Nat) : Int) then
 (laws_toTempo k (rd T23 a_0 i_4)).bind fun r1 =>
 if 0 ≤ i_4 then
 if i_4 < ((List.length s0 : Nat) : Int) then
 laws_toTempoS.l0 k m a_0 (IntKind.wrap .i64 (i_4 + 1)) (List.set s0 (Int.toNat i_4) r1) else none else none else none else none
 else some s0 := by kernel_rfl
theorem laws_toPlayerS_eq (k : Nat) (a_0 : (List DT61)) : laws_toPlayerS (k + 1) a_0 =
 if 0 ≤ ((List.length a_0 : Nat) : Int) then
 if ((List.length a_0 : Nat) : Int) ≤ ((List.length a_0 : Nat) : Int) then
 if ((List.length a_0 : Nat) : Int) * 48 ≤ 211106232532992 then
 laws_toPlayerS.l0 k k a_0 0 (List.replicate (Int.toNat ((List.length a_0 : Nat) : Int)) (Ty.dflt T61)) else none else none else none := by kernel_rfl
theorem laws_toPlayerS.l0_eq (k m : Nat) (a_0 : (List DT61)) (i_4 : Int) (s0 : (List DT61)) : laws_toPlayerS.l0 k (m + 1) a_0 i_4 s0 =
 if (i_4 : Int) < ((List.length a_0 : Nat) : Int) then
 if 0 ≤ i_4 then
 if i_4 < ((List.length a_0 : Nat) : Int) then
 (laws_toPlayer k (rd T61 a_0 i_4)).bind fun r1 =>
 if 0 ≤ i_4 then
 if i_4 < ((List.length s0 : Nat) : Int) then
 laws_toPlayerS.l0 k m a_0 (IntKind.wrap .i64 (i_4 + 1)) (List.set s0 (Int.toNat i_4) r1) else none else none else none else none
 else some s0 := by kernel_rfl
theorem laws_toIntS_eq (k : Nat) (a_0 : (List Int)) : laws_toIntS (k + 1) a_0 =
 if 0 ≤ ((List.length a_0 : Nat) : Int) then
 if ((List.length a_0 : Nat) : Int) ≤ ((List.length a_0 : Nat) : Int) then
 if ((List.length a_0 : Nat) : Int) * 8 ≤ 211106232532992 then
 laws_toIntS.l0 k k a_0 0 (List.replicate (Int.toNat ((List.length a_0 : Nat) : Int)) (Ty.dflt (.int .i64))) else none else none else none := by kernel_rfl
theorem laws_toIntS.l0_eq (k m : Nat) (a_0 : (List Int)) (i_4 : Int) (s0 : (List Int)) : laws_toIntS.l0 k (m + 1) a_0 i_4 s0 =
 if (i_4 : Int) < ((List.length a_0 : Nat) : Int) then
 if 0 ≤ i_4 then
 if i_4 < ((List.length a_0 : Nat) : Int) then
 if 0 ≤ i_4 then
 if i_4 < ((List.length s0 : Nat) : Int) then
 laws_toIntS.l0 k m a_0 (IntKind.wrap .i64 (i_4 + 1)) (List.set s0 (Int.toNat i_4) (rd (.int .i64) a_0 i_4)) else none else none else none else none
 else some s0 := by kernel_rfl
theorem laws_toMarkS_eq (k : Nat) (a_0 : (List DT131)) : laws_toMarkS (k + 1) a_0 =
 if 0 ≤ ((List.length a_0 : Nat) : Int) then
 if ((List.length a_0 : Nat) : Int) ≤ ((List.length a_0 : Nat) : Int) then
 if ((List.length a_0 : Nat) : Int) * 40 ≤ 211106232532992 then
 laws_toMarkS.l0 k k a_0 0 (List.replicate (Int.toNat ((List.length a_0 : Nat) : Int)) (Ty.dflt T131)) else none else none else none := by kernel_rfl
theorem laws_toMarkS.l0_eq (k m : Nat) (a_0 : (List DT131)) (i_4 : Int) (s0 : (List DT131)) : laws_toMarkS.l0 k (m + 1) a_0 i_4 s0 =
 if (i_4 : Int) < ((List.length a_0 : Nat) : Int) then
 if 0 ≤ i_4 then
 if i_4 < ((List.length a_0 : Nat) : Int) then
 (laws_toMark k (rd T131 a_0 i_4)).bind fun r1 =>
 if 0 ≤ i_4 then
 if i_4 < ((List.length s0 : Nat) : Int) then
 laws_toMarkS.l0 k m a_0 (IntKind.wrap .i64 (i_4 + 1)) (List.set s0 (Int.toNat i_4) r1) else none else none else none else none
 else some s0 := by kernel_rfl
theorem laws_toLetterS_eq (k : Nat) (a_0 : (List DT23)) : laws_toLetterS (k + 1) a_0 =
 if 0 ≤ ((List.length a_0 : Nat) : Int) then
 if ((List.length a_0 : Nat) : Int) ≤ ((List.length a_0 : Nat) : Int) then
 if ((List.length a_0 : Nat) : Int) * 16 ≤ 211106232532992 then
 laws_toLetterS.l0 k k a_0 0 (List.replicate (Int.toNat ((List.length a_0 : Nat) : Int)) (Ty.dflt T23)) else none else none else none := by kernel_rfl
theorem laws_toLetterS.l0_eq (k m : Nat) (a_0 : (List DT23)) (i_4 : Int) (s0 : (List DT23)) : laws_toLetterS.l0 k (m + 1) a_0 i_4 s0 =
 if (i_4 : Int) < ((List.length a_0 : Nat) : Int) then
 if 0 ≤ i_4 then
 if i_4 < ((List.length a_0 : Nat) : Int) then
 (laws_toLetter k (rd T23 a_0 i_4)).bind fun r1 =>
 if 0 ≤ i_4 then
 if i_4 < ((List.length s0 : Nat) : Int) then
 laws_toLetterS.l0 k m a_0 (IntKind.wrap .i64 (i_4 + 1)) (List.set s0 (Int.toNat i_4) r1) else none else none else none else none
 else some s0 := by kernel_rfl
theorem spec_l33Copy_eq (k : Nat) (o_0 : DT30) : spec_l33Copy (k + 1) o_0 =
 if (List.length ([] : (List DT49)) + List.length o_0.1) * 32 ≤ 211106232532992 then
 if (List.length ([] : (List DT23)) + List.length o_0.2.2.1) * 16 ≤ 211106232532992 then
 (spec_l29Copy k o_0.2.2.2.1).bind fun r1 =>
 if (List.length ([] : (List Int)) + List.length o_0.2.2.2.2.1) * 8 ≤ 211106232532992 then
 if (List.length ([] : (List DT131)) + List.length o_0.2.2.2.2.2.1) * 40 ≤ 211106232532992 then
 if (List.length ([] : (List DT23)) + List.length o_0.2.2.2.2.2.2.1) * 16 ≤ 211106232532992 then
 some ((([] : (List DT49)) ++ o_0.1), (o_0.2.1, ((([] : (List DT23)) ++ o_0.2.2.1), (r1, ((([] : (List Int)) ++ o_0.2.2.2.2.1), ((([] : (List DT131)) ++ o_0.2.2.2.2.2.1), ((([] : (List DT23)) ++ o_0.2.2.2.2.2.2.1), o_0.2.2.2.2.2.2.2))))))) else none else none else none else none else none := by kernel_rfl
theorem spec_SeatPlayers_eq (k : Nat) (l_0 : (List DT61)) (score_1 : (List DT49)) (voices_2 : Int) : spec_SeatPlayers (k + 1) l_0 score_1 voices_2 =
 (spec_ArePlayers k l_0).bind fun r1 =>
 if ¬ (r1 = true) then
 some ([], (false, ()))
 else (spec_IsScore k score_1).bind fun r2 =>
 if ¬ (r2 = true) then
 some ([], (false, ()))
 else (spec_l1In k voices_2 1 4).bind fun r3 =>
 if ¬ (r3 = true) then
 some ([], (false, ()))
 else (spec_l29Seat k l_0 score_1 voices_2 []).bind fun r4 =>
 some (r4.1, (decide (r4.2.1 = true), ())) := by kernel_rfl
theorem spec_l34Done_eq (k : Nat) (o_0 : DT30) (out_1 : DT30) (ok_2 : Bool) : spec_l34Done (k + 1) o_0 out_1 ok_2 =
 if ¬ (ok_2 = true) then
 (spec_l33Copy k o_0).bind fun r1 =>
 some (r1, (false, ()))
 else (spec_IsOrchestra k out_1).bind fun r2 =>
 if ¬ (r2 = true) then
 (spec_l33Copy k o_0).bind fun r3 =>
 some (r3, (false, ()))
 else some (out_1, (true, ())) := by kernel_rfl
theorem impl_stepped_56_eq (k : Nat) (o_0 : DT30) (c1_0 : Int) : impl_stepped_56 (k + 1) o_0 c1_0 =
 (impl_Orchestra__copied k o_0).bind fun r1 =>
 (impl_StepSeat_1 k r1 c1_0).bind fun r2 =>
 if ¬ (r2.1 = true) then
 (impl_Orchestra__copied k o_0).bind fun r3 =>
 some (r3, (false, ()))
 else (impl_IsOrchestra k r2.2).bind fun r4 =>
 if ¬ (r4 = true) then
 (impl_Orchestra__copied k o_0).bind fun r5 =>
 some (r5, (false, ()))
 else some (r2.2, (true, ())) := by kernel_rfl
theorem laws_eqEventS_eq (k : Nat) (a_0 : (List DT49)) (b_1 : (List DT49)) : laws_eqEventS (k + 1) a_0 b_1 =
 if (((List.length a_0 : Nat) : Int) : Int) ≠ ((List.length b_1 : Nat) : Int) then
 some false
 else laws_eqEventS.l0 k k a_0 b_1 0 := by kernel_rfl
theorem laws_eqEventS.l0_eq (k m : Nat) (a_0 : (List DT49)) (b_1 : (List DT49)) (i_5 : Int) : laws_eqEventS.l0 k (m + 1) a_0 b_1 i_5 =
 if (i_5 : Int) < ((List.length a_0 : Nat) : Int) then
 if 0 ≤ i_5 then
 if i_5 < ((List.length a_0 : Nat) : Int) then
 if 0 ≤ i_5 then
 if i_5 < ((List.length b_1 : Nat) : Int) then
 (laws_eqEvent k (rd T49 a_0 i_5) (rd T49 b_1 i_5)).bind fun r1 =>
 if ¬ (r1 = true) then
 some false
 else laws_eqEventS.l0 k m a_0 b_1 (IntKind.wrap .i64 (i_5 + 1)) else none else none else none else none
 else some true := by kernel_rfl
theorem laws_eqMeter_eq (k : Nat) (a_0 : DT23) (b_1 : DT23) : laws_eqMeter (k + 1) a_0 b_1 =
 if (a_0.1 : Int) ≠ b_1.1 then
 some false
 else if (a_0.2.1 : Int) ≠ b_1.2.1 then
 some false
 else some true := by kernel_rfl
theorem laws_eqTempoS_eq (k : Nat) (a_0 : (List DT23)) (b_1 : (List DT23)) : laws_eqTempoS (k + 1) a_0 b_1 =
 if (((List.length a_0 : Nat) : Int) : Int) ≠ ((List.length b_1 : Nat) : Int) then
 some false
 else laws_eqTempoS.l0 k k a_0 b_1 0 := by kernel_rfl
theorem laws_eqTempoS.l0_eq (k m : Nat) (a_0 : (List DT23)) (b_1 : (List DT23)) (i_5 : Int) : laws_eqTempoS.l0 k (m + 1) a_0 b_1 i_5 =
 if (i_5 : Int) < ((List.length a_0 : Nat) : Int) then
 if 0 ≤ i_5 then
 if i_5 < ((List.length a_0 : Nat) : Int) then
 if 0 ≤ i_5 then
 if i_5 < ((List.length b_1 : Nat) : Int) then
 (laws_eqTempo k (rd T23 a_0 i_5) (rd T23 b_1 i_5)).bind fun r1 =>
 if ¬ (r1 = true) then
 some false
 else laws_eqTempoS.l0 k m a_0 b_1 (IntKind.wrap .i64 (i_5 + 1)) else none else none else none else none
 else some true := by kernel_rfl
theorem laws_eqPlayerS_eq (k : Nat) (a_0 : (List DT61)) (b_1 : (List DT61)) : laws_eqPlayerS (k + 1) a_0 b_1 =
 if (((List.length a_0 : Nat) : Int) : Int) ≠ ((List.length b_1 : Nat) : Int) then
 some false
 else laws_eqPlayerS.l0 k k a_0 b_1 0 := by kernel_rfl
theorem laws_eqPlayerS.l0_eq (k m : Nat) (a_0 : (List DT61)) (b_1 : (List DT61)) (i_5 : Int) : laws_eqPlayerS.l0 k (m + 1) a_0 b_1 i_5 =
 if (i_5 : Int) < ((List.length a_0 : Nat) : Int) then
 if 0 ≤ i_5 then
 if i_5 < ((List.length a_0 : Nat) : Int) then
 if 0 ≤ i_5 then
 if i_5 < ((List.length b_1 : Nat) : Int) then
 (laws_eqPlayer k (rd T61 a_0 i_5) (rd T61 b_1 i_5)).bind fun r1 =>
 if ¬ (r1 = true) then
 some false
 else laws_eqPlayerS.l0 k m a_0 b_1 (IntKind.wrap .i64 (i_5 + 1)) else none else none else none else none
 else some true := by kernel_rfl
theorem laws_eqIntS_eq (k : Nat) (a_0 : (List Int)) (b_1 : (List Int)) : laws_eqIntS (k + 1) a_0 b_1 =
 if (((List.length a_0 : Nat) : Int) : Int) ≠ ((List.length b_1 : Nat) : Int) then
 some false
 else laws_eqIntS.l0 k k a_0 b_1 0 := by kernel_rfl
theorem laws_eqIntS.l0_eq (k m : Nat) (a_0 : (List Int)) (b_1 : (List Int)) (i_5 : Int) : laws_eqIntS.l0 k (m + 1) a_0 b_1 i_5 =
 if (i_5 : Int) < ((List.length a_0 : Nat) : Int) then
 if 0 ≤ i_5 then
 if i_5 < ((List.length a_0 : Nat) : Int) then
 if 0 ≤ i_5 then
 if i_5 < ((List.length b_1 : Nat) : Int) then
 if Ne (α := Int) (rd (.int .i64) a_0 i_5) (rd (.int .i64) b_1 i_5) then
 some false
 else laws_eqIntS.l0 k m a_0 b_1 (IntKind.wrap .i64 (i_5 + 1)) else none else none else none else none
 else some true := by kernel_rfl
theorem laws_eqMarkS_eq (k : Nat) (a_0 : (List DT131)) (b_1 : (List DT131)) : laws_eqMarkS (k + 1) a_0 b_1 =
 if (((List.length a_0 : Nat) : Int) : Int) ≠ ((List.length b_1 : Nat) : Int) then
 some false
 else laws_eqMarkS.l0 k k a_0 b_1 0 := by kernel_rfl
theorem laws_eqMarkS.l0_eq (k m : Nat) (a_0 : (List DT131)) (b_1 : (List DT131)) (i_5 : Int) : laws_eqMarkS.l0 k (m + 1) a_0 b_1 i_5 =
 if (i_5 : Int) < ((List.length a_0 : Nat) : Int) then
 if 0 ≤ i_5 then
 if i_5 < ((List.length a_0 : Nat) : Int) then
 if 0 ≤ i_5 then
 if i_5 < ((List.length b_1 : Nat) : Int) then
 (laws_eqMark k (rd T131 a_0 i_5) (rd T131 b_1 i_5)).bind fun r1 =>
 if ¬ (r1 = true) then
 some false
 else laws_eqMarkS.l0 k m a_0 b_1 (IntKind.wrap .i64 (i_5 + 1)) else none else none else none else none
 else some true := by kernel_rfl
theorem laws_eqLetterS_eq (k : Nat) (a_0 : (List DT23)) (b_1 : (List DT23)) : laws_eqLetterS (k + 1) a_0 b_1 =
 if (((List.length a_0 : Nat) : Int) : Int) ≠ ((List.length b_1 : Nat) : Int) then
 some false
 else laws_eqLetterS.l0 k k a_0 b_1 0 := by kernel_rfl
theorem laws_eqLetterS.l0_eq (k m : Nat) (a_0 : (List DT23)) (b_1 : (List DT23)) (i_5 : Int) : laws_eqLetterS.l0 k (m + 1) a_0 b_1 i_5 =
 if (i_5 : Int) < ((List.length a_0 : Nat) : Int) then
 if 0 ≤ i_5 then
 if i_5 < ((List.length a_0 : Nat) : Int) then
 if 0 ≤ i_5 then
 if i_5 < ((List.length b_1 : Nat) : Int) then
 (laws_eqLetter k (rd T23 a_0 i_5) (rd T23 b_1 i_5)).bind fun r1 =>
 if ¬ (r1 = true) then
 some false
 else laws_eqLetterS.l0 k m a_0 b_1 (IntKind.wrap .i64 (i_5 + 1)) else none else none else none else none
 else some true := by kernel_rfl
theorem laws_markEventS_eq (k : Nat) (a_0 : (List DT49)) (k_1 : Int) : laws_markEventS (k + 1) a_0 k_1 =
 laws_markEventS.l0 k k k_1 0 a_0 := by kernel_rfl
theorem laws_markEventS.l0_eq (k m : Nat) (k_1 : Int) (i_5 : Int) (s0 : (List DT49)) : laws_markEventS.l0 k (m + 1) k_1 i_5 s0 =
 if (i_5 : Int) < ((List.length s0 : Nat) : Int) then
 if 0 ≤ i_5 then
 if i_5 < ((List.length s0 : Nat) : Int) then
 if 0 ≤ i_5 then
 if i_5 < ((List.length (setAt T49 s0 i_5 (fun yy => (k_1, yy.2))) : Nat) : Int) then
 if 0 ≤ i_5 then
 if i_5 < ((List.length (setAt T49 (setAt T49 s0 i_5 (fun yy => (k_1, yy.2))) i_5 (fun yy => (yy.1, (IntKind.wrap .i64 (k_1 + 1), yy.2.2)))) : Nat) : Int) then
 if 0 ≤ i_5 then
 if i_5 < ((List.length (setAt T49 (setAt T49 (setAt T49 s0 i_5 (fun yy => (k_1, yy.2))) i_5 (fun yy => (yy.1, (IntKind.wrap .i64 (k_1 + 1), yy.2.2)))) i_5 (fun yy => (yy.1, (yy.2.1, (IntKind.wrap .i64 ((IntKind.wrap .i64 (k_1 + 1)) + 1), yy.2.2.2))))) : Nat) : Int) then
 laws_markEventS.l0 k m (IntKind.wrap .i64 ((IntKind.wrap .i64 ((IntKind.wrap .i64 ((IntKind.wrap .i64 (k_1 + 1)) + 1)) + 1)) + 1)) (IntKind.wrap .i64 (i_5 + 1)) (setAt T49 (setAt T49 (setAt T49 (setAt T49 s0 i_5 (fun yy => (k_1, yy.2))) i_5 (fun yy => (yy.1, (IntKind.wrap .i64 (k_1 + 1), yy.2.2)))) i_5 (fun yy => (yy.1, (yy.2.1, (IntKind.wrap .i64 ((IntKind.wrap .i64 (k_1 + 1)) + 1), yy.2.2.2))))) i_5 (fun yy => (yy.1, (yy.2.1, (yy.2.2.1, (IntKind.wrap .i64 ((IntKind.wrap .i64 ((IntKind.wrap .i64 (k_1 + 1)) + 1)) + 1), ())))))) else none else none else none else none else none else none else none else none
 else some (k_1, s0) := by kernel_rfl
theorem laws_markTempoS_eq (k : Nat) (a_0 : (List DT23)) (k_1 : Int) : laws_markTempoS (k + 1) a_0 k_1 =
 laws_markTempoS.l0 k k k_1 0 a_0 := by kernel_rfl
theorem laws_markTempoS.l0_eq (k m : Nat) (k_1 : Int) (i_5 : Int) (s0 : (List DT23)) : laws_markTempoS.l0 k (m + 1) k_1 i_5 s0 =
 if (i_5 : Int) < ((List.length s0 : Nat) : Int) then
 if 0 ≤ i_5 then
 if i_5 < ((List.length s0 : Nat) : Int) then
 if 0 ≤ i_5 then
 if i_5 < ((List.length (setAt T23 s0 i_5 (fun yy => (k_1, yy.2))) : Nat) : Int) then
 laws_markTempoS.l0 k m (IntKind.wrap .i64 ((IntKind.wrap .i64 (k_1 + 1)) + 1)) (IntKind.wrap .i64 (i_5 + 1)) (setAt T23 (setAt T23 s0 i_5 (fun yy => (k_1, yy.2))) i_5 (fun yy => (yy.1, (IntKind.wrap .i64 (k_1 + 1), ())))) else none else none else none else none
 else some (k_1, s0) := by kernel_rfl
theorem laws_markPlayerS_eq (k : Nat) (a_0 : (List DT61)) (k_1 : Int) : laws_markPlayerS (k + 1) a_0 k_1 =
 laws_markPlayerS.l0 k k k_1 0 a_0 := by kernel_rfl
theorem laws_markPlayerS.l0_eq (k m : Nat) (k_1 : Int) (i_5 : Int) (s0 : (List DT61)) : laws_markPlayerS.l0 k (m + 1) k_1 i_5 s0 =
 if (i_5 : Int) < ((List.length s0 : Nat) : Int) then
 if 0 ≤ i_5 then
 if i_5 < ((List.length s0 : Nat) : Int) then
 if 0 ≤ i_5 then
 if i_5 < ((List.length (setAt T61 s0 i_5 (fun yy => (k_1, yy.2))) : Nat) : Int) then
 if 0 ≤ i_5 then
 if i_5 < ((List.length (setAt T61 (setAt T61 s0 i_5 (fun yy => (k_1, yy.2))) i_5 (fun yy => (yy.1, (IntKind.wrap .i64 (k_1 + 1), yy.2.2)))) : Nat) : Int) then
 if 0 ≤ i_5 then
 if i_5 < ((List.length (setAt T61 (setAt T61 (setAt T61 s0 i_5 (fun yy => (k_1, yy.2))) i_5 (fun yy => (yy.1, (IntKind.wrap .i64 (k_1 + 1), yy.2.2)))) i_5 (fun yy => (yy.1, (yy.2.1, (IntKind.wrap .i64 ((IntKind.wrap .i64 (k_1 + 1)) + 1), yy.2.2.2))))) : Nat) : Int) then
 (laws_markIntS k (rd T61 (setAt T61 (setAt T61 (setAt T61 s0 i_5 (fun yy => (k_1, yy.2))) i_5 (fun yy => (yy.1, (IntKind.wrap .i64 (k_1 + 1), yy.2.2)))) i_5 (fun yy => (yy.1, (yy.2.1, (IntKind.wrap .i64 ((IntKind.wrap .i64 (k_1 + 1)) + 1), yy.2.2.2))))) i_5).2.2.2.1 (IntKind.wrap .i64 ((IntKind.wrap .i64 ((IntKind.wrap .i64 (k_1 + 1)) + 1)) + 1))).bind fun r1 =>
 laws_markPlayerS.l0 k m r1.1 (IntKind.wrap .i64 (i_5 + 1)) (setAt T61 (setAt T61 (setAt T61 (setAt T61 s0 i_5 (fun yy => (k_1, yy.2))) i_5 (fun yy => (yy.1, (IntKind.wrap .i64 (k_1 + 1), yy.2.2)))) i_5 (fun yy => (yy.1, (yy.2.1, (IntKind.wrap .i64 ((IntKind.wrap .i64 (k_1 + 1)) + 1), yy.2.2.2))))) i_5 (fun yy => (yy.1, (yy.2.1, (yy.2.2.1, (r1.2, yy.2.2.2.2)))))) else none else none else none else none else none else none else none else none
 else some (k_1, s0) := by kernel_rfl
theorem laws_markIntS_eq (k : Nat) (a_0 : (List Int)) (k_1 : Int) : laws_markIntS (k + 1) a_0 k_1 =
 laws_markIntS.l0 k k k_1 0 a_0 := by kernel_rfl
theorem laws_markIntS.l0_eq (k m : Nat) (k_1 : Int) (i_5 : Int) (s0 : (List Int)) : laws_markIntS.l0 k (m + 1) k_1 i_5 s0 =
 if (i_5 : Int) < ((List.length s0 : Nat) : Int) then
 if 0 ≤ i_5 then
 if i_5 < ((List.length s0 : Nat) : Int) then
 laws_markIntS.l0 k m (IntKind.wrap .i64 (k_1 + 1)) (IntKind.wrap .i64 (i_5 + 1)) (List.set s0 (Int.toNat i_5) k_1) else none else none
 else some (k_1, s0) := by kernel_rfl
theorem laws_markMarkS_eq (k : Nat) (a_0 : (List DT131)) (k_1 : Int) : laws_markMarkS (k + 1) a_0 k_1 =
 laws_markMarkS.l0 k k k_1 0 a_0 := by kernel_rfl
theorem laws_markMarkS.l0_eq (k m : Nat) (k_1 : Int) (i_5 : Int) (s0 : (List DT131)) : laws_markMarkS.l0 k (m + 1) k_1 i_5 s0 =
 if (i_5 : Int) < ((List.length s0 : Nat) : Int) then
 if 0 ≤ i_5 then
 if i_5 < ((List.length s0 : Nat) : Int) then
 if 0 ≤ i_5 then
 if i_5 < ((List.length (setAt T131 s0 i_5 (fun yy => (k_1, yy.2))) : Nat) : Int) then
 if 0 ≤ i_5 then
 if i_5 < ((List.length (setAt T131 (setAt T131 s0 i_5 (fun yy => (k_1, yy.2))) i_5 (fun yy => (yy.1, (IntKind.wrap .i64 (k_1 + 1), yy.2.2)))) : Nat) : Int) then
 if 0 ≤ i_5 then
 if i_5 < ((List.length (setAt T131 (setAt T131 (setAt T131 s0 i_5 (fun yy => (k_1, yy.2))) i_5 (fun yy => (yy.1, (IntKind.wrap .i64 (k_1 + 1), yy.2.2)))) i_5 (fun yy => (yy.1, (yy.2.1, (IntKind.wrap .i64 ((IntKind.wrap .i64 (k_1 + 1)) + 1), yy.2.2.2))))) : Nat) : Int) then
 if 0 ≤ i_5 then
 if i_5 < ((List.length (setAt T131 (setAt T131 (setAt T131 (setAt T131 s0 i_5 (fun yy => (k_1, yy.2))) i_5 (fun yy => (yy.1, (IntKind.wrap .i64 (k_1 + 1), yy.2.2)))) i_5 (fun yy => (yy.1, (yy.2.1, (IntKind.wrap .i64 ((IntKind.wrap .i64 (k_1 + 1)) + 1), yy.2.2.2))))) i_5 (fun yy => (yy.1, (yy.2.1, (yy.2.2.1, (IntKind.wrap .i64 ((IntKind.wrap .i64 ((IntKind.wrap .i64 (k_1 + 1)) + 1)) + 1), yy.2.2.2.2)))))) : Nat) : Int) then
 laws_markMarkS.l0 k m (IntKind.wrap .i64 ((IntKind.wrap .i64 ((IntKind.wrap .i64 ((IntKind.wrap .i64 ((IntKind.wrap .i64 (k_1 + 1)) + 1)) + 1)) + 1)) + 1)) (IntKind.wrap .i64 (i_5 + 1)) (setAt T131 (setAt T131 (setAt T131 (setAt T131 (setAt T131 s0 i_5 (fun yy => (k_1, yy.2))) i_5 (fun yy => (yy.1, (IntKind.wrap .i64 (k_1 + 1), yy.2.2)))) i_5 (fun yy => (yy.1, (yy.2.1, (IntKind.wrap .i64 ((IntKind.wrap .i64 (k_1 + 1)) + 1), yy.2.2.2))))) i_5 (fun yy => (yy.1, (yy.2.1, (yy.2.2.1, (IntKind.wrap .i64 ((IntKind.wrap .i64 ((IntKind.wrap .i64 (k_1 + 1)) + 1)) + 1), yy.2.2.2.2)))))) i_5 (fun yy => (yy.1, (yy.2.1, (yy.2.2.1, (yy.2.2.2.1, (IntKind.wrap .i64 ((IntKind.wrap .i64 ((IntKind.wrap .i64 ((IntKind.wrap .i64 (k_1 + 1)) + 1)) + 1)) + 1), ()))))))) else none else none else none else none else none else none else none else none else none else none
 else some (k_1, s0) := by kernel_rfl
theorem laws_markLetterS_eq (k : Nat) (a_0 : (List DT23)) (k_1 : Int) : laws_markLetterS (k + 1) a_0 k_1 =
 laws_markLetterS.l0 k k k_1 0 a_0 := by kernel_rfl
theorem laws_markLetterS.l0_eq (k m : Nat) (k_1 : Int) (i_5 : Int) (s0 : (List DT23)) : laws_markLetterS.l0 k (m + 1) k_1 i_5 s0 =
 if (i_5 : Int) < ((List.length s0 : Nat) : Int) then
 if 0 ≤ i_5 then
 if i_5 < ((List.length s0 : Nat) : Int) then
 if 0 ≤ i_5 then
 if i_5 < ((List.length (setAt T23 s0 i_5 (fun yy => (k_1, yy.2))) : Nat) : Int) then
 laws_markLetterS.l0 k m (IntKind.wrap .i64 ((IntKind.wrap .i64 (k_1 + 1)) + 1)) (IntKind.wrap .i64 (i_5 + 1)) (setAt T23 (setAt T23 s0 i_5 (fun yy => (k_1, yy.2))) i_5 (fun yy => (yy.1, (IntKind.wrap .i64 (k_1 + 1), ())))) else none else none else none else none
 else some (k_1, s0) := by kernel_rfl
theorem laws_heldEventS_eq (k : Nat) (a_0 : (List DT49)) (k_1 : Int) : laws_heldEventS (k + 1) a_0 k_1 =
 laws_heldEventS.l0 k k a_0 k_1 0 := by kernel_rfl
theorem laws_heldEventS.l0_eq (k m : Nat) (a_0 : (List DT49)) (k_1 : Int) (i_5 : Int) : laws_heldEventS.l0 k (m + 1) a_0 k_1 i_5 =
 if (i_5 : Int) < ((List.length a_0 : Nat) : Int) then
 if 0 ≤ i_5 then
 if i_5 < ((List.length a_0 : Nat) : Int) then
 if Ne (α := Int) (rd T49 a_0 i_5).1 k_1 then
 some (-1)
 else if 0 ≤ i_5 then
 if i_5 < ((List.length a_0 : Nat) : Int) then
 if Ne (α := Int) (rd T49 a_0 i_5).2.1 (IntKind.wrap .i64 (k_1 + 1)) then
 some (-1)
 else if 0 ≤ i_5 then
 if i_5 < ((List.length a_0 : Nat) : Int) then
 if Ne (α := Int) (rd T49 a_0 i_5).2.2.1 (IntKind.wrap .i64 ((IntKind.wrap .i64 (k_1 + 1)) + 1)) then
 some (-1)
 else if 0 ≤ i_5 then
 if i_5 < ((List.length a_0 : Nat) : Int) then
 if Ne (α := Int) (rd T49 a_0 i_5).2.2.2.1 (IntKind.wrap .i64 ((IntKind.wrap .i64 ((IntKind.wrap .i64 (k_1 + 1)) + 1)) + 1)) then
 some (-1)
 else laws_heldEventS.l0 k m a_0 (IntKind.wrap .i64 ((IntKind.wrap .i64 ((IntKind.wrap .i64 ((IntKind.wrap .i64 (k_1 + 1)) + 1)) + 1)) + 1)) (IntKind.wrap .i64 (i_5 + 1)) else none else none else none else none else none else none else none else none
 else some k_1 := by kernel_rfl
theorem laws_heldTempoS_eq (k : Nat) (a_0 : (List DT23)) (k_1 : Int) : laws_heldTempoS (k + 1) a_0 k_1 =
 laws_heldTempoS.l0 k k a_0 k_1 0 := by kernel_rfl
theorem laws_heldTempoS.l0_eq (k m : Nat) (a_0 : (List DT23)) (k_1 : Int) (i_5 : Int) : laws_heldTempoS.l0 k (m + 1) a_0 k_1 i_5 =
 if (i_5 : Int) < ((List.length a_0 : Nat) : Int) then
 if 0 ≤ i_5 then
 if i_5 < ((List.length a_0 : Nat) : Int) then
 if Ne (α := Int) (rd T23 a_0 i_5).1 k_1 then
 some (-1)
 else if 0 ≤ i_5 then
 if i_5 < ((List.length a_0 : Nat) : Int) then
 if Ne (α := Int) (rd T23 a_0 i_5).2.1 (IntKind.wrap .i64 (k_1 + 1)) then
 some (-1)
 else laws_heldTempoS.l0 k m a_0 (IntKind.wrap .i64 ((IntKind.wrap .i64 (k_1 + 1)) + 1)) (IntKind.wrap .i64 (i_5 + 1)) else none else none else none else none
 else some k_1 := by kernel_rfl
theorem laws_heldPlayerS_eq (k : Nat) (a_0 : (List DT61)) (k_1 : Int) : laws_heldPlayerS (k + 1) a_0 k_1 =
 laws_heldPlayerS.l0 k k a_0 k_1 0 := by kernel_rfl
theorem laws_heldPlayerS.l0_eq (k m : Nat) (a_0 : (List DT61)) (k_1 : Int) (i_5 : Int) : laws_heldPlayerS.l0 k (m + 1) a_0 k_1 i_5 =
 if (i_5 : Int) < ((List.length a_0 : Nat) : Int) then
 if 0 ≤ i_5 then
 if i_5 < ((List.length a_0 : Nat) : Int) then
 if Ne (α := Int) (rd T61 a_0 i_5).1 k_1 then
 some (-1)
 else if 0 ≤ i_5 then
 if i_5 < ((List.length a_0 : Nat) : Int) then
 if Ne (α := Int) (rd T61 a_0 i_5).2.1 (IntKind.wrap .i64 (k_1 + 1)) then
 some (-1)
 else if 0 ≤ i_5 then
 if i_5 < ((List.length a_0 : Nat) : Int) then
 if Ne (α := Int) (rd T61 a_0 i_5).2.2.1 (IntKind.wrap .i64 ((IntKind.wrap .i64 (k_1 + 1)) + 1)) then
 some (-1)
 else if 0 ≤ i_5 then
 if i_5 < ((List.length a_0 : Nat) : Int) then
 (laws_heldIntS k (rd T61 a_0 i_5).2.2.2.1 (IntKind.wrap .i64 ((IntKind.wrap .i64 ((IntKind.wrap .i64 (k_1 + 1)) + 1)) + 1))).bind fun r1 =>
 if (r1 : Int) < 0 then
 some (-1)
 else laws_heldPlayerS.l0 k m a_0 r1 (IntKind.wrap .i64 (i_5 + 1)) else none else none else none else none else none else none else none else none
 else some k_1 := by kernel_rfl
theorem laws_heldIntS_eq (k : Nat) (a_0 : (List Int)) (k_1 : Int) : laws_heldIntS (k + 1) a_0 k_1 =
 laws_heldIntS.l0 k k a_0 k_1 0 := by kernel_rfl
theorem laws_heldIntS.l0_eq (k m : Nat) (a_0 : (List Int)) (k_1 : Int) (i_5 : Int) : laws_heldIntS.l0 k (m + 1) a_0 k_1 i_5 =
 if (i_5 : Int) < ((List.length a_0 : Nat) : Int) then
 if 0 ≤ i_5 then
 if i_5 < ((List.length a_0 : Nat) : Int) then
 if Ne (α := Int) (rd (.int .i64) a_0 i_5) k_1 then
 some (-1)
 else laws_heldIntS.l0 k m a_0 (IntKind.wrap .i64 (k_1 + 1)) (IntKind.wrap .i64 (i_5 + 1)) else none else none
 else some k_1 := by kernel_rfl
theorem laws_heldMarkS_eq (k : Nat) (a_0 : (List DT131)) (k_1 : Int) : laws_heldMarkS (k + 1) a_0 k_1 =
 laws_heldMarkS.l0 k k a_0 k_1 0 := by kernel_rfl
theorem laws_heldMarkS.l0_eq (k m : Nat) (a_0 : (List DT131)) (k_1 : Int) (i_5 : Int) : laws_heldMarkS.l0 k (m + 1) a_0 k_1 i_5 =
 if (i_5 : Int) < ((List.length a_0 : Nat) : Int) then
 if 0 ≤ i_5 then
 if i_5 < ((List.length a_0 : Nat) : Int) then
 if Ne (α := Int) (rd T131 a_0 i_5).1 k_1 then
 some (-1)
 else if 0 ≤ i_5 then
 if i_5 < ((List.length a_0 : Nat) : Int) then
 if Ne (α := Int) (rd T131 a_0 i_5).2.1 (IntKind.wrap .i64 (k_1 + 1)) then
 some (-1)
 else if 0 ≤ i_5 then
 if i_5 < ((List.length a_0 : Nat) : Int) then
 if Ne (α := Int) (rd T131 a_0 i_5).2.2.1 (IntKind.wrap .i64 ((IntKind.wrap .i64 (k_1 + 1)) + 1)) then
 some (-1)
 else if 0 ≤ i_5 then
 if i_5 < ((List.length a_0 : Nat) : Int) then
 if Ne (α := Int) (rd T131 a_0 i_5).2.2.2.1 (IntKind.wrap .i64 ((IntKind.wrap .i64 ((IntKind.wrap .i64 (k_1 + 1)) + 1)) + 1)) then
 some (-1)
 else if 0 ≤ i_5 then
 if i_5 < ((List.length a_0 : Nat) : Int) then
 if Ne (α := Int) (rd T131 a_0 i_5).2.2.2.2.1 (IntKind.wrap .i64 ((IntKind.wrap .i64 ((IntKind.wrap .i64 ((IntKind.wrap .i64 (k_1 + 1)) + 1)) + 1)) + 1)) then
 some (-1)
 else laws_heldMarkS.l0 k m a_0 (IntKind.wrap .i64 ((IntKind.wrap .i64 ((IntKind.wrap .i64 ((IntKind.wrap .i64 ((IntKind.wrap .i64 (k_1 + 1)) + 1)) + 1)) + 1)) + 1)) (IntKind.wrap .i64 (i_5 + 1)) else none else none else none else none else none else none else none else none else none else none
 else some k_1 := by kernel_rfl
theorem laws_heldLetterS_eq (k : Nat) (a_0 : (List DT23)) (k_1 : Int) : laws_heldLetterS (k + 1) a_0 k_1 =
 laws_heldLetterS.l0 k k a_0 k_1 0 := by kernel_rfl
theorem laws_heldLetterS.l0_eq (k m : Nat) (a_0 : (List DT23)) (k_1 : Int) (i_5 : Int) : laws_heldLetterS.l0 k (m + 1) a_0 k_1 i_5 =
 if (i_5 : Int) < ((List.length a_0 : Nat) : Int) then
 if 0 ≤ i_5 then
 if i_5 < ((List.length a_0 : Nat) : Int) then
 if Ne (α := Int) (rd T23 a_0 i_5).1 k_1 then
 some (-1)
 else if 0 ≤ i_5 then
 if i_5 < ((List.length a_0 : Nat) : Int) then
 if Ne (α := Int) (rd T23 a_0 i_5).2.1 (IntKind.wrap .i64 (k_1 + 1)) then
 some (-1)
 else laws_heldLetterS.l0 k m a_0 (IntKind.wrap .i64 ((IntKind.wrap .i64 (k_1 + 1)) + 1)) (IntKind.wrap .i64 (i_5 + 1)) else none else none else none else none
 else some k_1 := by kernel_rfl
theorem laws_szPlayer_eq (k : Nat) (a_0 : DT61) (left_1 : Int) : laws_szPlayer (k + 1) a_0 left_1 =
 (laws_szIntS k a_0.2.2.2.1 left_1).bind fun r1 =>
 if (r1 : Int) < 0 then
 some (-1)
 else some r1 := by kernel_rfl
theorem laws_toEvent_eq (k : Nat) (a_0 : DT49) : laws_toEvent (k + 1) a_0 =
 some a_0 := by kernel_rfl
theorem laws_toTempo_eq (k : Nat) (a_0 : DT23) : laws_toTempo (k + 1) a_0 =
 some a_0 := by kernel_rfl
theorem laws_toPlayer_eq (k : Nat) (a_0 : DT61) : laws_toPlayer (k + 1) a_0 =
 (laws_toIntS k a_0.2.2.2.1).bind fun r1 =>
 some (a_0.1, (a_0.2.1, (a_0.2.2.1, (r1, ())))) := by kernel_rfl
theorem laws_toMark_eq (k : Nat) (a_0 : DT131) : laws_toMark (k + 1) a_0 =
 some a_0 := by kernel_rfl
theorem laws_toLetter_eq (k : Nat) (a_0 : DT23) : laws_toLetter (k + 1) a_0 =
 some a_0 := by kernel_rfl
theorem spec_l29Copy_eq (k : Nat) (l_0 : (List DT61)) : spec_l29Copy (k + 1) l_0 =
 spec_l29Copy.l0 k k l_0 0 [] := by kernel_rfl
theorem spec_l29Copy.l0_eq (k m : Nat) (l_0 : (List DT61)) (i_4 : Int) (s0 : (List DT61)) : spec_l29Copy.l0 k (m + 1) l_0 i_4 s0 =
 if (i_4 : Int) < ((List.length l_0 : Nat) : Int) then
 if 0 ≤ i_4 then
 if i_4 < ((List.length l_0 : Nat) : Int) then
 if (List.length ([] : (List Int)) + List.length (rd T61 l_0 i_4).2.2.2.1) * 8 ≤ 211106232532992 then
 if (List.length s0 + List.length ([((rd T61 l_0 i_4).1, ((rd T61 l_0 i_4).2.1, ((rd T61 l_0 i_4).2.2.1, ((([] : (List Int)) ++ (rd T61 l_0 i_4).2.2.2.1), ()))))] : (List DT61))) * 48 ≤ 211106232532992 then
 spec_l29Copy.l0 k m l_0 (IntKind.wrap .i64 (i_4 + 1)) (s0 ++ ([((rd T61 l_0 i_4).1, ((rd T61 l_0 i_4).2.1, ((rd T61 l_0 i_4).2.2.1, ((([] : (List Int)) ++ (rd T61 l_0 i_4).2.2.2.1), ()))))] : (List DT61))) else none else none else none else none
 else some s0 := by kernel_rfl
theorem spec_ArePlayers_eq (k : Nat) (l_0 : (List DT61)) : spec_ArePlayers (k + 1) l_0 =
 spec_ArePlayers.l0 k k l_0 0 := by kernel_rfl
theorem spec_ArePlayers.l0_eq (k m : Nat) (l_0 : (List DT61)) (i_3 : Int) : spec_ArePlayers.l0 k (m + 1) l_0 i_3 =
 if (i_3 : Int) < ((List.length l_0 : Nat) : Int) then
 if 0 ≤ i_3 then
 if i_3 < ((List.length l_0 : Nat) : Int) then
 (spec_l1In k (rd T61 l_0 i_3).1 1 99).bind fun r1 =>
 if ¬ (r1 = true) then
 some false
 else if LT.lt (α := Int) (rd T61 l_0 i_3).2.1 21 then
 some false
 else if LT.lt (α := Int) (rd T61 l_0 i_3).2.2.1 (rd T61 l_0 i_3).2.1 then
 some false
 else if LT.lt (α := Int) 108 (rd T61 l_0 i_3).2.2.1 then
 some false
 else if (0 : Int) < i_3 then
 if 0 ≤ (IntKind.wrap .i64 (i_3 - 1)) then
 if (IntKind.wrap .i64 (i_3 - 1)) < ((List.length l_0 : Nat) : Int) then
 if LE.le (α := Int) (rd T61 l_0 i_3).1 (rd T61 l_0 (IntKind.wrap .i64 (i_3 - 1))).1 then
 some false
 else spec_ArePlayers.l1 k k m l_0 i_3 0 (rd T61 l_0 i_3).1 (rd T61 l_0 i_3).2.1 (rd T61 l_0 i_3).2.2.1 (rd T61 l_0 i_3).2.2.2.1 else none else none
 else spec_ArePlayers.l1 k k m l_0 i_3 0 (rd T61 l_0 i_3).1 (rd T61 l_0 i_3).2.1 (rd T61 l_0 i_3).2.2.1 (rd T61 l_0 i_3).2.2.2.1 else none else none
 else some (decide ((((List.length l_0 : Nat) : Int) : Int) ≤ 8)) := by kernel_rfl
theorem spec_ArePlayers.l1_eq (k m m1 : Nat) (l_0 : (List DT61)) (i_3 : Int) (k_5 : Int) (b0_0 : Int) (b0_1 : Int) (b0_2 : Int) (b0_3 : (List Int)) : spec_ArePlayers.l1 k (m + 1) m1 l_0 i_3 k_5 b0_0 b0_1 b0_2 b0_3 =
 if (k_5 : Int) < ((List.length b0_3 : Nat) : Int) then
 if 0 ≤ k_5 then
 if k_5 < ((List.length b0_3 : Nat) : Int) then
 (spec_l1In k (rd (.int .i64) b0_3 k_5) 1 4).bind fun r2 =>
 if ¬ (r2 = true) then
 some false
 else if (0 : Int) < k_5 then
 if 0 ≤ (IntKind.wrap .i64 (k_5 - 1)) then
 if (IntKind.wrap .i64 (k_5 - 1)) < ((List.length b0_3 : Nat) : Int) then
 if 0 ≤ k_5 then
 if k_5 < ((List.length b0_3 : Nat) : Int) then
 if LE.le (α := Int) (rd (.int .i64) b0_3 k_5) (rd (.int .i64) b0_3 (IntKind.wrap .i64 (k_5 - 1))) then
 some false
 else spec_ArePlayers.l1 k m m1 l_0 i_3 (IntKind.wrap .i64 (k_5 + 1)) b0_0 b0_1 b0_2 b0_3 else none else none else none else none
 else spec_ArePlayers.l1 k m m1 l_0 i_3 (IntKind.wrap .i64 (k_5 + 1)) b0_0 b0_1 b0_2 b0_3 else none else none
 else spec_ArePlayers.l0 k m1 l_0 (IntKind.wrap .i64 (i_3 + 1)) := by kernel_rfl
theorem spec_IsScore_eq (k : Nat) (l_0 : (List DT49)) : spec_IsScore (k + 1) l_0 =
 spec_IsScore.l0 k k l_0 0 := by kernel_rfl
theorem spec_IsScore.l0_eq (k m : Nat) (l_0 : (List DT49)) (i_3 : Int) : spec_IsScore.l0 k (m + 1) l_0 i_3 =
 if (i_3 : Int) < ((List.length l_0 : Nat) : Int) then
 if 0 ≤ i_3 then
 if i_3 < ((List.length l_0 : Nat) : Int) then
 (spec_l8Ok k (rd T49 l_0 i_3)).bind fun r1 =>
 if ¬ (r1 = true) then
 some false
 else if (0 : Int) < i_3 then
 if 0 ≤ (IntKind.wrap .i64 (i_3 - 1)) then
 if (IntKind.wrap .i64 (i_3 - 1)) < ((List.length l_0 : Nat) : Int) then
 if 0 ≤ i_3 then
 if i_3 < ((List.length l_0 : Nat) : Int) then
 (spec_l8Before k (rd T49 l_0 (IntKind.wrap .i64 (i_3 - 1))) (rd T49 l_0 i_3)).bind fun r2 =>
 if ¬ (r2 = true) then
 some false
 else spec_IsScore.l0 k m l_0 (IntKind.wrap .i64 (i_3 + 1)) else none else none else none else none
 else spec_IsScore.l0 k m l_0 (IntKind.wrap .i64 (i_3 + 1)) else none else none
 else some (decide ((((List.length l_0 : Nat) : Int) : Int) ≤ 40)) := by kernel_rfl
theorem spec_l1In_eq (k : Nat) (x_0 : Int) (least_1 : Int) (most_2 : Int) : spec_l1In (k + 1) x_0 least_1 most_2 =
 if (least_1 : Int) ≤ x_0 then
 some (decide ((x_0 : Int) ≤ most_2))
 else some false := by kernel_rfl
theorem spec_l29Seat_eq (k : Nat) (l_0 : (List DT61)) (score_1 : (List DT49)) (voices_2 : Int) (taken_3 : (List Int)) : spec_l29Seat (k + 1) l_0 score_1 voices_2 taken_3 =
 if (((List.length taken_3 : Nat) : Int) : Int) = voices_2 then
 if (List.length ([] : (List Int)) + List.length taken_3) * 8 ≤ 211106232532992 then
 some ((([] : (List Int)) ++ taken_3), (true, ())) else none
 else spec_l29Seat.l0 k k l_0 score_1 voices_2 taken_3 0 := by kernel_rfl
theorem spec_l29Seat.l0_eq (k m : Nat) (l_0 : (List DT61)) (score_1 : (List DT49)) (voices_2 : Int) (taken_3 : (List Int)) (i_10 : Int) : spec_l29Seat.l0 k (m + 1) l_0 score_1 voices_2 taken_3 i_10 =
 if (i_10 : Int) < ((List.length l_0 : Nat) : Int) then
 if 0 ≤ i_10 then
 if i_10 < ((List.length l_0 : Nat) : Int) then
 (spec_l27Has k taken_3 (rd T61 l_0 i_10).1).bind fun r1 =>
 if r1 = true then
 spec_l29Seat.l0 k m l_0 score_1 voices_2 taken_3 (IntKind.wrap .i64 (i_10 + 1))
 else if 0 ≤ i_10 then
 if i_10 < ((List.length l_0 : Nat) : Int) then
 (spec_CanPlay k (rd T61 l_0 i_10) score_1 (IntKind.wrap .i64 (((List.length taken_3 : Nat) : Int) + 1))).bind fun r2 =>
 if ¬ (r2 = true) then
 spec_l29Seat.l0 k m l_0 score_1 voices_2 taken_3 (IntKind.wrap .i64 (i_10 + 1))
 else if (List.length ([] : (List Int)) + List.length taken_3) * 8 ≤ 211106232532992 then
 if 0 ≤ i_10 then
 if i_10 < ((List.length l_0 : Nat) : Int) then
 if (List.length (([] : (List Int)) ++ taken_3) + List.length ([(rd T61 l_0 i_10).1] : (List Int))) * 8 ≤ 211106232532992 then
 (spec_l29Seat k l_0 score_1 voices_2 ((([] : (List Int)) ++ taken_3) ++ ([(rd T61 l_0 i_10).1] : (List Int)))).bind fun r3 =>
 if r3.2.1 = true then
 some (r3.1, (true, ()))
 else spec_l29Seat.l0 k m l_0 score_1 voices_2 taken_3 (IntKind.wrap .i64 (i_10 + 1)) else none else none else none else none else none else none else none else none
 else some ([], (false, ())) := by kernel_rfl
theorem spec_IsOrchestra_eq (k : Nat) (o_0 : DT30) : spec_IsOrchestra (k + 1) o_0 =
 (spec_IsScore k o_0.1).bind fun r1 =>
 if r1 = true then
 (spec_IsMeter k o_0.2.1).bind fun r2 =>
 if r2 = true then
 (spec_IsTempo k o_0.2.2.1).bind fun r3 =>
 if r3 = true then
 (spec_AreMarks k o_0.2.2.2.2.2.1).bind fun r4 =>
 if r4 = true then
 (spec_AreLetters k o_0.2.2.2.2.2.2.1).bind fun r5 =>
 if r5 = true then
 (spec_IsSeating k o_0.2.2.2.1 o_0.1 o_0.2.2.2.2.1).bind fun r6 =>
 if r6 = true then
 (spec_l1In k o_0.2.2.2.2.2.2.2.1 1 9999).bind fun r7 =>
 if r7 = true then
 (spec_l1In k o_0.2.2.2.2.2.2.2.2.1 0 100000).bind fun r8 =>
 some (decide (r8 = true))
 else some false
 else some false
 else some false
 else some false
 else some false
 else some false
 else some false := by kernel_rfl
theorem impl_Orchestra__copied_eq (k : Nat) (o_0 : DT30) : impl_Orchestra__copied (k + 1) o_0 =
 impl_Orchestra__copied.l0 k k o_0.2.2.2.1 ((List.length o_0.2.2.2.1 : Nat) : Int) 0 o_0.1 o_0.2.1.1 o_0.2.1.2.1 o_0.2.2.1 o_0.2.2.2.1 o_0.2.2.2.2.1 o_0.2.2.2.2.2.1 o_0.2.2.2.2.2.2.1 o_0.2.2.2.2.2.2.2.1 o_0.2.2.2.2.2.2.2.2.1 0 0 0 0 [] := by kernel_rfl
theorem impl_Orchestra__copied.l0_eq (k m : Nat) (t_8 : (List DT61)) (t_9 : Int) (t_10 : Int) (b0_0 : (List DT49)) (b0_1 : Int) (b0_2 : Int) (b0_3 : (List DT23)) (b0_4 : (List DT61)) (b0_5 : (List Int)) (b0_6 : (List DT131)) (b0_7 : (List DT23)) (b0_8 : Int) (b0_9 : Int) (b1_1 : Int) (b1_2 : Int) (b1_8 : Int) (b1_9 : Int) (s2 : (List DT61)) : impl_Orchestra__copied.l0 k (m + 1) t_8 t_9 t_10 b0_0 b0_1 b0_2 b0_3 b0_4 b0_5 b0_6 b0_7 b0_8 b0_9 b1_1 b1_2 b1_8 b1_9 s2 =
 if (t_10 : Int) < t_9 then
 if 0 ≤ t_10 then
 if t_10 < ((List.length t_8 : Nat) : Int) then
 (impl_clonePlayer k (rd T61 t_8 t_10)).bind fun r1 =>
 if (List.length s2 + List.length ([r1] : (List DT61))) * 48 ≤ 211106232532992 then
 impl_Orchestra__copied.l0 k m t_8 t_9 (IntKind.wrap .i64 (t_10 + 1)) b0_0 b0_1 b0_2 b0_3 b0_4 b0_5 b0_6 b0_7 b0_8 b0_9 b1_1 b1_2 b1_8 b1_9 (s2 ++ ([r1] : (List DT61))) else none else none else none
 else (impl_clone_impl_Event k b0_0).bind fun r2 =>
 (impl_clone_impl_Tempo k b0_3).bind fun r3 =>
 (impl_clone_int k b0_5).bind fun r4 =>
 (impl_clone_impl_Mark k b0_6).bind fun r5 =>
 (impl_clone_impl_Letter k b0_7).bind fun r6 =>
 some (r2, ((b0_1, (b0_2, ())), (r3, (s2, (r4, (r5, (r6, (b0_8, (b0_9, ()))))))))) := by kernel_rfl
theorem impl_StepSeat_1_eq (k : Nat) (o_0 : DT30) (a_1 : Int) : impl_StepSeat_1 (k + 1) o_0 a_1 =
 (impl_SeatPlayers k o_0.2.2.2.1 o_0.1 a_1).bind fun r1 =>
 some (decide (r1.2.1 = true), (o_0.1, (o_0.2.1, (o_0.2.2.1, (o_0.2.2.2.1, (r1.1, o_0.2.2.2.2.2)))))) := by kernel_rfl
theorem impl_IsOrchestra_eq (k : Nat) (o_0 : DT30) : impl_IsOrchestra (k + 1) o_0 =
 (impl_IsScore k o_0.1).bind fun r1 =>
 if r1 = true then
 (impl_IsMeter k o_0.2.1).bind fun r2 =>
 if r2 = true then
 (impl_IsTempo k o_0.2.2.1).bind fun r3 =>
 if r3 = true then
 (impl_AreMarks k o_0.2.2.2.2.2.1).bind fun r4 =>
 if r4 = true then
 (impl_AreLetters k o_0.2.2.2.2.2.2.1).bind fun r5 =>
 if r5 = true then
 (impl_IsSeating k o_0.2.2.2.1 o_0.1 o_0.2.2.2.2.1).bind fun r6 =>
 if r6 = true then
 (impl_InRange k o_0.2.2.2.2.2.2.2.1 1 9999).bind fun r7 =>
 if r7 = true then
 (impl_InRange k o_0.2.2.2.2.2.2.2.2.1 0 100000).bind fun r8 =>
 some (decide (r8 = true))
 else some false
 else some false
 else some false
 else some false
 else some false
 else some false
 else some false := by kernel_rfl
theorem laws_eqEvent_eq (k : Nat) (a_0 : DT49) (b_1 : DT49) : laws_eqEvent (k + 1) a_0 b_1 =
 if (a_0.1 : Int) ≠ b_1.1 then
 some false
 else if (a_0.2.1 : Int) ≠ b_1.2.1 then
 some false
 else if (a_0.2.2.1 : Int) ≠ b_1.2.2.1 then
 some false
 else if (a_0.2.2.2.1 : Int) ≠ b_1.2.2.2.1 then
 some false
 else some true := by kernel_rfl
theorem laws_eqTempo_eq (k : Nat) (a_0 : DT23) (b_1 : DT23) : laws_eqTempo (k + 1) a_0 b_1 =
 if (a_0.1 : Int) ≠ b_1.1 then
 some false
 else if (a_0.2.1 : Int) ≠ b_1.2.1 then
 some false
 else some true := by kernel_rfl
theorem laws_eqPlayer_eq (k : Nat) (a_0 : DT61) (b_1 : DT61) : laws_eqPlayer (k + 1) a_0 b_1 =
 if (a_0.1 : Int) ≠ b_1.1 then
 some false
 else if (a_0.2.1 : Int) ≠ b_1.2.1 then
 some false
 else if (a_0.2.2.1 : Int) ≠ b_1.2.2.1 then
 some false
 else (laws_eqIntS k a_0.2.2.2.1 b_1.2.2.2.1).bind fun r1 =>
 if ¬ (r1 = true) then
 some false
 else some true := by kernel_rfl
theorem laws_eqMark_eq (k : Nat) (a_0 : DT131) (b_1 : DT131) : laws_eqMark (k + 1) a_0 b_1 =
 if (a_0.1 : Int) ≠ b_1.1 then
 some false
 else if (a_0.2.1 : Int) ≠ b_1.2.1 then
 some false
 else if (a_0.2.2.1 : Int) ≠ b_1.2.2.1 then
 some false
 else if (a_0.2.2.2.1 : Int) ≠ b_1.2.2.2.1 then
 some false
 else if (a_0.2.2.2.2.1 : Int) ≠ b_1.2.2.2.2.1 then
 some false
 else some true := by kernel_rfl
theorem laws_eqLetter_eq (k : Nat) (a_0 : DT23) (b_1 : DT23) : laws_eqLetter (k + 1) a_0 b_1 =
 if (a_0.1 : Int) ≠ b_1.1 then
 some false
 else if (a_0.2.1 : Int) ≠ b_1.2.1 then
 some false
 else some true := by kernel_rfl
theorem spec_l8Ok_eq (k : Nat) (e_0 : DT49) : spec_l8Ok (k + 1) e_0 =
 (spec_l1In k e_0.1 0 2000).bind fun r1 =>
 if r1 = true then
 (spec_l1In k e_0.2.1 1 96).bind fun r2 =>
 if r2 = true then
 (spec_l1In k e_0.2.2.1 21 108).bind fun r3 =>
 if r3 = true then
 (spec_l1In k e_0.2.2.2.1 1 4).bind fun r4 =>
 some (decide (r4 = true))
 else some false
 else some false
 else some false := by kernel_rfl
theorem spec_l8Before_eq (k : Nat) (a_0 : DT49) (b_1 : DT49) : spec_l8Before (k + 1) a_0 b_1 =
 if (a_0.1 : Int) ≠ b_1.1 then
 some (decide ((a_0.1 : Int) < b_1.1))
 else if (a_0.2.2.2.1 : Int) ≠ b_1.2.2.2.1 then
 some (decide ((a_0.2.2.2.1 : Int) < b_1.2.2.2.1))
 else some (decide ((a_0.2.2.1 : Int) < b_1.2.2.1)) := by kernel_rfl
theorem spec_l27Has_eq (k : Nat) (l_0 : (List Int)) (n_1 : Int) : spec_l27Has (k + 1) l_0 n_1 =
 spec_l27Has.l0 k k l_0 n_1 0 := by kernel_rfl
theorem spec_l27Has.l0_eq (k m : Nat) (l_0 : (List Int)) (n_1 : Int) (i_5 : Int) : spec_l27Has.l0 k (m + 1) l_0 n_1 i_5 =
 if (i_5 : Int) < ((List.length l_0 : Nat) : Int) then
 if 0 ≤ i_5 then
 if i_5 < ((List.length l_0 : Nat) : Int) then
 if Eq (α := Int) (rd (.int .i64) l_0 i_5) n_1 then
 some true
 else spec_l27Has.l0 k m l_0 n_1 (IntKind.wrap .i64 (i_5 + 1)) else none else none
 else some false := by kernel_rfl
theorem spec_CanPlay_eq (k : Nat) (p_0 : DT61) (l_1 : (List DT49)) (voice_2 : Int) : spec_CanPlay (k + 1) p_0 l_1 voice_2 =
 (spec_l27Has k p_0.2.2.2.1 voice_2).bind fun r1 =>
 if r1 = true then
 (spec_IsScore k l_1).bind fun r2 =>
 if r2 = true then
 (spec_VoiceOf k l_1 voice_2).bind fun r3 =>
 (spec_FitsRange k r3 p_0.2.1 p_0.2.2.1).bind fun r4 =>
 some (decide (r4 = true))
 else some false
 else some false := by kernel_rfl
theorem spec_IsMeter_eq (k : Nat) (m_0 : DT23) : spec_IsMeter (k + 1) m_0 =
 (spec_l1In k m_0.1 1 12).bind fun r1 =>
 if r1 = true then
 if (m_0.2.1 : Int) = 1 then
 some true
 else if (m_0.2.1 : Int) = 2 then
 some true
 else if (m_0.2.1 : Int) = 4 then
 some true
 else some (decide ((m_0.2.1 : Int) = 8))
 else some false := by kernel_rfl
theorem spec_IsTempo_eq (k : Nat) (l_0 : (List DT23)) : spec_IsTempo (k + 1) l_0 =
 spec_IsTempo.l0 k k l_0 0 := by kernel_rfl
theorem spec_IsTempo.l0_eq (k m : Nat) (l_0 : (List DT23)) (i_3 : Int) : spec_IsTempo.l0 k (m + 1) l_0 i_3 =
 if (i_3 : Int) < ((List.length l_0 : Nat) : Int) then
 if 0 ≤ i_3 then
 if i_3 < ((List.length l_0 : Nat) : Int) then
 (spec_l1In k (rd T23 l_0 i_3).2.1 20 300).bind fun r1 =>
 if ¬ (r1 = true) then
 some false
 else if 0 ≤ i_3 then
 if i_3 < ((List.length l_0 : Nat) : Int) then
 (spec_l1In k (rd T23 l_0 i_3).1 0 2000).bind fun r2 =>
 if ¬ (r2 = true) then
 some false
 else if (i_3 : Int) = 0 then
 if 0 ≤ i_3 then
 if i_3 < ((List.length l_0 : Nat) : Int) then
 if Ne (α := Int) (rd T23 l_0 i_3).1 0 then
 some false
 else if (0 : Int) < i_3 then
 if 0 ≤ (IntKind.wrap .i64 (i_3 - 1)) then
 if (IntKind.wrap .i64 (i_3 - 1)) < ((List.length l_0 : Nat) : Int) then
 if 0 ≤ i_3 then
 if i_3 < ((List.length l_0 : Nat) : Int) then
 if LE.le (α := Int) (rd T23 l_0 i_3).1 (rd T23 l_0 (IntKind.wrap .i64 (i_3 - 1))).1 then
 some false
 else spec_IsTempo.l0 k m l_0 (IntKind.wrap .i64 (i_3 + 1)) else none else none else none else none
 else spec_IsTempo.l0 k m l_0 (IntKind.wrap .i64 (i_3 + 1)) else none else none
 else if (0 : Int) < i_3 then
 if 0 ≤ (IntKind.wrap .i64 (i_3 - 1)) then
 if (IntKind.wrap .i64 (i_3 - 1)) < ((List.length l_0 : Nat) : Int) then
 if 0 ≤ i_3 then
 if i_3 < ((List.length l_0 : Nat) : Int) then
 if LE.le (α := Int) (rd T23 l_0 i_3).1 (rd T23 l_0 (IntKind.wrap .i64 (i_3 - 1))).1 then
 some false
 else spec_IsTempo.l0 k m l_0 (IntKind.wrap .i64 (i_3 + 1)) else none else none else none else none
 else spec_IsTempo.l0 k m l_0 (IntKind.wrap .i64 (i_3 + 1)) else none else none else none else none
 else (spec_l1In k ((List.length l_0 : Nat) : Int) 1 8).bind fun r3 =>
 some (decide (r3 = true)) := by kernel_rfl
theorem spec_AreMarks_eq (k : Nat) (l_0 : (List DT131)) : spec_AreMarks (k + 1) l_0 =
 spec_AreMarks.l0 k k l_0 0 := by kernel_rfl
theorem spec_AreMarks.l0_eq (k m : Nat) (l_0 : (List DT131)) (i_3 : Int) : spec_AreMarks.l0 k (m + 1) l_0 i_3 =
 if (i_3 : Int) < ((List.length l_0 : Nat) : Int) then
 if 0 ≤ i_3 then
 if i_3 < ((List.length l_0 : Nat) : Int) then
 (spec_l1In k (rd T131 l_0 i_3).1 1 100).bind fun r1 =>
 if ¬ (r1 = true) then
 some false
 else (spec_l1In k (rd T131 l_0 i_3).2.1 1 4).bind fun r2 =>
 if ¬ (r2 = true) then
 some false
 else (spec_l1In k (rd T131 l_0 i_3).2.2.1 0 9).bind fun r3 =>
 if ¬ (r3 = true) then
 some false
 else (spec_l1In k (rd T131 l_0 i_3).2.2.2.1 0 100000).bind fun r4 =>
 if ¬ (r4 = true) then
 some false
 else (spec_l1In k (rd T131 l_0 i_3).2.2.2.2.1 1 99).bind fun r5 =>
 if ¬ (r5 = true) then
 some false
 else if (0 : Int) < i_3 then
 if 0 ≤ (IntKind.wrap .i64 (i_3 - 1)) then
 if (IntKind.wrap .i64 (i_3 - 1)) < ((List.length l_0 : Nat) : Int) then
 (spec_l25Before k (rd T131 l_0 (IntKind.wrap .i64 (i_3 - 1))) (rd T131 l_0 i_3)).bind fun r6 =>
 if ¬ (r6 = true) then
 some false
 else spec_AreMarks.l0 k m l_0 (IntKind.wrap .i64 (i_3 + 1)) else none else none
 else spec_AreMarks.l0 k m l_0 (IntKind.wrap .i64 (i_3 + 1)) else none else none
 else some (decide ((((List.length l_0 : Nat) : Int) : Int) ≤ 30)) := by kernel_rfl
theorem spec_AreLetters_eq (k : Nat) (l_0 : (List DT23)) : spec_AreLetters (k + 1) l_0 =
 spec_AreLetters.l0 k k l_0 0 := by kernel_rfl
theorem spec_AreLetters.l0_eq (k m : Nat) (l_0 : (List DT23)) (i_3 : Int) : spec_AreLetters.l0 k (m + 1) l_0 i_3 =
 if (i_3 : Int) < ((List.length l_0 : Nat) : Int) then
 if 0 ≤ i_3 then
 if i_3 < ((List.length l_0 : Nat) : Int) then
 if Ne (α := Int) (rd T23 l_0 i_3).1 i_3 then
 some false
 else if 0 ≤ i_3 then
 if i_3 < ((List.length l_0 : Nat) : Int) then
 (spec_l1In k (rd T23 l_0 i_3).2.1 1 500).bind fun r1 =>
 if ¬ (r1 = true) then
 some false
 else if (0 : Int) < i_3 then
 if 0 ≤ (IntKind.wrap .i64 (i_3 - 1)) then
 if (IntKind.wrap .i64 (i_3 - 1)) < ((List.length l_0 : Nat) : Int) then
 if 0 ≤ i_3 then
 if i_3 < ((List.length l_0 : Nat) : Int) then
 if LE.le (α := Int) (rd T23 l_0 i_3).2.1 (rd T23 l_0 (IntKind.wrap .i64 (i_3 - 1))).2.1 then
 some false
 else spec_AreLetters.l0 k m l_0 (IntKind.wrap .i64 (i_3 + 1)) else none else none else none else none
 else spec_AreLetters.l0 k m l_0 (IntKind.wrap .i64 (i_3 + 1)) else none else none else none else none
 else some (decide ((((List.length l_0 : Nat) : Int) : Int) ≤ 26)) := by kernel_rfl
theorem spec_IsSeating_eq (k : Nat) (l_0 : (List DT61)) (score_1 : (List DT49)) (seats_2 : (List Int)) : spec_IsSeating (k + 1) l_0 score_1 seats_2 =
 spec_IsSeating.l0 k k l_0 score_1 seats_2 0 := by kernel_rfl
theorem spec_IsSeating.l0_eq (k m : Nat) (l_0 : (List DT61)) (score_1 : (List DT49)) (seats_2 : (List Int)) (i_7 : Int) : spec_IsSeating.l0 k (m + 1) l_0 score_1 seats_2 i_7 =
 if (i_7 : Int) < ((List.length seats_2 : Nat) : Int) then
 spec_IsSeating.l1 k k m l_0 score_1 seats_2 i_7 false 0
 else (spec_ArePlayers k l_0).bind fun r1 =>
 if r1 = true then
 (spec_IsScore k score_1).bind fun r2 =>
 if r2 = true then
 some (decide ((((List.length seats_2 : Nat) : Int) : Int) ≤ 4))
 else some false
 else some false := by kernel_rfl
theorem spec_IsSeating.l1_eq (k m m1 : Nat) (l_0 : (List DT61)) (score_1 : (List DT49)) (seats_2 : (List Int)) (i_7 : Int) (good_8 : Bool) (k_9 : Int) : spec_IsSeating.l1 k (m + 1) m1 l_0 score_1 seats_2 i_7 good_8 k_9 =
 if (k_9 : Int) < ((List.length l_0 : Nat) : Int) then
 if good_8 = true then
 spec_IsSeating.l1 k m m1 l_0 score_1 seats_2 i_7 true (IntKind.wrap .i64 (k_9 + 1))
 else if 0 ≤ k_9 then
 if k_9 < ((List.length l_0 : Nat) : Int) then
 if 0 ≤ i_7 then
 if i_7 < ((List.length seats_2 : Nat) : Int) then
 if Eq (α := Int) (rd T61 l_0 k_9).1 (rd (.int .i64) seats_2 i_7) then
 if 0 ≤ k_9 then
 if k_9 < ((List.length l_0 : Nat) : Int) then
 (spec_CanPlay k (rd T61 l_0 k_9) score_1 (IntKind.wrap .i64 (i_7 + 1))).bind fun r3 =>
 spec_IsSeating.l1 k m m1 l_0 score_1 seats_2 i_7 (decide (r3 = true)) (IntKind.wrap .i64 (k_9 + 1)) else none else none
 else spec_IsSeating.l1 k m m1 l_0 score_1 seats_2 i_7 false (IntKind.wrap .i64 (k_9 + 1)) else none else none else none else none
 else if ¬ (good_8 = true) then
 some false
 else if 0 ≤ i_7 then
 if i_7 ≤ ((List.length seats_2 : Nat) : Int) then
 if 0 ≤ i_7 then
 if i_7 < ((List.length seats_2 : Nat) : Int) then
 (spec_l27Has k (List.take ((Int.toNat i_7) - (Int.toNat 0)) (List.drop (Int.toNat 0) seats_2)) (rd (.int .i64) seats_2 i_7)).bind fun r4 =>
 if r4 = true then
 some false
 else spec_IsSeating.l0 k m1 l_0 score_1 seats_2 (IntKind.wrap .i64 (i_7 + 1)) else none else none else none else none := by kernel_rfl
theorem impl_clonePlayer_eq (k : Nat) (p_0 : DT61) : impl_clonePlayer (k + 1) p_0 =
 (impl_clone_int k p_0.2.2.2.1).bind fun r1 =>
 some (p_0.1, (p_0.2.1, (p_0.2.2.1, (r1, ())))) := by kernel_rfl
theorem impl_clone_impl_Event_eq (k : Nat) (l_0 : (List DT49)) : impl_clone_impl_Event (k + 1) l_0 =
 if (List.length ([] : (List DT49)) + List.length l_0) * 32 ≤ 211106232532992 then
 some (([] : (List DT49)) ++ l_0) else none := by kernel_rfl
theorem impl_clone_impl_Tempo_eq (k : Nat) (l_0 : (List DT23)) : impl_clone_impl_Tempo (k + 1) l_0 =
 if (List.length ([] : (List DT23)) + List.length l_0) * 16 ≤ 211106232532992 then
 some (([] : (List DT23)) ++ l_0) else none := by kernel_rfl
theorem impl_clone_int_eq (k : Nat) (l_0 : (List Int)) : impl_clone_int (k + 1) l_0 =
 if (List.length ([] : (List Int)) + List.length l_0) * 8 ≤ 211106232532992 then
 some (([] : (List Int)) ++ l_0) else none := by kernel_rfl
theorem impl_clone_impl_Mark_eq (k : Nat) (l_0 : (List DT131)) : impl_clone_impl_Mark (k + 1) l_0 =
 if (List.length ([] : (List DT131)) + List.length l_0) * 40 ≤ 211106232532992 then
 some (([] : (List DT131)) ++ l_0) else none := by kernel_rfl
theorem impl_clone_impl_Letter_eq (k : Nat) (l_0 : (List DT23)) : impl_clone_impl_Letter (k + 1) l_0 =
 if (List.length ([] : (List DT23)) + List.length l_0) * 16 ≤ 211106232532992 then
 some (([] : (List DT23)) ++ l_0) else none := by kernel_rfl
theorem impl_SeatPlayers_eq (k : Nat) (l_0 : (List DT61)) (score_1 : (List DT49)) (voices_2 : Int) : impl_SeatPlayers (k + 1) l_0 score_1 voices_2 = (primSeat Go.QSeat.plB Go.QSeat.scB Go.QSeat.canB) (.pair (.list (.int .i64)) (.pair .bool .unit)) [.val (.dlist T61) l_0, .val (.list T49) score_1, .val (.int .i64) voices_2] := by kernel_rfl
theorem impl_IsScore_eq (k : Nat) (l_0 : (List DT49)) : impl_IsScore (k + 1) l_0 =
 impl_IsScore.l0 k k l_0 l_0 ((List.length l_0 : Nat) : Int) 0 := by kernel_rfl
theorem impl_IsScore.l0_eq (k m : Nat) (l_0 : (List DT49)) (t_5 : (List DT49)) (t_6 : Int) (t_7 : Int) : impl_IsScore.l0 k (m + 1) l_0 t_5 t_6 t_7 =
 if (t_7 : Int) < t_6 then
 if 0 ≤ t_7 then
 if t_7 < ((List.length t_5 : Nat) : Int) then
 (impl_InRange k (rd T49 t_5 t_7).1 0 2000).bind fun r1 =>
 if ¬ (r1 = true) then
 some false
 else (impl_InRange k (rd T49 t_5 t_7).2.1 1 96).bind fun r2 =>
 if ¬ (r2 = true) then
 some false
 else (impl_InRange k (rd T49 t_5 t_7).2.2.1 21 108).bind fun r3 =>
 if ¬ (r3 = true) then
 some false
 else (impl_InRange k (rd T49 t_5 t_7).2.2.2.1 1 4).bind fun r4 =>
 if ¬ (r4 = true) then
 some false
 else if (0 : Int) < t_7 then
 if 0 ≤ (IntKind.wrap .i64 (t_7 - 1)) then
 if (IntKind.wrap .i64 (t_7 - 1)) < ((List.length l_0 : Nat) : Int) then
 (impl_eventOrder k (rd T49 l_0 (IntKind.wrap .i64 (t_7 - 1))) (rd T49 t_5 t_7)).bind fun r5 =>
 if (0 : Int) ≤ r5 then
 some false
 else impl_IsScore.l0 k m l_0 t_5 t_6 (IntKind.wrap .i64 (t_7 + 1)) else none else none
 else impl_IsScore.l0 k m l_0 t_5 t_6 (IntKind.wrap .i64 (t_7 + 1)) else none else none
 else some (decide ((((List.length l_0 : Nat) : Int) : Int) ≤ 40)) := by kernel_rfl
theorem impl_IsMeter_eq (k : Nat) (m_0 : DT23) : impl_IsMeter (k + 1) m_0 =
 (impl_InRange k m_0.1 1 12).bind fun r1 =>
 if r1 = true then
 if (m_0.2.1 : Int) = 1 then
 some true
 else if (m_0.2.1 : Int) = 2 then
 some true
 else if (m_0.2.1 : Int) = 4 then
 some true
 else some (decide ((m_0.2.1 : Int) = 8))
 else some false := by kernel_rfl
theorem impl_IsTempo_eq (k : Nat) (l_0 : (List DT23)) : impl_IsTempo (k + 1) l_0 =
 impl_IsTempo.l0 k k l_0 l_0 ((List.length l_0 : Nat) : Int) 0 := by kernel_rfl
theorem impl_IsTempo.l0_eq (k m : Nat) (l_0 : (List DT23)) (t_5 : (List DT23)) (t_6 : Int) (t_7 : Int) : impl_IsTempo.l0 k (m + 1) l_0 t_5 t_6 t_7 =
 if (t_7 : Int) < t_6 then
 if 0 ≤ t_7 then
 if t_7 < ((List.length t_5 : Nat) : Int) then
 if (t_7 : Int) = 0 then
 if Ne (α := Int) (rd T23 t_5 t_7).1 0 then
 some false
 else if (0 : Int) < t_7 then
 if 0 ≤ (IntKind.wrap .i64 (t_7 - 1)) then
 if (IntKind.wrap .i64 (t_7 - 1)) < ((List.length l_0 : Nat) : Int) then
 if LE.le (α := Int) (rd T23 t_5 t_7).1 (rd T23 l_0 (IntKind.wrap .i64 (t_7 - 1))).1 then
 some false
 else if LT.lt (α := Int) 2000 (rd T23 t_5 t_7).1 then
 some false
 else (impl_InRange k (rd T23 t_5 t_7).2.1 20 300).bind fun r1 =>
 if ¬ (r1 = true) then
 some false
 else impl_IsTempo.l0 k m l_0 t_5 t_6 (IntKind.wrap .i64 (t_7 + 1)) else none else none
 else if LT.lt (α := Int) 2000 (rd T23 t_5 t_7).1 then
 some false
 else (impl_InRange k (rd T23 t_5 t_7).2.1 20 300).bind fun r2 =>
 if ¬ (r2 = true) then
 some false
 else impl_IsTempo.l0 k m l_0 t_5 t_6 (IntKind.wrap .i64 (t_7 + 1))
 else if (0 : Int) < t_7 then
 if 0 ≤ (IntKind.wrap .i64 (t_7 - 1)) then
 if (IntKind.wrap .i64 (t_7 - 1)) < ((List.length l_0 : Nat) : Int) then
 if LE.le (α := Int) (rd T23 t_5 t_7).1 (rd T23 l_0 (IntKind.wrap .i64 (t_7 - 1))).1 then
 some false
 else if LT.lt (α := Int) 2000 (rd T23 t_5 t_7).1 then
 some false
 else (impl_InRange k (rd T23 t_5 t_7).2.1 20 300).bind fun r3 =>
 if ¬ (r3 = true) then
 some false
 else impl_IsTempo.l0 k m l_0 t_5 t_6 (IntKind.wrap .i64 (t_7 + 1)) else none else none
 else if LT.lt (α := Int) 2000 (rd T23 t_5 t_7).1 then
 some false
 else (impl_InRange k (rd T23 t_5 t_7).2.1 20 300).bind fun r4 =>
 if ¬ (r4 = true) then
 some false
 else impl_IsTempo.l0 k m l_0 t_5 t_6 (IntKind.wrap .i64 (t_7 + 1)) else none else none
 else (impl_InRange k ((List.length l_0 : Nat) : Int) 1 8).bind fun r5 =>
 some (decide (r5 = true)) := by kernel_rfl
theorem impl_AreMarks_eq (k : Nat) (l_0 : (List DT131)) : impl_AreMarks (k + 1) l_0 =
 impl_AreMarks.l0 k k l_0 l_0 ((List.length l_0 : Nat) : Int) 0 := by kernel_rfl
theorem impl_AreMarks.l0_eq (k m : Nat) (l_0 : (List DT131)) (t_5 : (List DT131)) (t_6 : Int) (t_7 : Int) : impl_AreMarks.l0 k (m + 1) l_0 t_5 t_6 t_7 =
 if (t_7 : Int) < t_6 then
 if 0 ≤ t_7 then
 if t_7 < ((List.length t_5 : Nat) : Int) then
 (impl_InRange k (rd T131 t_5 t_7).1 1 100).bind fun r1 =>
 if ¬ (r1 = true) then
 some false
 else (impl_InRange k (rd T131 t_5 t_7).2.1 1 4).bind fun r2 =>
 if ¬ (r2 = true) then
 some false
 else (impl_InRange k (rd T131 t_5 t_7).2.2.1 0 9).bind fun r3 =>
 if ¬ (r3 = true) then
 some false
 else (impl_InRange k (rd T131 t_5 t_7).2.2.2.1 0 100000).bind fun r4 =>
 if ¬ (r4 = true) then
 some false
 else (impl_InRange k (rd T131 t_5 t_7).2.2.2.2.1 1 99).bind fun r5 =>
 if ¬ (r5 = true) then
 some false
 else if (0 : Int) < t_7 then
 if 0 ≤ (IntKind.wrap .i64 (t_7 - 1)) then
 if (IntKind.wrap .i64 (t_7 - 1)) < ((List.length l_0 : Nat) : Int) then
 (impl_markOrder k (rd T131 l_0 (IntKind.wrap .i64 (t_7 - 1))) (rd T131 t_5 t_7)).bind fun r6 =>
 if (0 : Int) ≤ r6 then
 some false
 else impl_AreMarks.l0 k m l_0 t_5 t_6 (IntKind.wrap .i64 (t_7 + 1)) else none else none
 else impl_AreMarks.l0 k m l_0 t_5 t_6 (IntKind.wrap .i64 (t_7 + 1)) else none else none
 else some (decide ((((List.length l_0 : Nat) : Int) : Int) ≤ 30)) := by kernel_rfl
theorem impl_AreLetters_eq (k : Nat) (l_0 : (List DT23)) : impl_AreLetters (k + 1) l_0 =
 impl_AreLetters.l0 k k l_0 l_0 ((List.length l_0 : Nat) : Int) 0 := by kernel_rfl
theorem impl_AreLetters.l0_eq (k m : Nat) (l_0 : (List DT23)) (t_5 : (List DT23)) (t_6 : Int) (t_7 : Int) : impl_AreLetters.l0 k (m + 1) l_0 t_5 t_6 t_7 =
 if (t_7 : Int) < t_6 then
 if 0 ≤ t_7 then
 if t_7 < ((List.length t_5 : Nat) : Int) then
 if Ne (α := Int) (rd T23 t_5 t_7).1 t_7 then
 some false
 else (impl_InRange k (rd T23 t_5 t_7).2.1 1 500).bind fun r1 =>
 if ¬ (r1 = true) then
 some false
 else if (0 : Int) < t_7 then
 if 0 ≤ (IntKind.wrap .i64 (t_7 - 1)) then
 if (IntKind.wrap .i64 (t_7 - 1)) < ((List.length l_0 : Nat) : Int) then
 if LE.le (α := Int) (rd T23 t_5 t_7).2.1 (rd T23 l_0 (IntKind.wrap .i64 (t_7 - 1))).2.1 then
 some false
 else impl_AreLetters.l0 k m l_0 t_5 t_6 (IntKind.wrap .i64 (t_7 + 1)) else none else none
 else impl_AreLetters.l0 k m l_0 t_5 t_6 (IntKind.wrap .i64 (t_7 + 1)) else none else none
 else some (decide ((((List.length l_0 : Nat) : Int) : Int) ≤ 26)) := by kernel_rfl
theorem impl_IsSeating_eq (k : Nat) (l_0 : (List DT61)) (score_1 : (List DT49)) (seats_2 : (List Int)) : impl_IsSeating (k + 1) l_0 score_1 seats_2 =
 (impl_ArePlayers k l_0).bind fun r1 =>
 if ¬ (r1 = true) then
 some false
 else (impl_IsScore k score_1).bind fun r2 =>
 if ¬ (r2 = true) then
 some false
 else if (4 : Int) < ((List.length seats_2 : Nat) : Int) then
 some false
 else impl_IsSeating.l0 k k l_0 seats_2 seats_2 ((List.length seats_2 : Nat) : Int) 0 score_1 := by kernel_rfl
theorem impl_IsSeating.l0_eq (k m : Nat) (l_0 : (List DT61)) (seats_2 : (List Int)) (t_22 : (List Int)) (t_23 : Int) (t_24 : Int) (b0_0 : (List DT49)) : impl_IsSeating.l0 k (m + 1) l_0 seats_2 t_22 t_23 t_24 b0_0 =
 if (t_24 : Int) < t_23 then
 if 0 ≤ t_24 then
 if t_24 < ((List.length t_22 : Nat) : Int) then
 if 0 ≤ t_24 then
 if t_24 ≤ ((List.length seats_2 : Nat) : Int) then
 (slices_Contains___int_int k (List.take ((Int.toNat t_24) - (Int.toNat 0)) (List.drop (Int.toNat 0) seats_2)) (rd (.int .i64) t_22 t_24)).bind fun r3 =>
 if r3 = true then
 some false
 else (slices_ContainsFunc_impl_Player_159 k l_0 (rd (.int .i64) t_22 t_24) b0_0 t_24).bind fun r4 =>
 if ¬ (r4 = true) then
 some false
 else impl_IsSeating.l0 k m l_0 seats_2 t_22 t_23 (IntKind.wrap .i64 (t_24 + 1)) b0_0 else none else none else none else none
 else some true := by kernel_rfl
theorem impl_InRange_eq (k : Nat) (n_0 : Int) (low_1 : Int) (high_2 : Int) : impl_InRange (k + 1) n_0 low_1 high_2 =
 if (low_1 : Int) ≤ n_0 then
 some (decide ((n_0 : Int) ≤ high_2))
 else some false := by kernel_rfl
theorem spec_VoiceOf_eq (k : Nat) (l_0 : (List DT49)) (voice_1 : Int) : spec_VoiceOf (k + 1) l_0 voice_1 =
 spec_VoiceOf.l0 k k l_0 voice_1 0 [] := by kernel_rfl
theorem spec_VoiceOf.l0_eq (k m : Nat) (l_0 : (List DT49)) (voice_1 : Int) (i_6 : Int) (s0 : (List DT49)) : spec_VoiceOf.l0 k (m + 1) l_0 voice_1 i_6 s0 =
 if (i_6 : Int) < ((List.length l_0 : Nat) : Int) then
 if 0 ≤ i_6 then
 if i_6 < ((List.length l_0 : Nat) : Int) then
 if Eq (α := Int) (rd T49 l_0 i_6).2.2.2.1 voice_1 then
 if 0 ≤ i_6 then
 if i_6 < ((List.length l_0 : Nat) : Int) then
 if (List.length s0 + List.length ([(rd T49 l_0 i_6)] : (List DT49))) * 32 ≤ 211106232532992 then
 spec_VoiceOf.l0 k m l_0 voice_1 (IntKind.wrap .i64 (i_6 + 1)) (s0 ++ ([(rd T49 l_0 i_6)] : (List DT49))) else none else none else none
 else spec_VoiceOf.l0 k m l_0 voice_1 (IntKind.wrap .i64 (i_6 + 1)) s0 else none else none
 else some s0 := by kernel_rfl
theorem spec_FitsRange_eq (k : Nat) (l_0 : (List DT49)) (low_1 : Int) (high_2 : Int) : spec_FitsRange (k + 1) l_0 low_1 high_2 =
 spec_FitsRange.l0 k k l_0 low_1 high_2 0 := by kernel_rfl
theorem spec_FitsRange.l0_eq (k m : Nat) (l_0 : (List DT49)) (low_1 : Int) (high_2 : Int) (i_7 : Int) : spec_FitsRange.l0 k (m + 1) l_0 low_1 high_2 i_7 =
 if (i_7 : Int) < ((List.length l_0 : Nat) : Int) then
 if 0 ≤ i_7 then
 if i_7 < ((List.length l_0 : Nat) : Int) then
 (spec_l1In k (rd T49 l_0 i_7).2.2.1 low_1 high_2).bind fun r1 =>
 if ¬ (r1 = true) then
 some false
 else spec_FitsRange.l0 k m l_0 low_1 high_2 (IntKind.wrap .i64 (i_7 + 1)) else none else none
 else (spec_IsScore k l_0).bind fun r2 =>
 some (decide (r2 = true)) := by kernel_rfl
theorem spec_l25Before_eq (k : Nat) (a_0 : DT131) (b_1 : DT131) : spec_l25Before (k + 1) a_0 b_1 =
 if (a_0.1 : Int) < b_1.1 then
 some true
 else if (a_0.1 : Int) = b_1.1 then
 some (decide ((a_0.2.1 : Int) < b_1.2.1))
 else some false := by kernel_rfl
theorem impl_eventOrder_eq (k : Nat) (a_0 : DT49) (b_1 : DT49) : impl_eventOrder (k + 1) a_0 b_1 =
 (cmp_Compare_int k a_0.1 b_1.1).bind fun r1 =>
 (cmp_Compare_int k a_0.2.2.2.1 b_1.2.2.2.1).bind fun r2 =>
 (cmp_Compare_int k a_0.2.2.1 b_1.2.2.1).bind fun r3 =>
 (cmp_Or_int k ([r1, r2, r3])).bind fun r4 =>
 some r4 := by kernel_rfl
theorem impl_markOrder_eq (k : Nat) (a_0 : DT131) (b_1 : DT131) : impl_markOrder (k + 1) a_0 b_1 =
 (cmp_Compare_int k a_0.1 b_1.1).bind fun r1 =>
 (cmp_Compare_int k a_0.2.1 b_1.2.1).bind fun r2 =>
 (cmp_Or_int k ([r1, r2])).bind fun r3 =>
 some r3 := by kernel_rfl
theorem impl_ArePlayers_eq (k : Nat) (l_0 : (List DT61)) : impl_ArePlayers (k + 1) l_0 =
 impl_ArePlayers.l0 k k l_0 l_0 ((List.length l_0 : Nat) : Int) 0 [] := by kernel_rfl
theorem impl_ArePlayers.l0_eq (k m : Nat) (l_0 : (List DT61)) (t_7 : (List DT61)) (t_8 : Int) (t_9 : Int) (s0 : (List Int)) : impl_ArePlayers.l0 k (m + 1) l_0 t_7 t_8 t_9 s0 =
 if (t_9 : Int) < t_8 then
 if 0 ≤ t_9 then
 if t_9 < ((List.length t_7 : Nat) : Int) then
 (impl_InRange k (rd T61 t_7 t_9).2.1 21 (rd T61 t_7 t_9).2.2.1).bind fun r1 =>
 if ¬ (r1 = true) then
 some false
 else if LT.lt (α := Int) 108 (rd T61 t_7 t_9).2.2.1 then
 some false
 else (impl_ascending k (rd T61 t_7 t_9).2.2.2.1 1 4).bind fun r2 =>
 if ¬ (r2 = true) then
 some false
 else if (List.length s0 + List.length ([(rd T61 t_7 t_9).1] : (List Int))) * 8 ≤ 211106232532992 then
 impl_ArePlayers.l0 k m l_0 t_7 t_8 (IntKind.wrap .i64 (t_9 + 1)) (s0 ++ ([(rd T61 t_7 t_9).1] : (List Int))) else none else none else none
 else if (((List.length l_0 : Nat) : Int) : Int) ≤ 8 then
 (impl_ascending k s0 1 99).bind fun r3 =>
 some (decide (r3 = true))
 else some false := by kernel_rfl
theorem slices_Contains___int_int_eq (k : Nat) (s_0 : (List Int)) (v_1 : Int) : slices_Contains___int_int (k + 1) s_0 v_1 =
 (slices_Index___int_int k s_0 v_1).bind fun r1 =>
 some (decide ((0 : Int) ≤ r1)) := by kernel_rfl
theorem slices_ContainsFunc_impl_Player_159_eq (k : Nat) (s_0 : (List DT61)) (c1_0 : Int) (c1_1 : (List DT49)) (c1_2 : Int) : slices_ContainsFunc_impl_Player_159 (k + 1) s_0 c1_0 c1_1 c1_2 =
 (slices_IndexFunc_impl_Player_159 k s_0 c1_0 c1_1 c1_2).bind fun r1 =>
 some (decide ((0 : Int) ≤ r1)) := by kernel_rfl
theorem cmp_Compare_int_eq (k : Nat) (x_0 : Int) (y_1 : Int) : cmp_Compare_int (k + 1) x_0 y_1 =
 (cmp_isNaN_int k x_0).bind fun r1 =>
 (cmp_isNaN_int k y_1).bind fun r2 =>
 if r1 = true then
 if r2 = true then
 some 0
 else some (-1)
 else if r2 = true then
 some 1
 else if (x_0 : Int) < y_1 then
 some (-1)
 else if (y_1 : Int) < x_0 then
 some 1
 else some 0 := by kernel_rfl
theorem cmp_Or_int_eq (k : Nat) (vals_0 : (List Int)) : cmp_Or_int (k + 1) vals_0 =
 cmp_Or_int.l0 k k 0 vals_0 ((List.length vals_0 : Nat) : Int) 0 := by kernel_rfl
theorem cmp_Or_int.l0_eq (k m : Nat) (zero_3 : Int) (t_6 : (List Int)) (t_7 : Int) (t_8 : Int) : cmp_Or_int.l0 k (m + 1) zero_3 t_6 t_7 t_8 =
 if (t_8 : Int) < t_7 then
 if 0 ≤ t_8 then
 if t_8 < ((List.length t_6 : Nat) : Int) then
 if Ne (α := Int) (rd (.int .i64) t_6 t_8) zero_3 then
 some (rd (.int .i64) t_6 t_8)
 else cmp_Or_int.l0 k m zero_3 t_6 t_7 (IntKind.wrap .i64 (t_8 + 1)) else none else none
 else some zero_3 := by kernel_rfl
theorem impl_ascending_eq (k : Nat) (l_0 : (List Int)) (low_1 : Int) (high_2 : Int) : impl_ascending (k + 1) l_0 low_1 high_2 =
 impl_ascending.l0 k k l_0 low_1 high_2 l_0 ((List.length l_0 : Nat) : Int) 0 := by kernel_rfl
theorem impl_ascending.l0_eq (k m : Nat) (l_0 : (List Int)) (low_1 : Int) (high_2 : Int) (t_9 : (List Int)) (t_10 : Int) (t_11 : Int) : impl_ascending.l0 k (m + 1) l_0 low_1 high_2 t_9 t_10 t_11 =
 if (t_11 : Int) < t_10 then
 if 0 ≤ t_11 then
 if t_11 < ((List.length t_9 : Nat) : Int) then
 (impl_InRange k (rd (.int .i64) t_9 t_11) low_1 high_2).bind fun r1 =>
 if ¬ (r1 = true) then
 some false
 else if (0 : Int) < t_11 then
 if 0 ≤ (IntKind.wrap .i64 (t_11 - 1)) then
 if (IntKind.wrap .i64 (t_11 - 1)) < ((List.length l_0 : Nat) : Int) then
 if LE.le (α := Int) (rd (.int .i64) t_9 t_11) (rd (.int .i64) l_0 (IntKind.wrap .i64 (t_11 - 1))) then
 some false
 else impl_ascending.l0 k m l_0 low_1 high_2 t_9 t_10 (IntKind.wrap .i64 (t_11 + 1)) else none else none
 else impl_ascending.l0 k m l_0 low_1 high_2 t_9 t_10 (IntKind.wrap .i64 (t_11 + 1)) else none else none
 else some true := by kernel_rfl
theorem slices_Index___int_int_eq (k : Nat) (s_0 : (List Int)) (v_1 : Int) : slices_Index___int_int (k + 1) s_0 v_1 =
 slices_Index___int_int.l0 k k s_0 v_1 ((List.length s_0 : Nat) : Int) 0 := by kernel_rfl
theorem slices_Index___int_int.l0_eq (k m : Nat) (s_0 : (List Int)) (v_1 : Int) (t_7 : Int) (t_8 : Int) : slices_Index___int_int.l0 k (m + 1) s_0 v_1 t_7 t_8 =
 if (t_8 : Int) < t_7 then
 if 0 ≤ t_8 then
 if t_8 < ((List.length s_0 : Nat) : Int) then
 if Eq (α := Int) v_1 (rd (.int .i64) s_0 t_8) then
 some t_8
 else slices_Index___int_int.l0 k m s_0 v_1 t_7 (IntKind.wrap .i64 (t_8 + 1)) else none else none
 else some (-1) := by kernel_rfl
theorem slices_IndexFunc_impl_Player_159_eq (k : Nat) (s_0 : (List DT61)) (c1_0 : Int) (c1_1 : (List DT49)) (c1_2 : Int) : slices_IndexFunc_impl_Player_159 (k + 1) s_0 c1_0 c1_1 c1_2 =
 slices_IndexFunc_impl_Player_159.l0 k k s_0 c1_0 c1_1 c1_2 ((List.length s_0 : Nat) : Int) 0 := by kernel_rfl
theorem slices_IndexFunc_impl_Player_159.l0_eq (k m : Nat) (s_0 : (List DT61)) (f_1_c : Int) (f_1_c_1 : (List DT49)) (f_1_c_2 : Int) (t_7 : Int) (t_8 : Int) : slices_IndexFunc_impl_Player_159.l0 k (m + 1) s_0 f_1_c f_1_c_1 f_1_c_2 t_7 t_8 =
 if (t_8 : Int) < t_7 then
 if 0 ≤ t_8 then
 if t_8 < ((List.length s_0 : Nat) : Int) then
 (impl_IsSeating_1 k (rd T61 s_0 t_8) f_1_c f_1_c_1 f_1_c_2).bind fun r1 =>
 if r1 = true then
 some t_8
 else slices_IndexFunc_impl_Player_159.l0 k m s_0 f_1_c f_1_c_1 f_1_c_2 t_7 (IntKind.wrap .i64 (t_8 + 1)) else none else none
 else some (-1) := by kernel_rfl
theorem cmp_isNaN_int_eq (k : Nat) (x_0 : Int) : cmp_isNaN_int (k + 1) x_0 =
 some (decide ((x_0 : Int) ≠ x_0)) := by kernel_rfl
theorem impl_IsSeating_1_eq (k : Nat) (p_0 : DT61) (a_1 : Int) (a_2 : (List DT49)) (a_3 : Int) : impl_IsSeating_1 (k + 1) p_0 a_1 a_2 a_3 =
 if (p_0.1 : Int) = a_1 then
 (impl_CanPlay k p_0 a_2 (IntKind.wrap .i64 (a_3 + 1))).bind fun r1 =>
 some (decide (r1 = true))
 else some false := by kernel_rfl
theorem impl_CanPlay_eq (k : Nat) (p_0 : DT61) (l_1 : (List DT49)) (voice_2 : Int) : impl_CanPlay (k + 1) p_0 l_1 voice_2 =
 (slices_Contains___int_int k p_0.2.2.2.1 voice_2).bind fun r1 =>
 if r1 = true then
 (impl_IsScore k l_1).bind fun r2 =>
 if r2 = true then
 (impl_VoiceOf k l_1 voice_2).bind fun r3 =>
 (impl_FitsRange k r3 p_0.2.1 p_0.2.2.1).bind fun r4 =>
 some (decide (r4 = true))
 else some false
 else some false := by kernel_rfl
theorem impl_VoiceOf_eq (k : Nat) (l_0 : (List DT49)) (voice_1 : Int) : impl_VoiceOf (k + 1) l_0 voice_1 =
 (impl_clone_impl_Event k l_0).bind fun r1 =>
 (slices_DeleteFunc_impl_Event_198 k r1 voice_1).bind fun r2 =>
 some r2 := by kernel_rfl
theorem impl_FitsRange_eq (k : Nat) (l_0 : (List DT49)) (low_1 : Int) (high_2 : Int) : impl_FitsRange (k + 1) l_0 low_1 high_2 =
 impl_FitsRange.l0 k k l_0 low_1 high_2 l_0 ((List.length l_0 : Nat) : Int) 0 := by kernel_rfl
theorem impl_FitsRange.l0_eq (k m : Nat) (l_0 : (List DT49)) (low_1 : Int) (high_2 : Int) (t_9 : (List DT49)) (t_10 : Int) (t_11 : Int) : impl_FitsRange.l0 k (m + 1) l_0 low_1 high_2 t_9 t_10 t_11 =
 if (t_11 : Int) < t_10 then
 if 0 ≤ t_11 then
 if t_11 < ((List.length t_9 : Nat) : Int) then
 (impl_InRange k (rd T49 t_9 t_11).2.2.1 low_1 high_2).bind fun r1 =>
 if ¬ (r1 = true) then
 some false
 else impl_FitsRange.l0 k m l_0 low_1 high_2 t_9 t_10 (IntKind.wrap .i64 (t_11 + 1)) else none else none
 else (impl_IsScore k l_0).bind fun r2 =>
 some (decide (r2 = true)) := by kernel_rfl
theorem slices_DeleteFunc_impl_Event_198_eq (k : Nat) (s_0 : (List DT49)) (c1_0 : Int) : slices_DeleteFunc_impl_Event_198 (k + 1) s_0 c1_0 =
 (slices_IndexFunc_impl_Event_198 k s_0 c1_0).bind fun r1 =>
 if (r1 : Int) = (-1) then
 some s_0
 else slices_DeleteFunc_impl_Event_198.l0 k k c1_0 r1 (IntKind.wrap .i64 (r1 + 1)) s_0 := by kernel_rfl
theorem slices_DeleteFunc_impl_Event_198.l0_eq (k m : Nat) (del_1_c : Int) (i_5 : Int) (j_6 : Int) (s0 : (List DT49)) : slices_DeleteFunc_impl_Event_198.l0 k (m + 1) del_1_c i_5 j_6 s0 =
 if (j_6 : Int) < ((List.length s0 : Nat) : Int) then
 if 0 ≤ j_6 then
 if j_6 < ((List.length s0 : Nat) : Int) then
 (impl_VoiceOf_1 k (rd T49 s0 j_6) del_1_c).bind fun r2 =>
 if ¬ (r2 = true) then
 if 0 ≤ i_5 then
 if i_5 < ((List.length s0 : Nat) : Int) then
 slices_DeleteFunc_impl_Event_198.l0 k m del_1_c (IntKind.wrap .i64 (i_5 + 1)) (IntKind.wrap .i64 (j_6 + 1)) (List.set s0 (Int.toNat i_5) (rd T49 s0 j_6)) else none else none
 else slices_DeleteFunc_impl_Event_198.l0 k m del_1_c i_5 (IntKind.wrap .i64 (j_6 + 1)) s0 else none else none
 else if 0 ≤ i_5 then
 if i_5 ≤ ((List.length s0 : Nat) : Int) then
 if 0 ≤ i_5 then
 if i_5 ≤ ((List.length (List.take (Int.toNat i_5) s0 ++ List.replicate ((Int.toNat ((List.length s0 : Nat) : Int)) - (Int.toNat i_5)) (Ty.dflt T49) ++ List.drop ((Int.toNat i_5) + ((Int.toNat ((List.length s0 : Nat) : Int)) - (Int.toNat i_5))) s0) : Nat) : Int) then
 some (List.take ((Int.toNat i_5) - (Int.toNat 0)) (List.drop (Int.toNat 0) (List.take (Int.toNat i_5) s0 ++ List.replicate ((Int.toNat ((List.length s0 : Nat) : Int)) - (Int.toNat i_5)) (Ty.dflt T49) ++ List.drop ((Int.toNat i_5) + ((Int.toNat ((List.length s0 : Nat) : Int)) - (Int.toNat i_5))) s0))) else none else none else none else none := by kernel_rfl
theorem slices_IndexFunc_impl_Event_198_eq (k : Nat) (s_0 : (List DT49)) (c1_0 : Int) : slices_IndexFunc_impl_Event_198 (k + 1) s_0 c1_0 =
 slices_IndexFunc_impl_Event_198.l0 k k s_0 c1_0 ((List.length s_0 : Nat) : Int) 0 := by kernel_rfl
theorem slices_IndexFunc_impl_Event_198.l0_eq (k m : Nat) (s_0 : (List DT49)) (f_1_c : Int) (t_7 : Int) (t_8 : Int) : slices_IndexFunc_impl_Event_198.l0 k (m + 1) s_0 f_1_c t_7 t_8 =
 if (t_8 : Int) < t_7 then
 if 0 ≤ t_8 then
 if t_8 < ((List.length s_0 : Nat) : Int) then
 (impl_VoiceOf_1 k (rd T49 s_0 t_8) f_1_c).bind fun r1 =>
 if r1 = true then
 some t_8
 else slices_IndexFunc_impl_Event_198.l0 k m s_0 f_1_c t_7 (IntKind.wrap .i64 (t_8 + 1)) else none else none
 else some (-1) := by kernel_rfl
theorem impl_VoiceOf_1_eq (k : Nat) (e_0 : DT49) (a_1 : Int) : impl_VoiceOf_1 (k + 1) e_0 a_1 =
 some (decide ((e_0.2.2.2.1 : Int) ≠ a_1)) := by kernel_rfl
end Go.QFnExactStepSeat
