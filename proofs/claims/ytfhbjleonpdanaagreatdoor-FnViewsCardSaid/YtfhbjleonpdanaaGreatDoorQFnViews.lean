/- The functions that the law FnViews reaches, as equations; printed by pe.py. No condition. -/
import Derived.Test.YtfhbjleonpdanaaGreatDoorPrim
import Derived.Test.YtfhbjleonpdanaaGreatDoorProg
import Derived.KernelRfl
set_option linter.unusedVariables false
open Go Go.Flat
namespace Go.QFnViews
abbrev T31 : Ty := .pair (.int .i64) (.pair (.int .i64) .unit)
abbrev DT31 := Int × (Int × Unit)
abbrev T50 : Ty := .pair (.int .i64) T31
abbrev DT50 := Int × DT31
abbrev T45 : Ty := .pair (.int .i64) T50
abbrev DT45 := Int × DT50
abbrev T126 : Ty := .pair (.int .i64) (.pair (.int .i64) (.pair (.int .i64) (.pair (.list (.int .i64)) .unit)))
abbrev DT126 := Int × (Int × (Int × ((List Int) × Unit)))
abbrev T128 : Ty := .pair (.int .i64) T45
abbrev DT128 := Int × DT45
abbrev T38 : Ty := .pair (.list T45) (.pair T31 (.pair (.list T31) (.pair (.dlist T126) (.pair (.list (.int .i64)) (.pair (.list T128) (.pair (.list T31) T31))))))
abbrev DT38 := (List DT45) × (DT31 × ((List DT31) × ((List DT126) × ((List Int) × ((List DT128) × ((List DT31) × DT31))))))
abbrev T82 : Ty := .pair (.list (.int .u8)) T31
abbrev DT82 := (List Int) × DT31
noncomputable def C : Cfg := {
  P := Go.Proofs.Tryz.prog,
  tt := [(1, none), (2, some (.int .i64)), (3, some (.int .i64)), (4, some .bool), (5, some (.int .u8)), (6, some (.int .u8)), (9, some .str), (10, some .str), (11, some .str), (12, some (.int .u64)), (15, none), (16, none), (17, none), (21, some (.int .i32)), (22, some (.list (.int .u8))), (23, none), (24, some (.list T45)), (25, none), (26, none), (27, some (.list T50)), (28, none), (29, none), (30, none), (31, some T31), (32, some T31), (33, some (.list T31)), (34, some (.dlist T126)), (35, some (.list (.int .i64))), (36, some (.list T128)), (37, some (.list T31)), (38, some T38), (39, some T38), (40, none), (41, none), (42, none), (43, none), (44, none), (45, some T45), (46, some T45), (47, none), (48, none), (49, none), (50, some T50), (51, some T50), (52, none), (53, none), (54, none), (55, some (.list T31)), (56, none), (57, some T31), (58, some T31), (59, none), (60, some (.list T31)), (61, none), (62, some T31), (63, some T31), (64, none), (65, some (.list .str)), (66, none), (67, none), (68, none), (69, none), (70, none), (71, none), (72, none), (73, none), (74, none), (75, some T50), (76, some T50), (78, none), (79, none), (80, none), (81, none), (82, some T82), (83, some T82), (84, none), (85, none), (88, none), (92, none), (93, none), (94, none), (96, none), (97, none), (98, none), (99, none), (100, none), (101, none), (102, none), (103, none), (104, none), (105, none), (106, none), (107, none), (109, none), (110, none), (111, none), (112, none), (113, none), (114, none), (115, some (.int .u64)), (117, none), (118, none), (119, none), (121, none), (123, none), (124, some T31), (125, some T31), (126, some T126), (127, some T126), (128, some T128), (129, some T128), (130, some T31), (131, some T31), (132, none), (134, none), (135, none), (136, none), (137, none), (139, some (.int .u32)), (141, none), (142, some (.int .u64)), (144, none), (146, none), (147, none), (149, none), (150, none), (151, none), (152, none), (153, none), (154, none), (155, none), (156, none), (159, none), (160, none), (161, none), (162, none), (163, none), (164, none), (165, none), (166, none), (167, none), (168, none), (169, none), (170, none), (171, none), (179, some (.int .u8)), (180, some (.int .u8)), (181, none), (182, some (.int .i32)), (183, some (.int .i32)), (186, none)],
  vars := [(3, [0, 3, 4, 5, 6, 7, 8, 9, 10, 11, 12, 13]), (17, [1, 5, 12, 13, 14]), (19, [1, 5, 12, 13, 14]), (24, [1, 5, 12, 13, 14]), (25, [1, 5, 12, 13, 14]), (27, [1, 5, 12, 13, 14]), (30, [0, 3, 4]), (35, [0, 1, 5, 8, 39, 40, 41, 63, 64, 65]), (37, [1, 2, 4]), (43, [0, 3, 4]), (47, [0, 1, 7, 8, 9]), (48, [0, 2, 8, 9, 10, 11]), (49, [0, 3, 4]), (51, [0, 2, 4, 5, 6]), (55, [7, 8, 9]), (67, [0, 1, 5, 6]), (68, [0, 3]), (77, [0, 3, 4]), (78, [0, 3, 4, 5]), (79, [0, 3, 4, 5]), (80, [0, 3, 4]), (81, [0, 3, 4, 5]), (83, [0, 3, 4, 5, 6]), (84, [0, 3, 5]), (100, [0, 3, 4, 5]), (102, [0, 1, 2, 3, 10]), (108, [0, 3, 4]), (110, [0, 3]), (111, [0, 3]), (112, [0, 3]), (113, [0, 1, 2, 7, 8, 9]), (114, [0, 3, 5]), (115, [0, 1, 5]), (121, [0, 1, 2, 7])],
  sigs := [(30, { lend := some 1000, made := T82 }), (31, { lend := some 0 }), (32, { lend := some 0 }), (33, { lend := some 0 }), (34, { lend := some 0 }), (36, { lend := some 0 }), (40, { lend := some 0 }), (42, { lend := some 0 }), (43, { lend := some 0 }), (47, { lend := some 0 }), (50, { lend := some 0 }), (57, { lend := some 0 }), (58, { lend := some 0 }), (59, { lend := some 0 }), (60, { lend := some 0 }), (61, { lend := some 0 }), (62, { lend := some 0 }), (63, { lend := some 0 }), (76, { lend := some 0 }), (77, { lend := some 0 }), (78, { lend := some 0 }), (79, { lend := some 0 }), (80, { lend := some 0 }), (81, { lend := some 0 }), (83, { lend := some 0 }), (99, { lend := some 0 })],
  prim := fun f => bif Nat.beq f 35 then some primJoin else bif Nat.beq f 39 then some primItoa else bif Nat.beq f 55 then some primRepeat else bif Nat.beq f 70 then some primHalves else none,
  tabs := [("internal/strconv.uint64pow10", Lib.pow10Tab)],
  ptrs := [15, 16, 17, 67, 85, 110],
  gives := [35] }
noncomputable def laws_FnViews (k : Nat) (code_0 : (List Int)) : Option Bool := run C k 3 .bool [.val (.list (.int .u8)) code_0]
noncomputable def laws_FnViews.l0 (k m : Nat) (code_0 : (List Int)) (s_4 : ByteArray) (n_5 : Int) (i_6 : Int) (s0 : (List DT45)) : Option Bool := loopRun C k 3 .bool [0] [.r, .r, .r, .r, .r, .l, .r, .b] [] [0, 3, 4, 5, 6] m ⟨[.one (.cell (.list true (.int .u8) code_0)), .one (.cell (.ref 1)), .one (.cell (.str s_4)), .one (.cell (.int .i64 n_5)), .one (.cell (.int .i64 i_6))], [.arr T45 s0 .open]⟩
noncomputable def laws_FnViews.l1 (k m : Nat) (code_0 : (List Int)) (s_4 : ByteArray) (n_5 : Int) (i_6 : Int) (t_8 : ByteArray) (signs_9 : Int) (i_10 : Int) (s0 : (List DT45)) (s1 : (List DT50)) : Option Bool := loopRun C k 3 .bool [0] [.r, .r, .r, .r, .r, .r, .r, .r, .r, .l, .r, .b] [] [0, 3, 4, 5, 6, 7, 8, 9, 10] m ⟨[.one (.cell (.list true (.int .u8) code_0)), .one (.cell (.ref 1)), .one (.cell (.str s_4)), .one (.cell (.int .i64 n_5)), .one (.cell (.int .i64 i_6)), .one (.cell (.ref 5)), .one (.cell (.str t_8)), .one (.cell (.int .i64 signs_9)), .one (.cell (.int .i64 i_10))], [.arr T45 s0 .open, .arr T50 s1 .open]⟩
noncomputable def laws_FnViews.l2 (k m : Nat) (code_0 : (List Int)) (s_4 : ByteArray) (n_5 : Int) (i_6 : Int) (t_8 : ByteArray) (signs_9 : Int) (i_10 : Int) (a_11 : ByteArray) (blanks_12 : Int) (i_13 : Int) (s0 : (List DT45)) (s1 : (List DT50)) : Option Bool := loopRun C k 3 .bool [0] [.r, .r, .r, .r, .r, .r, .r, .r, .r, .r, .r, .r, .l, .r, .b] [] [0, 3, 4, 5, 6, 7, 8, 9, 10, 11, 12, 13] m ⟨[.one (.cell (.list true (.int .u8) code_0)), .one (.cell (.ref 1)), .one (.cell (.str s_4)), .one (.cell (.int .i64 n_5)), .one (.cell (.int .i64 i_6)), .one (.cell (.ref 5)), .one (.cell (.str t_8)), .one (.cell (.int .i64 signs_9)), .one (.cell (.int .i64 i_10)), .one (.cell (.str a_11)), .one (.cell (.int .i64 blanks_12)), .one (.cell (.int .i64 i_13))], [.arr T45 s0 .open, .arr T50 s1 .open]⟩
noncomputable def laws_big (k : Nat) (code_0 : (List Int)) : Option Bool := run C k 4 .bool [.val (.list (.int .u8)) code_0]
noncomputable def spec_DrawFormatScore (k : Nat) (code_0 : (List Int)) : Option (List DT45) := run C k 5 (.list T45) [.val (.list (.int .u8)) code_0]
noncomputable def impl_FormatScore (k : Nat) (l_0 : (List DT45)) : Option ByteArray := run C k 6 .str [.val (.list T45) l_0]
noncomputable def spec_DrawFormatPart (k : Nat) (code_0 : (List Int)) : Option (List DT50) := run C k 7 (.list T50) [.val (.list (.int .u8)) code_0]
noncomputable def impl_FormatPart (k : Nat) (p_0 : (List DT50)) : Option ByteArray := run C k 8 .str [.val (.list T50) p_0]
noncomputable def spec_DrawFormatOrchestra (k : Nat) (code_0 : (List Int)) : Option DT38 := run C k 10 T38 [.val (.list (.int .u8)) code_0]
noncomputable def impl_FormatOrchestra (k : Nat) (o_0 : DT38) : Option ByteArray := run C k 9 .str [.val T38 o_0]
noncomputable def impl_FormatNumbers (k : Nat) (l_0 : (List Int)) : Option ByteArray := run C k 11 .str [.val (.list (.int .i64)) l_0]
noncomputable def impl_FormatChords (k : Nat) (l_0 : (List DT31)) : Option ByteArray := run C k 12 .str [.val (.list T31) l_0]
noncomputable def impl_FormatFaults (k : Nat) (l_0 : (List DT31)) : Option ByteArray := run C k 13 .str [.val (.list T31) l_0]
noncomputable def spec_DrawFormatEvent (k : Nat) (code_0 : (List Int)) : Option DT45 := run C k 15 T45 [.val (.list (.int .u8)) code_0]
noncomputable def impl_FormatEvent (k : Nat) (e_0 : DT45) : Option ByteArray := run C k 14 .str [.val T45 e_0]
noncomputable def spec_DrawIsScore (k : Nat) (code_0 : (List Int)) : Option (List DT45) := run C k 16 (.list T45) [.val (.list (.int .u8)) code_0]
noncomputable def impl_spaced_impl_Event_14 (k : Nat) (l_0 : (List DT45)) : Option ByteArray := run C k 17 .str [.val (.list T45) l_0, .clo 14 []]
noncomputable def impl_spaced_impl_Event_14.l0 (k m : Nat) (t_12 : (List DT45)) (t_13 : Int) (t_14 : Int) (s0 : (List ByteArray)) : Option ByteArray := loopRun C k 17 .str [0, 0] [.r, .r, .r, .l, .r, .b] [] [1, 5, 12, 13, 14] m ⟨[.one (.cell (.clo 14 [])), .one (.cell (.ref 1)), .one (.cell (.list false T45 t_12)), .one (.cell (.int .i64 t_13)), .one (.cell (.int .i64 t_14))], [.arr .str s0 .open]⟩
noncomputable def spec_DrawIsPart (k : Nat) (code_0 : (List Int)) : Option (List DT50) := run C k 18 (.list T50) [.val (.list (.int .u8)) code_0]
noncomputable def impl_spaced_impl_Sign_20 (k : Nat) (l_0 : (List DT50)) : Option ByteArray := run C k 19 .str [.val (.list T50) l_0, .clo 20 []]
noncomputable def impl_spaced_impl_Sign_20.l0 (k m : Nat) (t_12 : (List DT50)) (t_13 : Int) (t_14 : Int) (s0 : (List ByteArray)) : Option ByteArray := loopRun C k 19 .str [0, 0] [.r, .r, .r, .l, .r, .b] [] [1, 5, 12, 13, 14] m ⟨[.one (.cell (.clo 20 [])), .one (.cell (.ref 1)), .one (.cell (.list false T50 t_12)), .one (.cell (.int .i64 t_13)), .one (.cell (.int .i64 t_14))], [.arr .str s0 .open]⟩
noncomputable def spec_DrawIsOrchestra (k : Nat) (code_0 : (List Int)) : Option DT38 := run C k 23 T38 [.val (.list (.int .u8)) code_0]
noncomputable def impl_spaced_int_22 (k : Nat) (l_0 : (List Int)) : Option ByteArray := run C k 24 .str [.val (.list (.int .i64)) l_0, .clo 22 []]
noncomputable def impl_spaced_int_22.l0 (k m : Nat) (t_12 : (List Int)) (t_13 : Int) (t_14 : Int) (s0 : (List ByteArray)) : Option ByteArray := loopRun C k 24 .str [0, 0] [.r, .r, .r, .l, .r, .b] [] [1, 5, 12, 13, 14] m ⟨[.one (.cell (.clo 22 [])), .one (.cell (.ref 1)), .one (.cell (.list false (.int .i64) t_12)), .one (.cell (.int .i64 t_13)), .one (.cell (.int .i64 t_14))], [.arr .str s0 .open]⟩
noncomputable def impl_spaced_impl_Chord_26 (k : Nat) (l_0 : (List DT31)) : Option ByteArray := run C k 25 .str [.val (.list T31) l_0, .clo 26 []]
noncomputable def impl_spaced_impl_Chord_26.l0 (k m : Nat) (t_12 : (List DT31)) (t_13 : Int) (t_14 : Int) (s0 : (List ByteArray)) : Option ByteArray := loopRun C k 25 .str [0, 0] [.r, .r, .r, .l, .r, .b] [] [1, 5, 12, 13, 14] m ⟨[.one (.cell (.clo 26 [])), .one (.cell (.ref 1)), .one (.cell (.list false T31 t_12)), .one (.cell (.int .i64 t_13)), .one (.cell (.int .i64 t_14))], [.arr .str s0 .open]⟩
noncomputable def impl_spaced_impl_Fault_28 (k : Nat) (l_0 : (List DT31)) : Option ByteArray := run C k 27 .str [.val (.list T31) l_0, .clo 28 []]
noncomputable def impl_spaced_impl_Fault_28.l0 (k m : Nat) (t_12 : (List DT31)) (t_13 : Int) (t_14 : Int) (s0 : (List ByteArray)) : Option ByteArray := loopRun C k 27 .str [0, 0] [.r, .r, .r, .l, .r, .b] [] [1, 5, 12, 13, 14] m ⟨[.one (.cell (.clo 28 [])), .one (.cell (.ref 1)), .one (.cell (.list false T31 t_12)), .one (.cell (.int .i64 t_13)), .one (.cell (.int .i64 t_14))], [.arr .str s0 .open]⟩
noncomputable def spec_l1New (k : Nat) (code_0 : (List Int)) : Option DT82 := run C k 30 T82 [.val (.list (.int .u8)) code_0]
noncomputable def spec_l1New.l0 (k m : Nat) (code_0 : (List Int)) (h_3 : Int) (i_4 : Int) : Option DT82 := loopRunM C k 30 T82 1 [.r, .r, .l, .r, .b] [] [0, 3, 4] m ⟨[.one (.cell (.list true (.int .u8) code_0)), .one (.cell (.int .i64 h_3)), .one (.cell (.int .i64 i_4))], []⟩
noncomputable def spec_l8Event (k : Nat) (c_0 : DT82) : Option (DT45 × DT82) := run C k 31 (.pair T45 T82) [.ioBox T82 c_0]
noncomputable def spec_l1Once (k : Nat) (c_0 : DT82) (n_1 : Int) : Option (Bool × DT82) := run C k 32 (.pair .bool T82) [.ioBox T82 c_0, .val (.int .i64) n_1]
noncomputable def spec_l1Int (k : Nat) (c_0 : DT82) (list_1 : (List Int)) : Option (Int × DT82) := run C k 33 (.pair (.int .i64) T82) [.ioBox T82 c_0, .val (.list (.int .i64)) list_1]
noncomputable def impl_spelled (k : Nat) (pitch_0 : Int) : Option ByteArray := run C k 21 .str [.val (.int .i64) pitch_0]
noncomputable def impl_FormatInt (k : Nat) (n_0 : Int) : Option ByteArray := run C k 22 .str [.val (.int .i64) n_0]
noncomputable def spec_l8Any (k : Nat) (c_0 : DT82) : Option ((List DT45) × DT82) := run C k 34 (.pair (.list T45) T82) [.ioBox T82 c_0]
noncomputable def strings_Join (k : Nat) (elems_0 : (List ByteArray)) (sep_1 : ByteArray) : Option ByteArray := run C k 35 .str [.val (.list .str) elems_0, .val .str sep_1]
noncomputable def spec_l13Part (k : Nat) (c_0 : DT82) : Option ((List DT50) × DT82) := run C k 36 (.pair (.list T50) T82) [.ioBox T82 c_0]
noncomputable def impl_FormatPart_1 (k : Nat) (s_0 : DT50) : Option ByteArray := run C k 20 .str [.val T50 s_0]
noncomputable def spec_l33Any (k : Nat) (c_0 : DT82) : Option (DT38 × DT82) := run C k 40 (.pair T38 T82) [.ioBox T82 c_0]
noncomputable def impl_ChordText (k : Nat) (x_0 : DT31) : Option ByteArray := run C k 26 .str [.val T31 x_0]
noncomputable def impl_FormatFaults_1 (k : Nat) (f_0 : DT31) : Option ByteArray := run C k 28 .str [.val T31 f_0]
noncomputable def spec_l1Below (k : Nat) (c_0 : DT82) (n_1 : Int) : Option (Int × DT82) := run C k 42 (.pair (.int .i64) T82) [.ioBox T82 c_0, .val (.int .i64) n_1]
noncomputable def impl_SpellSharp (k : Nat) (pitch_0 : Int) : Option (DT50 × (Bool × Unit)) := run C k 37 (.pair T50 (.pair .bool .unit)) [.val (.int .i64) pitch_0]
noncomputable def impl_SpellSharp.l0 (k m : Nat) (b0_0 : Int) (b1_0 : Int) (b1_1 : Int) (b1_2 : Int) (b2_0 : Int) : Option (DT50 × (Bool × Unit)) := loopRun C k 37 (.pair T50 (.pair .bool .unit)) [0] [.r, .r, .l, .r, .b] [] [1, 2, 4] m ⟨[.one (.cell (.ptr 1 0)), .one (.cell (.ptr 5 0)), .one (.cell (.ptr 9 0))], [.box (some (.int .i64)) [.int .i64 b0_0], .box (some T50) [.int .i64 b1_0, .int .i64 b1_1, .int .i64 b1_2], .box (some (.int .i64)) [.int .i64 b2_0]]⟩
noncomputable def impl_NoteText (k : Nat) (x_0 : DT50) : Option ByteArray := run C k 38 .str [.val T50 x_0]
noncomputable def strconv_Itoa (k : Nat) (i_0 : Int) : Option ByteArray := run C k 39 .str [.val (.int .i64) i_0]
noncomputable def spec_l8Draw (k : Nat) (c_0 : DT82) : Option ((List DT45) × DT82) := run C k 43 (.pair (.list T45) T82) [.ioBox T82 c_0]
noncomputable def spec_l8Draw.l0 (k m : Nat) (i_4 : Int) (b0_0 : (List Int)) (b0_1 : Int) (b0_2 : Int) (s1 : (List DT45)) : Option ((List DT45) × DT82) := loopRunB C k 43 (.pair (.list T45) T82) 0 T82 1 [.r, .r, .l, .r, .b] [] [0, 3, 4] m ⟨[.one (.cell (.ptr 1 0)), .one (.cell (.ref 5)), .one (.cell (.int .i64 i_4))], [.box (some T82) [.list true (.int .u8) b0_0, .int .i64 b0_1, .int .i64 b0_2], .arr T45 s1 .open]⟩
noncomputable def spec_l8Tune (k : Nat) (c_0 : DT82) (voice_1 : Int) (most_2 : Int) : Option ((List DT45) × DT82) := run C k 47 (.pair (.list T45) T82) [.ioBox T82 c_0, .val (.int .i64) voice_1, .val (.int .i64) most_2]
noncomputable def spec_l8Tune.l0 (k m : Nat) (voice_1 : Int) (at_8 : Int) (i_9 : Int) (b0_0 : (List Int)) (b0_1 : Int) (b0_2 : Int) (s1 : (List DT45)) : Option ((List DT45) × DT82) := loopRunB C k 47 (.pair (.list T45) T82) 0 T82 3 [.r, .r, .r, .l, .r, .b] [] [0, 1, 7, 8, 9] m ⟨[.one (.cell (.ptr 1 0)), .one (.cell (.int .i64 voice_1)), .one (.cell (.ref 5)), .one (.cell (.int .i64 at_8)), .one (.cell (.int .i64 i_9))], [.box (some T82) [.list true (.int .u8) b0_0, .int .i64 b0_1, .int .i64 b0_2], .arr T45 s1 .open]⟩
noncomputable def spec_EndOf (k : Nat) (l_0 : (List DT45)) : Option Int := run C k 49 (.int .i64) [.val (.list T45) l_0]
noncomputable def spec_EndOf.l0 (k m : Nat) (l_0 : (List DT45)) (n_3 : Int) (i_4 : Int) : Option Int := loopRun C k 49 (.int .i64) [0] [.r, .r, .l, .r, .b] [] [0, 3, 4] m ⟨[.one (.cell (.list false T45 l_0)), .one (.cell (.int .i64 n_3)), .one (.cell (.int .i64 i_4))], []⟩
noncomputable def spec_PartFrom (k : Nat) (l_0 : (List DT45)) (voice_1 : Int) (end_2 : Int) : Option ((List DT50) × (Bool × Unit)) := run C k 48 (.pair (.list T50) (.pair .bool .unit)) [.val (.list T45) l_0, .val (.int .i64) voice_1, .val (.int .i64) end_2]
noncomputable def spec_PartFrom.l0 (k m : Nat) (l_0 : (List DT45)) (end_2 : Int) (at_10 : Int) (i_11 : Int) (s0 : (List DT50)) (s1 : (List DT45)) : Option ((List DT50) × (Bool × Unit)) := loopRun C k 48 (.pair (.list T50) (.pair .bool .unit)) [0, 0, 0] [.r, .r, .r, .r, .l, .r, .b] [] [0, 2, 8, 9, 10, 11] m ⟨[.one (.cell (.list false T45 l_0)), .one (.cell (.int .i64 end_2)), .one (.cell (.ref 1)), .one (.cell (.ref 5)), .one (.cell (.int .i64 at_10)), .one (.cell (.int .i64 i_11))], [.arr T50 s0 .open, .arr T45 s1 .open]⟩
noncomputable def spec_l4Raw (k : Nat) (c_0 : DT82) : Option (Int × DT82) := run C k 50 (.pair (.int .i64) T82) [.ioBox T82 c_0]
noncomputable def spec_l33Draw (k : Nat) (c_0 : DT82) : Option (DT38 × DT82) := run C k 57 (.pair T38 T82) [.ioBox T82 c_0]
noncomputable def spec_l10Any (k : Nat) (c_0 : DT82) : Option (DT31 × DT82) := run C k 58 (.pair T31 T82) [.ioBox T82 c_0]
noncomputable def spec_l11Any (k : Nat) (c_0 : DT82) : Option ((List DT31) × DT82) := run C k 59 (.pair (.list T31) T82) [.ioBox T82 c_0]
noncomputable def spec_l29Any (k : Nat) (c_0 : DT82) : Option ((List DT126) × DT82) := run C k 60 (.pair (.dlist T126) T82) [.ioBox T82 c_0]
noncomputable def spec_l25Any (k : Nat) (c_0 : DT82) : Option ((List DT128) × DT82) := run C k 61 (.pair (.list T128) T82) [.ioBox T82 c_0]
noncomputable def spec_l26Any (k : Nat) (c_0 : DT82) : Option ((List DT31) × DT82) := run C k 62 (.pair (.list T31) T82) [.ioBox T82 c_0]
noncomputable def impl_IsChord (k : Nat) (x_0 : DT31) : Option Bool := run C k 41 .bool [.val T31 x_0]
noncomputable def impl_InRange (k : Nat) (n_0 : Int) (low_1 : Int) (high_2 : Int) : Option Bool := run C k 29 .bool [.val (.int .i64) n_0, .val (.int .i64) low_1, .val (.int .i64) high_2]
noncomputable def spec_l1Byte (k : Nat) (c_0 : DT82) : Option (Int × DT82) := run C k 63 (.pair (.int .i64) T82) [.ioBox T82 c_0]
noncomputable def impl_notes_52 (k : Nat) (c0_0 : Int) (c0_1 : Int) : Option (DT50 × (Bool × Unit)) := run C k 51 (.pair T50 (.pair .bool .unit)) [.clo 52 [.ro (.int .i64) c0_0, .ro (.int .i64) c0_1]]
noncomputable def impl_notes_52.l0 (k m : Nat) (is_0_c : Int) (is_0_c_1 : Int) (octave_4 : Int) (b0_0 : Int) (b0_1 : Int) (b0_2 : Int) : Option (DT50 × (Bool × Unit)) := loopRun C k 51 (.pair T50 (.pair .bool .unit)) [0] [.r, .l, .r, .b] [] [0, 2, 4] m ⟨[.one (.cell (.clo 52 [.ro (.int .i64) is_0_c, .ro (.int .i64) is_0_c_1])), .one (.cell (.ptr 1 0)), .one (.cell (.int .i64 octave_4))], [.box (some T50) [.int .i64 b0_0, .int .i64 b0_1, .int .i64 b0_2]]⟩
noncomputable def impl_notes_52.l1 (k m m1 : Nat) (is_0_c : Int) (is_0_c_1 : Int) (octave_4 : Int) (step_5 : Int) (b0_0 : Int) (b0_1 : Int) (b0_2 : Int) : Option (DT50 × (Bool × Unit)) := loopRun C k 51 (.pair T50 (.pair .bool .unit)) [0] [.r, .l, .r, .b, .p, .r, .l, .b, .r, .b] [⟨[0, 2, 4], m1⟩] [0, 2, 4, 5] m ⟨[.one (.cell (.clo 52 [.ro (.int .i64) is_0_c, .ro (.int .i64) is_0_c_1])), .one (.cell (.ptr 1 0)), .one (.cell (.int .i64 octave_4)), .one (.cell (.int .i64 step_5))], [.box (some T50) [.int .i64 b0_0, .int .i64 b0_1, .int .i64 b0_2]]⟩
noncomputable def impl_notes_52.l2 (k m m1 m2 : Nat) (is_0_c : Int) (is_0_c_1 : Int) (octave_4 : Int) (step_5 : Int) (alter_6 : Int) (b0_0 : Int) (b0_1 : Int) (b0_2 : Int) : Option (DT50 × (Bool × Unit)) := loopRun C k 51 (.pair T50 (.pair .bool .unit)) [0] [.r, .l, .r, .b, .p, .r, .l, .b, .r, .b, .p, .r, .l, .b, .r, .b] [⟨[0, 2, 4], m1⟩, ⟨[0, 2, 4, 5], m2⟩] [0, 2, 4, 5, 6] m ⟨[.one (.cell (.clo 52 [.ro (.int .i64) is_0_c, .ro (.int .i64) is_0_c_1])), .one (.cell (.ptr 1 0)), .one (.cell (.int .i64 octave_4)), .one (.cell (.int .i64 step_5)), .one (.cell (.int .i64 alter_6))], [.box (some T50) [.int .i64 b0_0, .int .i64 b0_1, .int .i64 b0_2]]⟩
noncomputable def impl_IsNote (k : Nat) (x_0 : DT50) : Option Bool := run C k 54 .bool [.val T50 x_0]
noncomputable def strings_Repeat (k : Nat) (s_0 : ByteArray) (count_1 : Int) : Option ByteArray := run C k 55 .str [.val .str s_0, .val (.int .i64) count_1]
noncomputable def spec_PutEvent (k : Nat) (l_0 : (List DT45)) (e_1 : DT45) : Option ((List DT45) × (Bool × Unit)) := run C k 64 (.pair (.list T45) (.pair .bool .unit)) [.val (.list T45) l_0, .val T45 e_1]
noncomputable def spec_IsScore (k : Nat) (l_0 : (List DT45)) : Option Bool := run C k 68 .bool [.val (.list T45) l_0]
noncomputable def spec_IsScore.l0 (k m : Nat) (l_0 : (List DT45)) (i_3 : Int) : Option Bool := loopRun C k 68 .bool [0] [.r, .l, .r, .b] [] [0, 3] m ⟨[.one (.cell (.list false T45 l_0)), .one (.cell (.int .i64 i_3))], []⟩
noncomputable def spec_Max (k : Nat) (a_0 : Int) (b_1 : Int) : Option Int := run C k 69 (.int .i64) [.val (.int .i64) a_0, .val (.int .i64) b_1]
noncomputable def spec_VoiceOf (k : Nat) (l_0 : (List DT45)) (voice_1 : Int) : Option (List DT45) := run C k 67 (.list T45) [.val (.list T45) l_0, .val (.int .i64) voice_1]
noncomputable def spec_VoiceOf.l0 (k m : Nat) (l_0 : (List DT45)) (voice_1 : Int) (i_6 : Int) (s0 : (List DT45)) : Option (List DT45) := loopRun C k 67 (.list T45) [0, 0] [.r, .r, .l, .r, .b] [] [0, 1, 5, 6] m ⟨[.one (.cell (.list false T45 l_0)), .one (.cell (.int .i64 voice_1)), .one (.cell (.ref 1)), .one (.cell (.int .i64 i_6))], [.arr T45 s0 .open]⟩
noncomputable def spec_l10Draw (k : Nat) (c_0 : DT82) : Option (DT31 × DT82) := run C k 76 (.pair T31 T82) [.ioBox T82 c_0]
noncomputable def spec_l33Voices (k : Nat) (c_0 : DT82) : Option ((List DT126) × DT82) := run C k 77 (.pair (.dlist T126) T82) [.ioBox T82 c_0]
noncomputable def spec_l33Voices.l0 (k m : Nat) (i_4 : Int) (b0_0 : (List Int)) (b0_1 : Int) (b0_2 : Int) (s1 : (List DT126)) : Option ((List DT126) × DT82) := loopRunB C k 77 (.pair (.dlist T126) T82) 0 T82 1 [.r, .r, .l, .r, .b] [] [0, 3, 4] m ⟨[.one (.cell (.ptr 1 0)), .one (.cell (.dref 5)), .one (.cell (.int .i64 i_4))], [.box (some T82) [.list true (.int .u8) b0_0, .int .i64 b0_1, .int .i64 b0_2], .deep T126 s1 none]⟩
noncomputable def spec_NewOrchestra (k : Nat) (m_0 : DT31) (players_1 : (List DT126)) : Option (DT38 × (Bool × Unit)) := run C k 75 (.pair T38 (.pair .bool .unit)) [.val T31 m_0, .val (.dlist T126) players_1]
noncomputable def spec_l13Score (k : Nat) (c_0 : DT82) : Option ((List DT45) × DT82) := run C k 78 (.pair (.list T45) T82) [.ioBox T82 c_0]
noncomputable def spec_l13Score.l0 (k m : Nat) (i_5 : Int) (b0_0 : (List Int)) (b0_1 : Int) (b0_2 : Int) (s1 : (List DT45)) (s2 : (List DT45)) : Option ((List DT45) × DT82) := loopRunB C k 78 (.pair (.list T45) T82) 0 T82 1 [.r, .r, .r, .l, .r, .b] [] [0, 3, 4, 5] m ⟨[.one (.cell (.ptr 1 0)), .one (.cell (.ref 5)), .one (.cell (.ref 9)), .one (.cell (.int .i64 i_5))], [.box (some T82) [.list true (.int .u8) b0_0, .int .i64 b0_1, .int .i64 b0_2], .arr T45 s1 .open, .arr T45 s2 .open]⟩
noncomputable def spec_l11Draw (k : Nat) (c_0 : DT82) : Option ((List DT31) × DT82) := run C k 79 (.pair (.list T31) T82) [.ioBox T82 c_0]
noncomputable def spec_l11Draw.l0 (k m : Nat) (at_4 : Int) (i_5 : Int) (b0_0 : (List Int)) (b0_1 : Int) (b0_2 : Int) (s1 : (List DT31)) : Option ((List DT31) × DT82) := loopRunB C k 79 (.pair (.list T31) T82) 0 T82 1 [.r, .r, .r, .l, .r, .b] [] [0, 3, 4, 5] m ⟨[.one (.cell (.ptr 1 0)), .one (.cell (.ref 5)), .one (.cell (.int .i64 at_4)), .one (.cell (.int .i64 i_5))], [.box (some T82) [.list true (.int .u8) b0_0, .int .i64 b0_1, .int .i64 b0_2], .arr T31 s1 .open]⟩
noncomputable def spec_l25Draw (k : Nat) (c_0 : DT82) : Option ((List DT128) × DT82) := run C k 80 (.pair (.list T128) T82) [.ioBox T82 c_0]
noncomputable def spec_l25Draw.l0 (k m : Nat) (i_4 : Int) (b0_0 : (List Int)) (b0_1 : Int) (b0_2 : Int) (s1 : (List DT128)) : Option ((List DT128) × DT82) := loopRunB C k 80 (.pair (.list T128) T82) 0 T82 1 [.r, .r, .l, .r, .b] [] [0, 3, 4] m ⟨[.one (.cell (.ptr 1 0)), .one (.cell (.ref 5)), .one (.cell (.int .i64 i_4))], [.box (some T82) [.list true (.int .u8) b0_0, .int .i64 b0_1, .int .i64 b0_2], .arr T128 s1 .open]⟩
noncomputable def spec_l26Draw (k : Nat) (c_0 : DT82) : Option ((List DT31) × DT82) := run C k 81 (.pair (.list T31) T82) [.ioBox T82 c_0]
noncomputable def spec_l26Draw.l0 (k m : Nat) (b_4 : Int) (i_5 : Int) (b0_0 : (List Int)) (b0_1 : Int) (b0_2 : Int) (s1 : (List DT31)) : Option ((List DT31) × DT82) := loopRunB C k 81 (.pair (.list T31) T82) 0 T82 1 [.r, .r, .r, .l, .r, .b] [] [0, 3, 4, 5] m ⟨[.one (.cell (.ptr 1 0)), .one (.cell (.ref 5)), .one (.cell (.int .i64 b_4)), .one (.cell (.int .i64 i_5))], [.box (some T82) [.list true (.int .u8) b0_0, .int .i64 b0_1, .int .i64 b0_2], .arr T31 s1 .open]⟩
noncomputable def spec_SeatPlayers (k : Nat) (l_0 : (List DT126)) (score_1 : (List DT45)) (voices_2 : Int) : Option ((List Int) × (Bool × Unit)) := run C k 82 (.pair (.list (.int .i64)) (.pair .bool .unit)) [.val (.dlist T126) l_0, .val (.list T45) score_1, .val (.int .i64) voices_2]
noncomputable def spec_l29Draw (k : Nat) (c_0 : DT82) : Option ((List DT126) × DT82) := run C k 83 (.pair (.dlist T126) T82) [.ioBox T82 c_0]
noncomputable def spec_l29Draw.l0 (k m : Nat) (i_4 : Int) (b0_0 : (List Int)) (b0_1 : Int) (b0_2 : Int) (s1 : (List DT126)) : Option ((List DT126) × DT82) := loopRunB C k 83 (.pair (.dlist T126) T82) 0 T82 1 [.r, .r, .l, .r, .b] [] [0, 3, 4] m ⟨[.one (.cell (.ptr 1 0)), .one (.cell (.dref 5)), .one (.cell (.int .i64 i_4))], [.box (some T82) [.list true (.int .u8) b0_0, .int .i64 b0_1, .int .i64 b0_2], .deep T126 s1 none]⟩
noncomputable def spec_l29Draw.l1 (k m m1 : Nat) (i_4 : Int) (v_6 : Int) (b0_0 : (List Int)) (b0_1 : Int) (b0_2 : Int) (s1 : (List DT126)) (b2_0 : Int) (b2_1 : Int) (b2_2 : Int) : Option ((List DT126) × DT82) := loopRunB C k 83 (.pair (.dlist T126) T82) 0 T82 1 [.r, .r, .l, .r, .b, .p, .r, .l, .b, .r, .l, .r, .b] [⟨[0, 3, 4], m1⟩] [0, 3, 4, 5, 6] m ⟨[.one (.cell (.ptr 1 0)), .one (.cell (.dref 5)), .one (.cell (.int .i64 i_4)), .one (.cell (.ptr 9 0)), .one (.cell (.int .i64 v_6))], [.box (some T82) [.list true (.int .u8) b0_0, .int .i64 b0_1, .int .i64 b0_2], .deep T126 s1 none, .box (some T126) [.int .i64 b2_0, .int .i64 b2_1, .int .i64 b2_2, .nil]]⟩
noncomputable def spec_l29Draw.l2 (k m m1 : Nat) (i_4 : Int) (v_6 : Int) (b0_0 : (List Int)) (b0_1 : Int) (b0_2 : Int) (s1 : (List DT126)) (b2_0 : Int) (b2_1 : Int) (b2_2 : Int) (s3 : (List Int)) : Option ((List DT126) × DT82) := loopRunB C k 83 (.pair (.dlist T126) T82) 0 T82 1 [.r, .r, .l, .r, .b, .p, .r, .l, .b, .r, .l, .r, .b] [⟨[0, 3, 4], m1⟩] [0, 3, 4, 5, 6] m ⟨[.one (.cell (.ptr 1 0)), .one (.cell (.dref 5)), .one (.cell (.int .i64 i_4)), .one (.cell (.ptr 9 0)), .one (.cell (.int .i64 v_6))], [.box (some T82) [.list true (.int .u8) b0_0, .int .i64 b0_1, .int .i64 b0_2], .deep T126 s1 none, .box (some T126) [.int .i64 b2_0, .int .i64 b2_1, .int .i64 b2_2, .ref 13], .arr (.int .i64) s3 .open]⟩
noncomputable def impl_SpellSharp_1 (k : Nat) (x_0 : DT50) (a_1 : Int) (a_2 : Int) : Option Bool := run C k 52 .bool [.val T50 x_0, .rp (.int .i64) a_1, .rp (.int .i64) a_2]
noncomputable def impl_Note__pitch (k : Nat) (x_0 : DT50) : Option Int := run C k 53 (.int .i64) [.val T50 x_0]
noncomputable def spec_l8Put (k : Nat) (l_0 : (List DT45)) (e_1 : DT45) : Option (List DT45) := run C k 84 (.list T45) [.val (.list T45) l_0, .val T45 e_1]
noncomputable def spec_l8Put.l0 (k m : Nat) (l_0 : (List DT45)) (k_5 : Int) (b0_0 : Int) (b0_1 : Int) (b0_2 : Int) (b0_3 : Int) : Option (List DT45) := loopRun C k 84 (.list T45) [0, 0] [.r, .r, .l, .b] [] [0, 3, 5] m ⟨[.one (.cell (.list false T45 l_0)), .one (.cell (.ptr 1 0)), .one (.cell (.int .i64 k_5))], [.box (some T45) [.int .i64 b0_0, .int .i64 b0_1, .int .i64 b0_2, .int .i64 b0_3]]⟩
noncomputable def spec_l8Ok (k : Nat) (e_0 : DT45) : Option Bool := run C k 87 .bool [.val T45 e_0]
noncomputable def spec_l8Before (k : Nat) (a_0 : DT45) (b_1 : DT45) : Option Bool := run C k 88 .bool [.val T45 a_0, .val T45 b_1]
noncomputable def spec_l33Copy (k : Nat) (o_0 : DT38) : Option DT38 := run C k 96 T38 [.val T38 o_0]
noncomputable def spec_IsOrchestra (k : Nat) (o_0 : DT38) : Option Bool := run C k 97 .bool [.val T38 o_0]
noncomputable def spec_l25Mark (k : Nat) (c_0 : DT82) : Option (DT128 × DT82) := run C k 99 (.pair T128 T82) [.ioBox T82 c_0]
noncomputable def spec_SetMark (k : Nat) (l_0 : (List DT128)) (x_1 : DT128) : Option (List DT128) := run C k 98 (.list T128) [.val (.list T128) l_0, .val T128 x_1]
noncomputable def spec_ArePlayers (k : Nat) (l_0 : (List DT126)) : Option Bool := run C k 100 .bool [.val (.dlist T126) l_0]
noncomputable def spec_ArePlayers.l0 (k m : Nat) (l_0 : (List DT126)) (i_3 : Int) : Option Bool := loopRun C k 100 .bool [0] [.r, .l, .r, .b] [] [0, 3] m ⟨[.one (.cell (.list false T126 l_0)), .one (.cell (.int .i64 i_3))], []⟩
noncomputable def spec_ArePlayers.l1 (k m m1 : Nat) (l_0 : (List DT126)) (i_3 : Int) (k_5 : Int) (b0_0 : Int) (b0_1 : Int) (b0_2 : Int) (b0_3 : (List Int)) : Option Bool := loopRun C k 100 .bool [0] [.r, .l, .r, .b, .p, .r, .l, .b, .r, .r, .r, .b] [⟨[0, 3], m1⟩] [0, 3, 4, 5] m ⟨[.one (.cell (.list false T126 l_0)), .one (.cell (.int .i64 i_3)), .one (.cell (.ptr 1 0)), .one (.cell (.int .i64 k_5))], [.box (some T126) [.int .i64 b0_0, .int .i64 b0_1, .int .i64 b0_2, .list true (.int .i64) b0_3]]⟩
noncomputable def spec_l1In (k : Nat) (x_0 : Int) (least_1 : Int) (most_2 : Int) : Option Bool := run C k 101 .bool [.val (.int .i64) x_0, .val (.int .i64) least_1, .val (.int .i64) most_2]
noncomputable def spec_l29Seat (k : Nat) (l_0 : (List DT126)) (score_1 : (List DT45)) (voices_2 : Int) (taken_3 : (List Int)) : Option ((List Int) × (Bool × Unit)) := run C k 102 (.pair (.list (.int .i64)) (.pair .bool .unit)) [.val (.dlist T126) l_0, .val (.list T45) score_1, .val (.int .i64) voices_2, .val (.list (.int .i64)) taken_3]
noncomputable def spec_l29Seat.l0 (k m : Nat) (l_0 : (List DT126)) (score_1 : (List DT45)) (voices_2 : Int) (taken_3 : (List Int)) (i_10 : Int) : Option ((List Int) × (Bool × Unit)) := loopRun C k 102 (.pair (.list (.int .i64)) (.pair .bool .unit)) [0, 0, 0, 0] [.r, .r, .l, .r, .b] [] [0, 1, 2, 3, 10] m ⟨[.one (.cell (.list false T126 l_0)), .one (.cell (.list false T45 score_1)), .one (.cell (.int .i64 voices_2)), .one (.cell (.list false (.int .i64) taken_3)), .one (.cell (.int .i64 i_10))], []⟩
noncomputable def impl_halves (k : Nat) (step_0 : Int) : Option Int := run C k 70 (.int .i64) [.val (.int .i64) step_0]
noncomputable def spec_l29Copy (k : Nat) (l_0 : (List DT126)) : Option (List DT126) := run C k 108 (.dlist T126) [.val (.dlist T126) l_0]
noncomputable def spec_l29Copy.l0 (k m : Nat) (l_0 : (List DT126)) (i_4 : Int) (s0 : (List DT126)) : Option (List DT126) := loopRun C k 108 (.dlist T126) [0] [.r, .r, .l, .r, .b] [] [0, 3, 4] m ⟨[.one (.cell (.list false T126 l_0)), .one (.cell (.dref 1)), .one (.cell (.int .i64 i_4))], [.deep T126 s0 none]⟩
noncomputable def spec_IsMeter (k : Nat) (m_0 : DT31) : Option Bool := run C k 109 .bool [.val T31 m_0]
noncomputable def spec_IsTempo (k : Nat) (l_0 : (List DT31)) : Option Bool := run C k 110 .bool [.val (.list T31) l_0]
noncomputable def spec_IsTempo.l0 (k m : Nat) (l_0 : (List DT31)) (i_3 : Int) : Option Bool := loopRun C k 110 .bool [0] [.r, .l, .r, .b] [] [0, 3] m ⟨[.one (.cell (.list false T31 l_0)), .one (.cell (.int .i64 i_3))], []⟩
noncomputable def spec_AreMarks (k : Nat) (l_0 : (List DT128)) : Option Bool := run C k 111 .bool [.val (.list T128) l_0]
noncomputable def spec_AreMarks.l0 (k m : Nat) (l_0 : (List DT128)) (i_3 : Int) : Option Bool := loopRun C k 111 .bool [0] [.r, .l, .r, .b] [] [0, 3] m ⟨[.one (.cell (.list false T128 l_0)), .one (.cell (.int .i64 i_3))], []⟩
noncomputable def spec_AreLetters (k : Nat) (l_0 : (List DT31)) : Option Bool := run C k 112 .bool [.val (.list T31) l_0]
noncomputable def spec_AreLetters.l0 (k m : Nat) (l_0 : (List DT31)) (i_3 : Int) : Option Bool := loopRun C k 112 .bool [0] [.r, .l, .r, .b] [] [0, 3] m ⟨[.one (.cell (.list false T31 l_0)), .one (.cell (.int .i64 i_3))], []⟩
noncomputable def spec_IsSeating (k : Nat) (l_0 : (List DT126)) (score_1 : (List DT45)) (seats_2 : (List Int)) : Option Bool := run C k 113 .bool [.val (.dlist T126) l_0, .val (.list T45) score_1, .val (.list (.int .i64)) seats_2]
noncomputable def spec_IsSeating.l0 (k m : Nat) (l_0 : (List DT126)) (score_1 : (List DT45)) (seats_2 : (List Int)) (i_7 : Int) : Option Bool := loopRun C k 113 .bool [0, 0, 0] [.r, .l, .r, .b] [] [0, 1, 2, 7] m ⟨[.one (.cell (.list false T126 l_0)), .one (.cell (.list false T45 score_1)), .one (.cell (.list false (.int .i64) seats_2)), .one (.cell (.int .i64 i_7))], []⟩
noncomputable def spec_IsSeating.l1 (k m m1 : Nat) (l_0 : (List DT126)) (score_1 : (List DT45)) (seats_2 : (List Int)) (i_7 : Int) (good_8 : Bool) (k_9 : Int) : Option Bool := loopRun C k 113 .bool [0, 0, 0] [.r, .l, .r, .b, .p, .r, .l, .b, .r, .l, .r, .b] [⟨[0, 1, 2, 7], m1⟩] [0, 1, 2, 7, 8, 9] m ⟨[.one (.cell (.list false T126 l_0)), .one (.cell (.list false T45 score_1)), .one (.cell (.list false (.int .i64) seats_2)), .one (.cell (.int .i64 i_7)), .one (.cell (.prop (good_8 = true) (instDecidableEqBool good_8 true))), .one (.cell (.int .i64 k_9))], []⟩
noncomputable def spec_l25Set (k : Nat) (l_0 : (List DT128)) (x_1 : DT128) : Option (List DT128) := run C k 114 (.list T128) [.val (.list T128) l_0, .val T128 x_1]
noncomputable def spec_l25Set.l0 (k m : Nat) (l_0 : (List DT128)) (k_5 : Int) (b0_0 : Int) (b0_1 : Int) (b0_2 : Int) (b0_3 : Int) (b0_4 : Int) : Option (List DT128) := loopRun C k 114 (.list T128) [0, 0] [.r, .r, .l, .b] [] [0, 3, 5] m ⟨[.one (.cell (.list false T128 l_0)), .one (.cell (.ptr 1 0)), .one (.cell (.int .i64 k_5))], [.box (some T128) [.int .i64 b0_0, .int .i64 b0_1, .int .i64 b0_2, .int .i64 b0_3, .int .i64 b0_4]]⟩
noncomputable def spec_l27Has (k : Nat) (l_0 : (List Int)) (n_1 : Int) : Option Bool := run C k 115 .bool [.val (.list (.int .i64)) l_0, .val (.int .i64) n_1]
noncomputable def spec_l27Has.l0 (k m : Nat) (l_0 : (List Int)) (n_1 : Int) (i_5 : Int) : Option Bool := loopRun C k 115 .bool [0, 0] [.r, .l, .r, .b] [] [0, 1, 5] m ⟨[.one (.cell (.list false (.int .i64) l_0)), .one (.cell (.int .i64 n_1)), .one (.cell (.int .i64 i_5))], []⟩
noncomputable def spec_CanPlay (k : Nat) (p_0 : DT126) (l_1 : (List DT45)) (voice_2 : Int) : Option Bool := run C k 116 .bool [.val T126 p_0, .val (.list T45) l_1, .val (.int .i64) voice_2]
noncomputable def spec_l25Before (k : Nat) (a_0 : DT128) (b_1 : DT128) : Option Bool := run C k 119 .bool [.val T128 a_0, .val T128 b_1]
noncomputable def spec_IsNewer (k : Nat) (a_0 : DT128) (b_1 : DT128) : Option Bool := run C k 120 .bool [.val T128 a_0, .val T128 b_1]
noncomputable def spec_FitsRange (k : Nat) (l_0 : (List DT45)) (low_1 : Int) (high_2 : Int) : Option Bool := run C k 121 .bool [.val (.list T45) l_0, .val (.int .i64) low_1, .val (.int .i64) high_2]
noncomputable def spec_FitsRange.l0 (k m : Nat) (l_0 : (List DT45)) (low_1 : Int) (high_2 : Int) (i_7 : Int) : Option Bool := loopRun C k 121 .bool [0, 0, 0] [.r, .l, .r, .b] [] [0, 1, 2, 7] m ⟨[.one (.cell (.list false T45 l_0)), .one (.cell (.int .i64 low_1)), .one (.cell (.int .i64 high_2)), .one (.cell (.int .i64 i_7))], []⟩
theorem laws_FnViews_eq (k : Nat) (code_0 : (List Int)) : laws_FnViews (k + 1) code_0 =
 (laws_big k code_0).bind fun r1 =>
 if r1 = true then
 some true
 else (spec_DrawFormatScore k code_0).bind fun r2 =>
 (impl_FormatScore k r2).bind fun r3 =>
 laws_FnViews.l0 k k code_0 r3 0 0 r2 := by kernel_rfl
theorem laws_FnViews.l0_eq (k m : Nat) (code_0 : (List Int)) (s_4 : ByteArray) (n_5 : Int) (i_6 : Int) (s0 : (List DT45)) : laws_FnViews.l0 k (m + 1) code_0 s_4 n_5 i_6 s0 =
 if (i_6 : Int) < ((s_4.size : Nat) : Int) then
 if 0 ≤ i_6 then
 if i_6 < ((s_4.size : Nat) : Int) then
 if ((bt s_4 i_6) : Int) = 64 then
 laws_FnViews.l0 k m code_0 s_4 (IntKind.wrap .i64 (n_5 + 1)) (IntKind.wrap .i64 (i_6 + 1)) s0
 else laws_FnViews.l0 k m code_0 s_4 n_5 (IntKind.wrap .i64 (i_6 + 1)) s0 else none else none
 else (spec_DrawFormatPart k code_0).bind fun r4 =>
 (impl_FormatPart k r4).bind fun r5 =>
 laws_FnViews.l1 k k code_0 s_4 n_5 i_6 r5 0 0 s0 r4 := by kernel_rfl
theorem laws_FnViews.l1_eq (k m : Nat) (code_0 : (List Int)) (s_4 : ByteArray) (n_5 : Int) (i_6 : Int) (t_8 : ByteArray) (signs_9 : Int) (i_10 : Int) (s0 : (List DT45)) (s1 : (List DT50)) : laws_FnViews.l1 k (m + 1) code_0 s_4 n_5 i_6 t_8 signs_9 i_10 s0 s1 =
 if (i_10 : Int) < ((t_8.size : Nat) : Int) then
 if 0 ≤ i_10 then
 if i_10 < ((t_8.size : Nat) : Int) then
 if ((bt t_8 i_10) : Int) = 47 then
 laws_FnViews.l1 k m code_0 s_4 n_5 i_6 t_8 (IntKind.wrap .i64 (signs_9 + 1)) (IntKind.wrap .i64 (i_10 + 1)) s0 s1
 else laws_FnViews.l1 k m code_0 s_4 n_5 i_6 t_8 signs_9 (IntKind.wrap .i64 (i_10 + 1)) s0 s1 else none else none
 else (spec_DrawFormatOrchestra k code_0).bind fun r6 =>
 (impl_FormatOrchestra k r6).bind fun r7 =>
 laws_FnViews.l2 k k code_0 s_4 n_5 i_6 t_8 signs_9 i_10 r7 0 0 s0 s1 := by kernel_rfl
theorem laws_FnViews.l2_eq (k m : Nat) (code_0 : (List Int)) (s_4 : ByteArray) (n_5 : Int) (i_6 : Int) (t_8 : ByteArray) (signs_9 : Int) (i_10 : Int) (a_11 : ByteArray) (blanks_12 : Int) (i_13 : Int) (s0 : (List DT45)) (s1 : (List DT50)) : laws_FnViews.l2 k (m + 1) code_0 s_4 n_5 i_6 t_8 signs_9 i_10 a_11 blanks_12 i_13 s0 s1 =
 if (i_13 : Int) < ((a_11.size : Nat) : Int) then
 if 0 ≤ i_13 then
 if i_13 < ((a_11.size : Nat) : Int) then
 if ((bt a_11 i_13) : Int) = 32 then
 laws_FnViews.l2 k m code_0 s_4 n_5 i_6 t_8 signs_9 i_10 a_11 (IntKind.wrap .i64 (blanks_12 + 1)) (IntKind.wrap .i64 (i_13 + 1)) s0 s1
 else laws_FnViews.l2 k m code_0 s_4 n_5 i_6 t_8 signs_9 i_10 a_11 blanks_12 (IntKind.wrap .i64 (i_13 + 1)) s0 s1 else none else none
 else if (n_5 : Int) = ((List.length s0 : Nat) : Int) then
 if (signs_9 : Int) = ((List.length s1 : Nat) : Int) then
 if (blanks_12 : Int) = 7 then
 (impl_FormatNumbers k []).bind fun r8 =>
 if r8 = (ByteArray.mk #[45]) then
 (impl_FormatChords k []).bind fun r9 =>
 if r9 = (ByteArray.mk #[45]) then
 (impl_FormatFaults k []).bind fun r10 =>
 if r10 = (ByteArray.mk #[45]) then
 (spec_DrawFormatEvent k code_0).bind fun r11 =>
 (impl_FormatEvent k r11).bind fun r12 =>
 some (decide (¬ (r12 = (ByteArray.mk #[]))))
 else some false
 else some false
 else some false
 else some false
 else some false
 else some false := by kernel_rfl
theorem laws_big_eq (k : Nat) (code_0 : (List Int)) : laws_big (k + 1) code_0 =
 some (decide ((1048576 : Int) < ((List.length code_0 : Nat) : Int))) := by kernel_rfl
theorem spec_DrawFormatScore_eq (k : Nat) (code_0 : (List Int)) : spec_DrawFormatScore (k + 1) code_0 =
 (spec_DrawIsScore k code_0).bind fun r1 =>
 some r1 := by kernel_rfl
theorem impl_FormatScore_eq (k : Nat) (l_0 : (List DT45)) : impl_FormatScore (k + 1) l_0 =
 (impl_spaced_impl_Event_14 k l_0).bind fun r1 =>
 some r1 := by kernel_rfl
theorem spec_DrawFormatPart_eq (k : Nat) (code_0 : (List Int)) : spec_DrawFormatPart (k + 1) code_0 =
 (spec_DrawIsPart k code_0).bind fun r1 =>
 some r1 := by kernel_rfl
theorem impl_FormatPart_eq (k : Nat) (p_0 : (List DT50)) : impl_FormatPart (k + 1) p_0 =
 (impl_spaced_impl_Sign_20 k p_0).bind fun r1 =>
 some r1 := by kernel_rfl
theorem spec_DrawFormatOrchestra_eq (k : Nat) (code_0 : (List Int)) : spec_DrawFormatOrchestra (k + 1) code_0 =
 (spec_DrawIsOrchestra k code_0).bind fun r1 =>
 some r1 := by kernel_rfl
theorem impl_FormatOrchestra_eq (k : Nat) (o_0 : DT38) : impl_FormatOrchestra (k + 1) o_0 =
 (impl_FormatNumbers k ([o_0.2.2.2.2.2.2.2.2.1, o_0.2.2.2.2.2.2.2.1, ((List.length o_0.1 : Nat) : Int), ((List.length o_0.2.2.1 : Nat) : Int), ((List.length o_0.2.2.2.1 : Nat) : Int), ((List.length o_0.2.2.2.2.1 : Nat) : Int), ((List.length o_0.2.2.2.2.2.1 : Nat) : Int), ((List.length o_0.2.2.2.2.2.2.1 : Nat) : Int)])).bind fun r1 =>
 some r1 := by kernel_rfl
theorem impl_FormatNumbers_eq (k : Nat) (l_0 : (List Int)) : impl_FormatNumbers (k + 1) l_0 =
 (impl_spaced_int_22 k l_0).bind fun r1 =>
 some r1 := by kernel_rfl
theorem impl_FormatChords_eq (k : Nat) (l_0 : (List DT31)) : impl_FormatChords (k + 1) l_0 =
 (impl_spaced_impl_Chord_26 k l_0).bind fun r1 =>
 some r1 := by kernel_rfl
theorem impl_FormatFaults_eq (k : Nat) (l_0 : (List DT31)) : impl_FormatFaults (k + 1) l_0 =
 (impl_spaced_impl_Fault_28 k l_0).bind fun r1 =>
 some r1 := by kernel_rfl
theorem spec_DrawFormatEvent_eq (k : Nat) (code_0 : (List Int)) : spec_DrawFormatEvent (k + 1) code_0 =
 (spec_l1New k code_0).bind fun r1 =>
 (spec_l8Event k r1).bind fun r2 =>
 (spec_l1Once k r2.2 6).bind fun r3 =>
 if r3.1 = true then
 (spec_l1Int k r3.2 ([0, 11, 12, 119, 120])).bind fun r4 =>
 some (r2.1.1, (r2.1.2.1, (r4.1, r2.1.2.2.2)))
 else some r2.1 := by kernel_rfl
theorem impl_FormatEvent_eq (k : Nat) (e_0 : DT45) : impl_FormatEvent (k + 1) e_0 =
 (impl_spelled k e_0.2.2.1).bind fun r1 =>
 if r1.size + (ByteArray.mk #[64]).size ≤ 211106232532992 then
 (impl_FormatInt k e_0.1).bind fun r2 =>
 if (r1 ++ (ByteArray.mk #[64])).size + r2.size ≤ 211106232532992 then
 if ((r1 ++ (ByteArray.mk #[64])) ++ r2).size + (ByteArray.mk #[43]).size ≤ 211106232532992 then
 (impl_FormatInt k e_0.2.1).bind fun r3 =>
 if (((r1 ++ (ByteArray.mk #[64])) ++ r2) ++ (ByteArray.mk #[43])).size + r3.size ≤ 211106232532992 then
 if ((((r1 ++ (ByteArray.mk #[64])) ++ r2) ++ (ByteArray.mk #[43])) ++ r3).size + (ByteArray.mk #[118]).size ≤ 211106232532992 then
 (impl_FormatInt k e_0.2.2.2.1).bind fun r4 =>
 if (((((r1 ++ (ByteArray.mk #[64])) ++ r2) ++ (ByteArray.mk #[43])) ++ r3) ++ (ByteArray.mk #[118])).size + r4.size ≤ 211106232532992 then
 some ((((((r1 ++ (ByteArray.mk #[64])) ++ r2) ++ (ByteArray.mk #[43])) ++ r3) ++ (ByteArray.mk #[118])) ++ r4) else none else none else none else none else none else none := by kernel_rfl
theorem spec_DrawIsScore_eq (k : Nat) (code_0 : (List Int)) : spec_DrawIsScore (k + 1) code_0 =
 (spec_l1New k code_0).bind fun r1 =>
 (spec_l8Any k r1).bind fun r2 =>
 some r2.1 := by kernel_rfl
theorem impl_spaced_impl_Event_14_eq (k : Nat) (l_0 : (List DT45)) : impl_spaced_impl_Event_14 (k + 1) l_0 =
 if (((List.length l_0 : Nat) : Int) : Int) = 0 then
 some (ByteArray.mk #[45])
 else impl_spaced_impl_Event_14.l0 k k l_0 ((List.length l_0 : Nat) : Int) 0 [] := by kernel_rfl
theorem impl_spaced_impl_Event_14.l0_eq (k m : Nat) (t_12 : (List DT45)) (t_13 : Int) (t_14 : Int) (s0 : (List ByteArray)) : impl_spaced_impl_Event_14.l0 k (m + 1) t_12 t_13 t_14 s0 =
 if (t_14 : Int) < t_13 then
 if 0 ≤ t_14 then
 if t_14 < ((List.length t_12 : Nat) : Int) then
 (impl_FormatEvent k (rd T45 t_12 t_14)).bind fun r1 =>
 if (List.length s0 + List.length ([r1] : (List ByteArray))) * 16 ≤ 211106232532992 then
 impl_spaced_impl_Event_14.l0 k m t_12 t_13 (IntKind.wrap .i64 (t_14 + 1)) (s0 ++ ([r1] : (List ByteArray))) else none else none else none
 else (strings_Join k s0 (ByteArray.mk #[32])).bind fun r2 =>
 some r2 := by kernel_rfl
theorem spec_DrawIsPart_eq (k : Nat) (code_0 : (List Int)) : spec_DrawIsPart (k + 1) code_0 =
 (spec_l1New k code_0).bind fun r1 =>
 (spec_l13Part k r1).bind fun r2 =>
 some r2.1 := by kernel_rfl
theorem impl_spaced_impl_Sign_20_eq (k : Nat) (l_0 : (List DT50)) : impl_spaced_impl_Sign_20 (k + 1) l_0 =
 if (((List.length l_0 : Nat) : Int) : Int) = 0 then
 some (ByteArray.mk #[45])
 else impl_spaced_impl_Sign_20.l0 k k l_0 ((List.length l_0 : Nat) : Int) 0 [] := by kernel_rfl
theorem impl_spaced_impl_Sign_20.l0_eq (k m : Nat) (t_12 : (List DT50)) (t_13 : Int) (t_14 : Int) (s0 : (List ByteArray)) : impl_spaced_impl_Sign_20.l0 k (m + 1) t_12 t_13 t_14 s0 =
 if (t_14 : Int) < t_13 then
 if 0 ≤ t_14 then
 if t_14 < ((List.length t_12 : Nat) : Int) then
 (impl_FormatPart_1 k (rd T50 t_12 t_14)).bind fun r1 =>
 if (List.length s0 + List.length ([r1] : (List ByteArray))) * 16 ≤ 211106232532992 then
 impl_spaced_impl_Sign_20.l0 k m t_12 t_13 (IntKind.wrap .i64 (t_14 + 1)) (s0 ++ ([r1] : (List ByteArray))) else none else none else none
 else (strings_Join k s0 (ByteArray.mk #[32])).bind fun r2 =>
 some r2 := by kernel_rfl
theorem spec_DrawIsOrchestra_eq (k : Nat) (code_0 : (List Int)) : spec_DrawIsOrchestra (k + 1) code_0 =
 (spec_l1New k code_0).bind fun r1 =>
 (spec_l33Any k r1).bind fun r2 =>
 some r2.1 := by kernel_rfl
theorem impl_spaced_int_22_eq (k : Nat) (l_0 : (List Int)) : impl_spaced_int_22 (k + 1) l_0 =
 if (((List.length l_0 : Nat) : Int) : Int) = 0 then
 some (ByteArray.mk #[45])
 else impl_spaced_int_22.l0 k k l_0 ((List.length l_0 : Nat) : Int) 0 [] := by kernel_rfl
theorem impl_spaced_int_22.l0_eq (k m : Nat) (t_12 : (List Int)) (t_13 : Int) (t_14 : Int) (s0 : (List ByteArray)) : impl_spaced_int_22.l0 k (m + 1) t_12 t_13 t_14 s0 =
 if (t_14 : Int) < t_13 then
 if 0 ≤ t_14 then
 if t_14 < ((List.length t_12 : Nat) : Int) then
 (impl_FormatInt k (rd (.int .i64) t_12 t_14)).bind fun r1 =>
 if (List.length s0 + List.length ([r1] : (List ByteArray))) * 16 ≤ 211106232532992 then
 impl_spaced_int_22.l0 k m t_12 t_13 (IntKind.wrap .i64 (t_14 + 1)) (s0 ++ ([r1] : (List ByteArray))) else none else none else none
 else (strings_Join k s0 (ByteArray.mk #[32])).bind fun r2 =>
 some r2 := by kernel_rfl
theorem impl_spaced_impl_Chord_26_eq (k : Nat) (l_0 : (List DT31)) : impl_spaced_impl_Chord_26 (k + 1) l_0 =
 if (((List.length l_0 : Nat) : Int) : Int) = 0 then
 some (ByteArray.mk #[45])
 else impl_spaced_impl_Chord_26.l0 k k l_0 ((List.length l_0 : Nat) : Int) 0 [] := by kernel_rfl
theorem impl_spaced_impl_Chord_26.l0_eq (k m : Nat) (t_12 : (List DT31)) (t_13 : Int) (t_14 : Int) (s0 : (List ByteArray)) : impl_spaced_impl_Chord_26.l0 k (m + 1) t_12 t_13 t_14 s0 =
 if (t_14 : Int) < t_13 then
 if 0 ≤ t_14 then
 if t_14 < ((List.length t_12 : Nat) : Int) then
 (impl_ChordText k (rd T31 t_12 t_14)).bind fun r1 =>
 if (List.length s0 + List.length ([r1] : (List ByteArray))) * 16 ≤ 211106232532992 then
 impl_spaced_impl_Chord_26.l0 k m t_12 t_13 (IntKind.wrap .i64 (t_14 + 1)) (s0 ++ ([r1] : (List ByteArray))) else none else none else none
 else (strings_Join k s0 (ByteArray.mk #[32])).bind fun r2 =>
 some r2 := by kernel_rfl
theorem impl_spaced_impl_Fault_28_eq (k : Nat) (l_0 : (List DT31)) : impl_spaced_impl_Fault_28 (k + 1) l_0 =
 if (((List.length l_0 : Nat) : Int) : Int) = 0 then
 some (ByteArray.mk #[45])
 else impl_spaced_impl_Fault_28.l0 k k l_0 ((List.length l_0 : Nat) : Int) 0 [] := by kernel_rfl
theorem impl_spaced_impl_Fault_28.l0_eq (k m : Nat) (t_12 : (List DT31)) (t_13 : Int) (t_14 : Int) (s0 : (List ByteArray)) : impl_spaced_impl_Fault_28.l0 k (m + 1) t_12 t_13 t_14 s0 =
 if (t_14 : Int) < t_13 then
 if 0 ≤ t_14 then
 if t_14 < ((List.length t_12 : Nat) : Int) then
 (impl_FormatFaults_1 k (rd T31 t_12 t_14)).bind fun r1 =>
 if (List.length s0 + List.length ([r1] : (List ByteArray))) * 16 ≤ 211106232532992 then
 impl_spaced_impl_Fault_28.l0 k m t_12 t_13 (IntKind.wrap .i64 (t_14 + 1)) (s0 ++ ([r1] : (List ByteArray))) else none else none else none
 else (strings_Join k s0 (ByteArray.mk #[32])).bind fun r2 =>
 some r2 := by kernel_rfl
theorem spec_l1New_eq (k : Nat) (code_0 : (List Int)) : spec_l1New (k + 1) code_0 =
 spec_l1New.l0 k k code_0 (IntKind.wrap .i64 (193017 + ((List.length code_0 : Nat) : Int))) 0 := by kernel_rfl
theorem spec_l1New.l0_eq (k m : Nat) (code_0 : (List Int)) (h_3 : Int) (i_4 : Int) : spec_l1New.l0 k (m + 1) code_0 h_3 i_4 =
 if (i_4 : Int) < ((List.length code_0 : Nat) : Int) then
 if (i_4 : Int) < 4000 then
 if 0 ≤ i_4 then
 if i_4 < ((List.length code_0 : Nat) : Int) then
 spec_l1New.l0 k m code_0 (IntKind.wrap .i64 (((BitVec.ofInt (IntKind.bits .i64) (IntKind.wrap .i64 ((IntKind.wrap .i64 ((IntKind.wrap .i64 (h_3 * 137)) + (IntKind.wrap .i64 ((rd (.int .u8) code_0 i_4))))) + 11)) &&& BitVec.ofInt (IntKind.bits .i64) 1073741823).toNat : Nat))) (IntKind.wrap .i64 (i_4 + 1)) else none else none
 else some (code_0, (0, (h_3, ())))
 else some (code_0, (0, (h_3, ()))) := by kernel_rfl
theorem spec_l8Event_eq (k : Nat) (c_0 : DT82) : spec_l8Event (k + 1) c_0 =
 (spec_l1Below k c_0 20).bind fun r1 =>
 (spec_l1Below k r1.2 10).bind fun r2 =>
 (spec_l1Below k r2.2 18).bind fun r3 =>
 (spec_l1Below k r3.2 3).bind fun r4 =>
 some ((IntKind.wrap .i64 (6 * r1.1), (IntKind.wrap .i64 (3 * (IntKind.wrap .i64 (1 + r2.1))), (IntKind.wrap .i64 (55 + r3.1), (IntKind.wrap .i64 (1 + r4.1), ())))), r4.2) := by kernel_rfl
theorem spec_l1Once_eq (k : Nat) (c_0 : DT82) (n_1 : Int) : spec_l1Once (k + 1) c_0 n_1 =
 (spec_l1Below k c_0 n_1).bind fun r1 =>
 some (decide ((r1.1 : Int) = 0), r1.2) := by kernel_rfl
theorem spec_l1Int_eq (k : Nat) (c_0 : DT82) (list_1 : (List Int)) : spec_l1Int (k + 1) c_0 list_1 =
 (spec_l1Below k c_0 ((List.length list_1 : Nat) : Int)).bind fun r1 =>
 if 0 ≤ r1.1 then
 if r1.1 < ((List.length list_1 : Nat) : Int) then
 some ((rd (.int .i64) list_1 r1.1), r1.2) else none else none := by kernel_rfl
theorem impl_spelled_eq (k : Nat) (pitch_0 : Int) : impl_spelled (k + 1) pitch_0 =
 (impl_SpellSharp k pitch_0).bind fun r1 =>
 if ¬ (r1.2.1 = true) then
 some (ByteArray.mk #[])
 else (impl_NoteText k r1.1).bind fun r2 =>
 some r2 := by kernel_rfl
theorem impl_FormatInt_eq (k : Nat) (n_0 : Int) : impl_FormatInt (k + 1) n_0 =
 (strconv_Itoa k n_0).bind fun r1 =>
 some r1 := by kernel_rfl
theorem spec_l8Any_eq (k : Nat) (c_0 : DT82) : spec_l8Any (k + 1) c_0 =
 (spec_l8Draw k c_0).bind fun r1 =>
 if (((List.length r1.1 : Nat) : Int) : Int) = 0 then
 some (r1.1, r1.2)
 else (spec_l1Below k r1.2 ((List.length r1.1 : Nat) : Int)).bind fun r2 =>
 (spec_l1Below k r2.2 9).bind fun r3 =>
 if (r3.1 : Int) = 0 then
 (spec_l1Int k r3.2 ([(-1), 2000, 2001])).bind fun r4 =>
 if 0 ≤ r2.1 then
 if r2.1 < ((List.length r1.1 : Nat) : Int) then
 some ((setAt T45 r1.1 r2.1 (fun yy => (r4.1, yy.2))), r4.2) else none else none
 else if (r3.1 : Int) = 1 then
 (spec_l1Int k r3.2 ([0, 96, 97])).bind fun r5 =>
 if 0 ≤ r2.1 then
 if r2.1 < ((List.length r1.1 : Nat) : Int) then
 some ((setAt T45 r1.1 r2.1 (fun yy => (yy.1, (r5.1, yy.2.2)))), r5.2) else none else none
 else if (r3.1 : Int) = 2 then
 (spec_l1Int k r3.2 ([20, 108, 109])).bind fun r6 =>
 if 0 ≤ r2.1 then
 if r2.1 < ((List.length r1.1 : Nat) : Int) then
 some ((setAt T45 r1.1 r2.1 (fun yy => (yy.1, (yy.2.1, (r6.1, yy.2.2.2))))), r6.2) else none else none
 else if (r3.1 : Int) = 3 then
 (spec_l1Int k r3.2 ([0, 4, 5])).bind fun r7 =>
 if 0 ≤ r2.1 then
 if r2.1 < ((List.length r1.1 : Nat) : Int) then
 some ((setAt T45 r1.1 r2.1 (fun yy => (yy.1, (yy.2.1, (yy.2.2.1, (r7.1, ())))))), r7.2) else none else none
 else if (r3.1 : Int) = 4 then
 if 0 ≤ 0 then
 if 0 < ((List.length r1.1 : Nat) : Int) then
 if (List.length r1.1 + List.length ([(rd T45 r1.1 0)] : (List DT45))) * 32 ≤ 211106232532992 then
 some ((r1.1 ++ ([(rd T45 r1.1 0)] : (List DT45))), r3.2) else none else none else none
 else some (r1.1, r3.2) := by kernel_rfl
theorem strings_Join_eq (k : Nat) (elems_0 : (List ByteArray)) (sep_1 : ByteArray) : strings_Join (k + 1) elems_0 sep_1 = primJoin .str [.val (.list .str) elems_0, .val .str sep_1] := by kernel_rfl
theorem spec_l13Part_eq (k : Nat) (c_0 : DT82) : spec_l13Part (k + 1) c_0 =
 (spec_l8Tune k c_0 1 9).bind fun r1 =>
 (spec_EndOf k r1.1).bind fun r2 =>
 (spec_l1Below k r1.2 30).bind fun r3 =>
 (spec_PartFrom k r1.1 1 (IntKind.wrap .i64 (r2 + r3.1))).bind fun r4 =>
 if (0 : Int) < ((List.length r4.1 : Nat) : Int) then
 (spec_l1Below k r3.2 ((List.length r4.1 : Nat) : Int)).bind fun r5 =>
 (spec_l1Below k r5.2 9).bind fun r6 =>
 if (r6.1 : Int) = 0 then
 (spec_l4Raw k r6.2).bind fun r7 =>
 if 0 ≤ r5.1 then
 if r5.1 < ((List.length r4.1 : Nat) : Int) then
 some ((setAt T50 r4.1 r5.1 (fun yy => (r7.1, yy.2))), r7.2) else none else none
 else if (r6.1 : Int) = 1 then
 (spec_l1Int k r6.2 ([0, 96, 97, 3000, 3001])).bind fun r8 =>
 if 0 ≤ r5.1 then
 if r5.1 < ((List.length r4.1 : Nat) : Int) then
 some ((setAt T50 r4.1 r5.1 (fun yy => (yy.1, (r8.1, yy.2.2)))), r8.2) else none else none
 else if (r6.1 : Int) = 2 then
 (spec_l1Int k r6.2 ([0, 20, 109])).bind fun r9 =>
 if 0 ≤ r5.1 then
 if r5.1 < ((List.length r4.1 : Nat) : Int) then
 some ((setAt T50 r4.1 r5.1 (fun yy => (yy.1, (yy.2.1, (r9.1, ()))))), r9.2) else none else none
 else some (r4.1, r6.2)
 else some (r4.1, r3.2) := by kernel_rfl
theorem impl_FormatPart_1_eq (k : Nat) (s_0 : DT50) : impl_FormatPart_1 (k + 1) s_0 =
 if (s_0.2.2.1 : Int) ≠ 0 then
 (impl_spelled k s_0.2.2.1).bind fun r1 =>
 if r1.size + (ByteArray.mk #[47]).size ≤ 211106232532992 then
 (impl_FormatInt k s_0.2.1).bind fun r2 =>
 if (r1 ++ (ByteArray.mk #[47])).size + r2.size ≤ 211106232532992 then
 some ((r1 ++ (ByteArray.mk #[47])) ++ r2) else none else none
 else if (ByteArray.mk #[114]).size + (ByteArray.mk #[47]).size ≤ 211106232532992 then
 (impl_FormatInt k s_0.2.1).bind fun r3 =>
 if ((ByteArray.mk #[114]) ++ (ByteArray.mk #[47])).size + r3.size ≤ 211106232532992 then
 some (((ByteArray.mk #[114]) ++ (ByteArray.mk #[47])) ++ r3) else none else none := by kernel_rfl
theorem spec_l33Any_eq (k : Nat) (c_0 : DT82) : spec_l33Any (k + 1) c_0 =
 (spec_l33Draw k c_0).bind fun r1 =>
 (spec_l1Below k r1.2 14).bind fun r2 =>
 if (r2.1 : Int) = 0 then
 (spec_l8Any k r2.2).bind fun r3 =>
 some ((r3.1, r1.1.2), r3.2)
 else if (r2.1 : Int) = 1 then
 (spec_l10Any k r2.2).bind fun r4 =>
 some ((r1.1.1, (r4.1, r1.1.2.2)), r4.2)
 else if (r2.1 : Int) = 2 then
 (spec_l11Any k r2.2).bind fun r5 =>
 some ((r1.1.1, (r1.1.2.1, (r5.1, r1.1.2.2.2))), r5.2)
 else if (r2.1 : Int) = 3 then
 (spec_l29Any k r2.2).bind fun r6 =>
 some ((r1.1.1, (r1.1.2.1, (r1.1.2.2.1, (r6.1, r1.1.2.2.2.2)))), r6.2)
 else if (r2.1 : Int) = 4 then
 some ((r1.1.1, (r1.1.2.1, (r1.1.2.2.1, (r1.1.2.2.2.1, ([1, 1], r1.1.2.2.2.2.2))))), r2.2)
 else if (r2.1 : Int) = 5 then
 (spec_l25Any k r2.2).bind fun r7 =>
 some ((r1.1.1, (r1.1.2.1, (r1.1.2.2.1, (r1.1.2.2.2.1, (r1.1.2.2.2.2.1, (r7.1, r1.1.2.2.2.2.2.2)))))), r7.2)
 else if (r2.1 : Int) = 6 then
 (spec_l26Any k r2.2).bind fun r8 =>
 some ((r1.1.1, (r1.1.2.1, (r1.1.2.2.1, (r1.1.2.2.2.1, (r1.1.2.2.2.2.1, (r1.1.2.2.2.2.2.1, (r8.1, r1.1.2.2.2.2.2.2.2))))))), r8.2)
 else if (r2.1 : Int) = 7 then
 (spec_l1Int k r2.2 ([0, 9999, 10000])).bind fun r9 =>
 some ((r1.1.1, (r1.1.2.1, (r1.1.2.2.1, (r1.1.2.2.2.1, (r1.1.2.2.2.2.1, (r1.1.2.2.2.2.2.1, (r1.1.2.2.2.2.2.2.1, (r9.1, r1.1.2.2.2.2.2.2.2.2)))))))), r9.2)
 else if (r2.1 : Int) = 8 then
 (spec_l1Int k r2.2 ([(-1), 100000, 100001])).bind fun r10 =>
 some ((r1.1.1, (r1.1.2.1, (r1.1.2.2.1, (r1.1.2.2.2.1, (r1.1.2.2.2.2.1, (r1.1.2.2.2.2.2.1, (r1.1.2.2.2.2.2.2.1, (r1.1.2.2.2.2.2.2.2.1, (r10.1, ()))))))))), r10.2)
 else some (r1.1, r2.2) := by kernel_rfl
theorem impl_ChordText_eq (k : Nat) (x_0 : DT31) : impl_ChordText (k + 1) x_0 =
 (impl_IsChord k x_0).bind fun r1 =>
 if ¬ (r1 = true) then
 some (ByteArray.mk #[])
 else if 0 ≤ x_0.1 then
 if x_0.1 < ((List.length ([(ByteArray.mk #[99]), (ByteArray.mk #[99, 35]), (ByteArray.mk #[100]), (ByteArray.mk #[100, 35]), (ByteArray.mk #[101]), (ByteArray.mk #[102]), (ByteArray.mk #[102, 35]), (ByteArray.mk #[103]), (ByteArray.mk #[103, 35]), (ByteArray.mk #[97]), (ByteArray.mk #[97, 35]), (ByteArray.mk #[98])]) : Nat) : Int) then
 if 0 ≤ (IntKind.wrap .i64 (x_0.2.1 - 1)) then
 if (IntKind.wrap .i64 (x_0.2.1 - 1)) < ((List.length ([(ByteArray.mk #[]), (ByteArray.mk #[109]), (ByteArray.mk #[111]), (ByteArray.mk #[43]), (ByteArray.mk #[55])]) : Nat) : Int) then
 if (rd .str ([(ByteArray.mk #[99]), (ByteArray.mk #[99, 35]), (ByteArray.mk #[100]), (ByteArray.mk #[100, 35]), (ByteArray.mk #[101]), (ByteArray.mk #[102]), (ByteArray.mk #[102, 35]), (ByteArray.mk #[103]), (ByteArray.mk #[103, 35]), (ByteArray.mk #[97]), (ByteArray.mk #[97, 35]), (ByteArray.mk #[98])]) x_0.1).size + (rd .str ([(ByteArray.mk #[]), (ByteArray.mk #[109]), (ByteArray.mk #[111]), (ByteArray.mk #[43]), (ByteArray.mk #[55])]) (IntKind.wrap .i64 (x_0.2.1 - 1))).size ≤ 211106232532992 then
 some ((rd .str ([(ByteArray.mk #[99]), (ByteArray.mk #[99, 35]), (ByteArray.mk #[100]), (ByteArray.mk #[100, 35]), (ByteArray.mk #[101]), (ByteArray.mk #[102]), (ByteArray.mk #[102, 35]), (ByteArray.mk #[103]), (ByteArray.mk #[103, 35]), (ByteArray.mk #[97]), (ByteArray.mk #[97, 35]), (ByteArray.mk #[98])]) x_0.1) ++ (rd .str ([(ByteArray.mk #[]), (ByteArray.mk #[109]), (ByteArray.mk #[111]), (ByteArray.mk #[43]), (ByteArray.mk #[55])]) (IntKind.wrap .i64 (x_0.2.1 - 1)))) else none else none else none else none else none := by kernel_rfl
theorem impl_FormatFaults_1_eq (k : Nat) (f_0 : DT31) : impl_FormatFaults_1 (k + 1) f_0 =
 (impl_InRange k f_0.1 1 3).bind fun r1 =>
 if r1 = true then
 if 0 ≤ (IntKind.wrap .i64 (f_0.1 - 1)) then
 if (IntKind.wrap .i64 (f_0.1 - 1)) < ((List.length ([(ByteArray.mk #[112, 97, 114, 97, 108, 108, 101, 108]), (ByteArray.mk #[99, 114, 111, 115, 115, 105, 110, 103]), (ByteArray.mk #[108, 101, 97, 112])]) : Nat) : Int) then
 if (rd .str ([(ByteArray.mk #[112, 97, 114, 97, 108, 108, 101, 108]), (ByteArray.mk #[99, 114, 111, 115, 115, 105, 110, 103]), (ByteArray.mk #[108, 101, 97, 112])]) (IntKind.wrap .i64 (f_0.1 - 1))).size + (ByteArray.mk #[64]).size ≤ 211106232532992 then
 (impl_FormatInt k f_0.2.1).bind fun r2 =>
 if ((rd .str ([(ByteArray.mk #[112, 97, 114, 97, 108, 108, 101, 108]), (ByteArray.mk #[99, 114, 111, 115, 115, 105, 110, 103]), (ByteArray.mk #[108, 101, 97, 112])]) (IntKind.wrap .i64 (f_0.1 - 1))) ++ (ByteArray.mk #[64])).size + r2.size ≤ 211106232532992 then
 some (((rd .str ([(ByteArray.mk #[112, 97, 114, 97, 108, 108, 101, 108]), (ByteArray.mk #[99, 114, 111, 115, 115, 105, 110, 103]), (ByteArray.mk #[108, 101, 97, 112])]) (IntKind.wrap .i64 (f_0.1 - 1))) ++ (ByteArray.mk #[64])) ++ r2) else none else none else none else none
 else if (ByteArray.mk #[111, 116, 104, 101, 114]).size + (ByteArray.mk #[64]).size ≤ 211106232532992 then
 (impl_FormatInt k f_0.2.1).bind fun r3 =>
 if ((ByteArray.mk #[111, 116, 104, 101, 114]) ++ (ByteArray.mk #[64])).size + r3.size ≤ 211106232532992 then
 some (((ByteArray.mk #[111, 116, 104, 101, 114]) ++ (ByteArray.mk #[64])) ++ r3) else none else none := by kernel_rfl
theorem spec_l1Below_eq (k : Nat) (c_0 : DT82) (n_1 : Int) : spec_l1Below (k + 1) c_0 n_1 =
 if (n_1 : Int) ≤ 0 then
 some (0, c_0)
 else if (n_1 : Int) ≤ 256 then
 (spec_l1Byte k c_0).bind fun r1 =>
 if n_1 = (0 : Int) then
 none
 else some ((Int.tmod r1.1 n_1), r1.2)
 else (spec_l1Byte k c_0).bind fun r2 =>
 (spec_l1Byte k r2.2).bind fun r3 =>
 (spec_l1Byte k r3.2).bind fun r4 =>
 if n_1 = (0 : Int) then
 none
 else some ((Int.tmod (IntKind.wrap .i64 ((IntKind.wrap .i64 ((IntKind.wrap .i64 (r2.1 * 65536)) + (IntKind.wrap .i64 (r3.1 * 256)))) + r4.1)) n_1), r4.2) := by kernel_rfl
theorem impl_SpellSharp_eq (k : Nat) (pitch_0 : Int) : impl_SpellSharp (k + 1) pitch_0 =
 (impl_InRange k pitch_0 12 119).bind fun r1 =>
 if ¬ (r1 = true) then
 some ((0, (0, (0, ()))), (false, ()))
 else impl_SpellSharp.l0 k k pitch_0 0 0 0 0 := by kernel_rfl
theorem impl_SpellSharp.l0_eq (k m : Nat) (b0_0 : Int) (b1_0 : Int) (b1_1 : Int) (b1_2 : Int) (b2_0 : Int) : impl_SpellSharp.l0 k (m + 1) b0_0 b1_0 b1_1 b1_2 b2_0 =
 if (b2_0 : Int) ≤ 1 then
 (impl_notes_52 k b0_0 b2_0).bind fun r2 =>
 if r2.2.1 = true then
 some (r2.1, (true, ()))
 else impl_SpellSharp.l0 k m b0_0 b1_0 b1_1 b1_2 (IntKind.wrap .i64 (b2_0 + 1))
 else some ((0, (0, (0, ()))), (false, ())) := by kernel_rfl
theorem impl_NoteText_eq (k : Nat) (x_0 : DT50) : impl_NoteText (k + 1) x_0 =
 (impl_IsNote k x_0).bind fun r1 =>
 if ¬ (r1 = true) then
 some (ByteArray.mk #[])
 else if 0 ≤ (IntKind.wrap .i64 (x_0.1 + 1)) then
 if (IntKind.wrap .i64 (x_0.1 + 1)) ≤ (((ByteArray.mk #[99, 100, 101, 102, 103, 97, 98]).size : Nat) : Int) then
 if 0 ≤ x_0.1 then
 if x_0.1 ≤ (IntKind.wrap .i64 (x_0.1 + 1)) then
 (strings_Repeat k (ByteArray.mk #[35]) (max x_0.2.1 0 : Int)).bind fun r2 =>
 if (ByteArray.extract (ByteArray.mk #[99, 100, 101, 102, 103, 97, 98]) (Int.toNat x_0.1) (Int.toNat (IntKind.wrap .i64 (x_0.1 + 1)))).size + r2.size ≤ 211106232532992 then
 (strings_Repeat k (ByteArray.mk #[98]) (max (IntKind.wrap .i64 (-x_0.2.1)) 0 : Int)).bind fun r3 =>
 if ((ByteArray.extract (ByteArray.mk #[99, 100, 101, 102, 103, 97, 98]) (Int.toNat x_0.1) (Int.toNat (IntKind.wrap .i64 (x_0.1 + 1)))) ++ r2).size + r3.size ≤ 211106232532992 then
 (impl_FormatInt k x_0.2.2.1).bind fun r4 =>
 if (((ByteArray.extract (ByteArray.mk #[99, 100, 101, 102, 103, 97, 98]) (Int.toNat x_0.1) (Int.toNat (IntKind.wrap .i64 (x_0.1 + 1)))) ++ r2) ++ r3).size + r4.size ≤ 211106232532992 then
 some ((((ByteArray.extract (ByteArray.mk #[99, 100, 101, 102, 103, 97, 98]) (Int.toNat x_0.1) (Int.toNat (IntKind.wrap .i64 (x_0.1 + 1)))) ++ r2) ++ r3) ++ r4) else none else none else none else none else none else none else none := by kernel_rfl
theorem strconv_Itoa_eq (k : Nat) (i_0 : Int) : strconv_Itoa (k + 1) i_0 = primItoa .str [.val (.int .i64) i_0] := by kernel_rfl
theorem spec_l8Draw_eq (k : Nat) (c_0 : DT82) : spec_l8Draw (k + 1) c_0 =
 (spec_l1Below k c_0 13).bind fun r1 =>
 spec_l8Draw.l0 k k r1.1 r1.2.1 r1.2.2.1 r1.2.2.2.1 [] := by kernel_rfl
theorem spec_l8Draw.l0_eq (k m : Nat) (i_4 : Int) (b0_0 : (List Int)) (b0_1 : Int) (b0_2 : Int) (s1 : (List DT45)) : spec_l8Draw.l0 k (m + 1) i_4 b0_0 b0_1 b0_2 s1 =
 if (0 : Int) < i_4 then
 (spec_l8Event k (b0_0, (b0_1, (b0_2, ())))).bind fun r2 =>
 (spec_PutEvent k s1 r2.1).bind fun r3 =>
 spec_l8Draw.l0 k m (IntKind.wrap .i64 (i_4 - 1)) r2.2.1 r2.2.2.1 r2.2.2.2.1 r3.1
 else some (s1, (b0_0, (b0_1, (b0_2, ())))) := by kernel_rfl
theorem spec_l8Tune_eq (k : Nat) (c_0 : DT82) (voice_1 : Int) (most_2 : Int) : spec_l8Tune (k + 1) c_0 voice_1 most_2 =
 (spec_l1Below k c_0 most_2).bind fun r1 =>
 spec_l8Tune.l0 k k voice_1 0 r1.1 r1.2.1 r1.2.2.1 r1.2.2.2.1 [] := by kernel_rfl
theorem spec_l8Tune.l0_eq (k m : Nat) (voice_1 : Int) (at_8 : Int) (i_9 : Int) (b0_0 : (List Int)) (b0_1 : Int) (b0_2 : Int) (s1 : (List DT45)) : spec_l8Tune.l0 k (m + 1) voice_1 at_8 i_9 b0_0 b0_1 b0_2 s1 =
 if (0 : Int) < i_9 then
 (spec_l1Below k (b0_0, (b0_1, (b0_2, ()))) 3).bind fun r2 =>
 (spec_l1Below k r2.2 8).bind fun r3 =>
 (spec_l1Once k r3.2 5).bind fun r4 =>
 if r4.1 = true then
 (spec_PutEvent k s1 (at_8, (IntKind.wrap .i64 (6 * (IntKind.wrap .i64 (1 + r2.1))), (IntKind.wrap .i64 (60 + r3.1), (voice_1, ()))))).bind fun r5 =>
 spec_l8Tune.l0 k m voice_1 (IntKind.wrap .i64 ((IntKind.wrap .i64 (at_8 + (IntKind.wrap .i64 (6 * (IntKind.wrap .i64 (1 + r2.1)))))) + 12)) (IntKind.wrap .i64 (i_9 - 1)) r4.2.1 r4.2.2.1 r4.2.2.2.1 r5.1
 else (spec_PutEvent k s1 (at_8, (IntKind.wrap .i64 (6 * (IntKind.wrap .i64 (1 + r2.1))), (IntKind.wrap .i64 (60 + r3.1), (voice_1, ()))))).bind fun r6 =>
 spec_l8Tune.l0 k m voice_1 (IntKind.wrap .i64 (at_8 + (IntKind.wrap .i64 (6 * (IntKind.wrap .i64 (1 + r2.1)))))) (IntKind.wrap .i64 (i_9 - 1)) r4.2.1 r4.2.2.1 r4.2.2.2.1 r6.1
 else some (s1, (b0_0, (b0_1, (b0_2, ())))) := by kernel_rfl
theorem spec_EndOf_eq (k : Nat) (l_0 : (List DT45)) : spec_EndOf (k + 1) l_0 =
 spec_EndOf.l0 k k l_0 0 0 := by kernel_rfl
theorem spec_EndOf.l0_eq (k m : Nat) (l_0 : (List DT45)) (n_3 : Int) (i_4 : Int) : spec_EndOf.l0 k (m + 1) l_0 n_3 i_4 =
 if (i_4 : Int) < ((List.length l_0 : Nat) : Int) then
 (spec_IsScore k l_0).bind fun r1 =>
 if r1 = true then
 if 0 ≤ i_4 then
 if i_4 < ((List.length l_0 : Nat) : Int) then
 if 0 ≤ i_4 then
 if i_4 < ((List.length l_0 : Nat) : Int) then
 (spec_Max k n_3 (IntKind.wrap .i64 ((rd T45 l_0 i_4).1 + (rd T45 l_0 i_4).2.1))).bind fun r2 =>
 spec_EndOf.l0 k m l_0 r2 (IntKind.wrap .i64 (i_4 + 1)) else none else none else none else none
 else some n_3
 else some n_3 := by kernel_rfl
theorem spec_PartFrom_eq (k : Nat) (l_0 : (List DT45)) (voice_1 : Int) (end_2 : Int) : spec_PartFrom (k + 1) l_0 voice_1 end_2 =
 (spec_VoiceOf k l_0 voice_1).bind fun r1 =>
 spec_PartFrom.l0 k k l_0 end_2 0 0 [] r1 := by kernel_rfl
theorem spec_PartFrom.l0_eq (k m : Nat) (l_0 : (List DT45)) (end_2 : Int) (at_10 : Int) (i_11 : Int) (s0 : (List DT50)) (s1 : (List DT45)) : spec_PartFrom.l0 k (m + 1) l_0 end_2 at_10 i_11 s0 s1 =
 if (i_11 : Int) < ((List.length s1 : Nat) : Int) then
 (spec_IsScore k l_0).bind fun r2 =>
 if r2 = true then
 if 0 ≤ i_11 then
 if i_11 < ((List.length s1 : Nat) : Int) then
 if LT.lt (α := Int) (rd T45 s1 i_11).1 at_10 then
 some ([], (false, ()))
 else if 0 ≤ i_11 then
 if i_11 < ((List.length s1 : Nat) : Int) then
 if LT.lt (α := Int) at_10 (rd T45 s1 i_11).1 then
 if 0 ≤ i_11 then
 if i_11 < ((List.length s1 : Nat) : Int) then
 if (List.length s0 + List.length ([(at_10, (IntKind.wrap .i64 ((rd T45 s1 i_11).1 - at_10), (0, ())))] : (List DT50))) * 24 ≤ 211106232532992 then
 if 0 ≤ i_11 then
 if i_11 < ((List.length s1 : Nat) : Int) then
 if 0 ≤ i_11 then
 if i_11 < ((List.length s1 : Nat) : Int) then
 if 0 ≤ i_11 then
 if i_11 < ((List.length s1 : Nat) : Int) then
 if (List.length (s0 ++ ([(at_10, (IntKind.wrap .i64 ((rd T45 s1 i_11).1 - at_10), (0, ())))] : (List DT50))) + List.length ([((rd T45 s1 i_11).1, ((rd T45 s1 i_11).2.1, ((rd T45 s1 i_11).2.2.1, ())))] : (List DT50))) * 24 ≤ 211106232532992 then
 if 0 ≤ i_11 then
 if i_11 < ((List.length s1 : Nat) : Int) then
 if 0 ≤ i_11 then
 if i_11 < ((List.length s1 : Nat) : Int) then
 spec_PartFrom.l0 k m l_0 end_2 (IntKind.wrap .i64 ((rd T45 s1 i_11).1 + (rd T45 s1 i_11).2.1)) (IntKind.wrap .i64 (i_11 + 1)) ((s0 ++ ([(at_10, (IntKind.wrap .i64 ((rd T45 s1 i_11).1 - at_10), (0, ())))] : (List DT50))) ++ ([((rd T45 s1 i_11).1, ((rd T45 s1 i_11).2.1, ((rd T45 s1 i_11).2.2.1, ())))] : (List DT50))) s1 else none else none else none else none else none else none else none else none else none else none else none else none else none else none
 else if 0 ≤ i_11 then
 if i_11 < ((List.length s1 : Nat) : Int) then
 if 0 ≤ i_11 then
 if i_11 < ((List.length s1 : Nat) : Int) then
 if 0 ≤ i_11 then
 if i_11 < ((List.length s1 : Nat) : Int) then
 if (List.length s0 + List.length ([((rd T45 s1 i_11).1, ((rd T45 s1 i_11).2.1, ((rd T45 s1 i_11).2.2.1, ())))] : (List DT50))) * 24 ≤ 211106232532992 then
 if 0 ≤ i_11 then
 if i_11 < ((List.length s1 : Nat) : Int) then
 if 0 ≤ i_11 then
 if i_11 < ((List.length s1 : Nat) : Int) then
 spec_PartFrom.l0 k m l_0 end_2 (IntKind.wrap .i64 ((rd T45 s1 i_11).1 + (rd T45 s1 i_11).2.1)) (IntKind.wrap .i64 (i_11 + 1)) (s0 ++ ([((rd T45 s1 i_11).1, ((rd T45 s1 i_11).2.1, ((rd T45 s1 i_11).2.2.1, ())))] : (List DT50))) s1 else none else none else none else none else none else none else none else none else none else none else none else none else none else none else none
 else (spec_IsScore k l_0).bind fun r3 =>
 if ¬ (r3 = true) then
 some ([], (false, ()))
 else if (end_2 : Int) < at_10 then
 some ([], (false, ()))
 else if (2096 : Int) < end_2 then
 some ([], (false, ()))
 else if (at_10 : Int) < end_2 then
 if (List.length s0 + List.length ([(at_10, (IntKind.wrap .i64 (end_2 - at_10), (0, ())))] : (List DT50))) * 24 ≤ 211106232532992 then
 some ((s0 ++ ([(at_10, (IntKind.wrap .i64 (end_2 - at_10), (0, ())))] : (List DT50))), (true, ())) else none
 else some (s0, (true, ()))
 else (spec_IsScore k l_0).bind fun r4 =>
 if ¬ (r4 = true) then
 some ([], (false, ()))
 else if (end_2 : Int) < at_10 then
 some ([], (false, ()))
 else if (2096 : Int) < end_2 then
 some ([], (false, ()))
 else if (at_10 : Int) < end_2 then
 if (List.length s0 + List.length ([(at_10, (IntKind.wrap .i64 (end_2 - at_10), (0, ())))] : (List DT50))) * 24 ≤ 211106232532992 then
 some ((s0 ++ ([(at_10, (IntKind.wrap .i64 (end_2 - at_10), (0, ())))] : (List DT50))), (true, ())) else none
 else some (s0, (true, ())) := by kernel_rfl
theorem spec_l4Raw_eq (k : Nat) (c_0 : DT82) : spec_l4Raw (k + 1) c_0 =
 (spec_l1Int k c_0 ([(-1), 0, 1, 1000000000, (-1000000000), 1000000001, 1000000, 1000001, 9223372036854775807, (-9223372036854775808)])).bind fun r1 =>
 some (r1.1, r1.2) := by kernel_rfl
theorem spec_l33Draw_eq (k : Nat) (c_0 : DT82) : spec_l33Draw (k + 1) c_0 =
 (spec_l10Draw k c_0).bind fun r1 =>
 (spec_l33Voices k r1.2).bind fun r2 =>
 (spec_NewOrchestra k r1.1 r2.1).bind fun r3 =>
 (spec_l13Score k r2.2).bind fun r4 =>
 (spec_l11Draw k r4.2).bind fun r5 =>
 (spec_l25Draw k r5.2).bind fun r6 =>
 (spec_l26Draw k r6.2).bind fun r7 =>
 (spec_SeatPlayers k r3.1.2.2.2.1 r4.1 2).bind fun r8 =>
 if r8.2.1 = true then
 (spec_l1Once k r7.2 5).bind fun r9 =>
 if ¬ (r9.1 = true) then
 some ((r4.1, (r3.1.2.1, (r5.1, (r3.1.2.2.2.1, (r8.1, (r6.1, (r7.1, r3.1.2.2.2.2.2.2.2))))))), r9.2)
 else some ((r4.1, (r3.1.2.1, (r5.1, (r3.1.2.2.2.1, (r3.1.2.2.2.2.1, (r6.1, (r7.1, r3.1.2.2.2.2.2.2.2))))))), r9.2)
 else some ((r4.1, (r3.1.2.1, (r5.1, (r3.1.2.2.2.1, (r3.1.2.2.2.2.1, (r6.1, (r7.1, r3.1.2.2.2.2.2.2.2))))))), r7.2) := by kernel_rfl
theorem spec_l10Any_eq (k : Nat) (c_0 : DT82) : spec_l10Any (k + 1) c_0 =
 (spec_l10Draw k c_0).bind fun r1 =>
 (spec_l1Below k r1.2 9).bind fun r2 =>
 if (r2.1 : Int) = 0 then
 (spec_l1Int k r2.2 ([0, 12, 13])).bind fun r3 =>
 some ((r3.1, r1.1.2), r3.2)
 else if (r2.1 : Int) = 1 then
 (spec_l1Int k r2.2 ([0, 1, 3, 16])).bind fun r4 =>
 some ((r1.1.1, (r4.1, ())), r4.2)
 else some (r1.1, r2.2) := by kernel_rfl
theorem spec_l11Any_eq (k : Nat) (c_0 : DT82) : spec_l11Any (k + 1) c_0 =
 (spec_l11Draw k c_0).bind fun r1 =>
 (spec_l1Below k r1.2 ((List.length r1.1 : Nat) : Int)).bind fun r2 =>
 (spec_l1Below k r2.2 9).bind fun r3 =>
 if (r3.1 : Int) = 0 then
 (spec_l1Int k r3.2 ([(-1), 0, 2000, 2001])).bind fun r4 =>
 if 0 ≤ r2.1 then
 if r2.1 < ((List.length r1.1 : Nat) : Int) then
 some ((setAt T31 r1.1 r2.1 (fun yy => (r4.1, yy.2))), r4.2) else none else none
 else if (r3.1 : Int) = 1 then
 (spec_l1Int k r3.2 ([19, 20, 300, 301])).bind fun r5 =>
 if 0 ≤ r2.1 then
 if r2.1 < ((List.length r1.1 : Nat) : Int) then
 some ((setAt T31 r1.1 r2.1 (fun yy => (yy.1, (r5.1, ())))), r5.2) else none else none
 else if (r3.1 : Int) = 2 then
 some ([], r3.2)
 else some (r1.1, r3.2) := by kernel_rfl
theorem spec_l29Any_eq (k : Nat) (c_0 : DT82) : spec_l29Any (k + 1) c_0 =
 (spec_l29Draw k c_0).bind fun r1 =>
 (spec_l1Below k r1.2 ((List.length r1.1 : Nat) : Int)).bind fun r2 =>
 (spec_l1Below k r2.2 9).bind fun r3 =>
 if (r3.1 : Int) = 0 then
 (spec_l1Int k r3.2 ([0, 2, 99, 100])).bind fun r4 =>
 if 0 ≤ r2.1 then
 if r2.1 < ((List.length r1.1 : Nat) : Int) then
 some ((setAt T126 r1.1 r2.1 (fun yy => (r4.1, yy.2))), r4.2) else none else none
 else if (r3.1 : Int) = 1 then
 (spec_l1Int k r3.2 ([20, 21, 108])).bind fun r5 =>
 if 0 ≤ r2.1 then
 if r2.1 < ((List.length r1.1 : Nat) : Int) then
 some ((setAt T126 r1.1 r2.1 (fun yy => (yy.1, (r5.1, yy.2.2)))), r5.2) else none else none
 else if (r3.1 : Int) = 2 then
 (spec_l1Int k r3.2 ([20, 108, 109])).bind fun r6 =>
 if 0 ≤ r2.1 then
 if r2.1 < ((List.length r1.1 : Nat) : Int) then
 some ((setAt T126 r1.1 r2.1 (fun yy => (yy.1, (yy.2.1, (r6.1, yy.2.2.2))))), r6.2) else none else none
 else if (r3.1 : Int) = 3 then
 if 0 ≤ r2.1 then
 if r2.1 < ((List.length r1.1 : Nat) : Int) then
 some ((List.set r1.1 (Int.toNat r2.1) ((rd T126 r1.1 r2.1).1, ((rd T126 r1.1 r2.1).2.1, ((rd T126 r1.1 r2.1).2.2.1, ([2, 1], (rd T126 r1.1 r2.1).2.2.2.2))))), r3.2) else none else none
 else some (r1.1, r3.2) := by kernel_rfl
theorem spec_l25Any_eq (k : Nat) (c_0 : DT82) : spec_l25Any (k + 1) c_0 =
 (spec_l25Draw k c_0).bind fun r1 =>
 if (((List.length r1.1 : Nat) : Int) : Int) = 0 then
 some (r1.1, r1.2)
 else (spec_l1Below k r1.2 ((List.length r1.1 : Nat) : Int)).bind fun r2 =>
 (spec_l1Below k r2.2 9).bind fun r3 =>
 if (r3.1 : Int) = 0 then
 (spec_l1Int k r3.2 ([0, 100, 101])).bind fun r4 =>
 if 0 ≤ r2.1 then
 if r2.1 < ((List.length r1.1 : Nat) : Int) then
 some ((setAt T128 r1.1 r2.1 (fun yy => (r4.1, yy.2))), r4.2) else none else none
 else if (r3.1 : Int) = 1 then
 (spec_l1Int k r3.2 ([0, 4, 5])).bind fun r5 =>
 if 0 ≤ r2.1 then
 if r2.1 < ((List.length r1.1 : Nat) : Int) then
 some ((setAt T128 r1.1 r2.1 (fun yy => (yy.1, (r5.1, yy.2.2)))), r5.2) else none else none
 else if (r3.1 : Int) = 2 then
 (spec_l1Int k r3.2 ([(-1), 9, 10])).bind fun r6 =>
 if 0 ≤ r2.1 then
 if r2.1 < ((List.length r1.1 : Nat) : Int) then
 some ((setAt T128 r1.1 r2.1 (fun yy => (yy.1, (yy.2.1, (r6.1, yy.2.2.2))))), r6.2) else none else none
 else if (r3.1 : Int) = 3 then
 (spec_l1Int k r3.2 ([(-1), 100000, 100001])).bind fun r7 =>
 if 0 ≤ r2.1 then
 if r2.1 < ((List.length r1.1 : Nat) : Int) then
 some ((setAt T128 r1.1 r2.1 (fun yy => (yy.1, (yy.2.1, (yy.2.2.1, (r7.1, yy.2.2.2.2)))))), r7.2) else none else none
 else if (r3.1 : Int) = 4 then
 (spec_l1Int k r3.2 ([0, 99, 100])).bind fun r8 =>
 if 0 ≤ r2.1 then
 if r2.1 < ((List.length r1.1 : Nat) : Int) then
 some ((setAt T128 r1.1 r2.1 (fun yy => (yy.1, (yy.2.1, (yy.2.2.1, (yy.2.2.2.1, (r8.1, ()))))))), r8.2) else none else none
 else some (r1.1, r3.2) := by kernel_rfl
theorem spec_l26Any_eq (k : Nat) (c_0 : DT82) : spec_l26Any (k + 1) c_0 =
 (spec_l26Draw k c_0).bind fun r1 =>
 if (((List.length r1.1 : Nat) : Int) : Int) = 0 then
 some (r1.1, r1.2)
 else (spec_l1Below k r1.2 ((List.length r1.1 : Nat) : Int)).bind fun r2 =>
 (spec_l1Below k r2.2 9).bind fun r3 =>
 if (r3.1 : Int) = 0 then
 (spec_l1Int k r3.2 ([0, 1, 9])).bind fun r4 =>
 if 0 ≤ r2.1 then
 if r2.1 < ((List.length r1.1 : Nat) : Int) then
 some ((setAt T31 r1.1 r2.1 (fun yy => (r4.1, yy.2))), r4.2) else none else none
 else if (r3.1 : Int) = 1 then
 (spec_l1Int k r3.2 ([0, 1, 500, 501])).bind fun r5 =>
 if 0 ≤ r2.1 then
 if r2.1 < ((List.length r1.1 : Nat) : Int) then
 some ((setAt T31 r1.1 r2.1 (fun yy => (yy.1, (r5.1, ())))), r5.2) else none else none
 else some (r1.1, r3.2) := by kernel_rfl
theorem impl_IsChord_eq (k : Nat) (x_0 : DT31) : impl_IsChord (k + 1) x_0 =
 (impl_InRange k x_0.1 0 11).bind fun r1 =>
 if r1 = true then
 (impl_InRange k x_0.2.1 1 5).bind fun r2 =>
 some (decide (r2 = true))
 else some false := by kernel_rfl
theorem impl_InRange_eq (k : Nat) (n_0 : Int) (low_1 : Int) (high_2 : Int) : impl_InRange (k + 1) n_0 low_1 high_2 =
 if (low_1 : Int) ≤ n_0 then
 some (decide ((n_0 : Int) ≤ high_2))
 else some false := by kernel_rfl
theorem spec_l1Byte_eq (k : Nat) (c_0 : DT82) : spec_l1Byte (k + 1) c_0 =
 if (33 : Int) < 0 then
 none
 else if (47 : Int) < 0 then
 none
 else if (c_0.2.1 : Int) < ((List.length c_0.1 : Nat) : Int) then
 if 0 ≤ c_0.2.1 then
 if c_0.2.1 < ((List.length c_0.1 : Nat) : Int) then
 some (IntKind.wrap .i64 (((BitVec.ofInt (IntKind.bits .i64) (IntKind.wrap .i64 ((IntKind.wrap .i64 (((BitVec.ofInt (IntKind.bits .i64) (IntKind.wrap .i64 (((BitVec.ofInt (IntKind.bits .i64) (Int.fdiv (IntKind.wrap .i64 ((IntKind.wrap .i64 (c_0.2.2.1 * 6364136223846793005)) + 1442695040888963407)) (2 ^ (min (Int.toNat 33) (IntKind.bits .i64)))) ^^^ BitVec.ofInt (IntKind.bits .i64) (Int.fdiv (IntKind.wrap .i64 ((IntKind.wrap .i64 (c_0.2.2.1 * 6364136223846793005)) + 1442695040888963407)) (2 ^ (min (Int.toNat 47) (IntKind.bits .i64))))).toNat : Nat))) &&& BitVec.ofInt (IntKind.bits .i64) 255).toNat : Nat))) + (IntKind.wrap .i64 ((rd (.int .u8) c_0.1 c_0.2.1))))) &&& BitVec.ofInt (IntKind.bits .i64) 255).toNat : Nat)), (c_0.1, (IntKind.wrap .i64 (c_0.2.1 + 1), (IntKind.wrap .i64 ((IntKind.wrap .i64 (c_0.2.2.1 * 6364136223846793005)) + 1442695040888963407), ())))) else none else none
 else some (IntKind.wrap .i64 (((BitVec.ofInt (IntKind.bits .i64) (IntKind.wrap .i64 (((BitVec.ofInt (IntKind.bits .i64) (Int.fdiv (IntKind.wrap .i64 ((IntKind.wrap .i64 (c_0.2.2.1 * 6364136223846793005)) + 1442695040888963407)) (2 ^ (min (Int.toNat 33) (IntKind.bits .i64)))) ^^^ BitVec.ofInt (IntKind.bits .i64) (Int.fdiv (IntKind.wrap .i64 ((IntKind.wrap .i64 (c_0.2.2.1 * 6364136223846793005)) + 1442695040888963407)) (2 ^ (min (Int.toNat 47) (IntKind.bits .i64))))).toNat : Nat))) &&& BitVec.ofInt (IntKind.bits .i64) 255).toNat : Nat)), (c_0.1, (c_0.2.1, (IntKind.wrap .i64 ((IntKind.wrap .i64 (c_0.2.2.1 * 6364136223846793005)) + 1442695040888963407), ())))) := by kernel_rfl
theorem impl_notes_52_eq (k : Nat) (c0_0 : Int) (c0_1 : Int) : impl_notes_52 (k + 1) c0_0 c0_1 =
 impl_notes_52.l0 k k c0_0 c0_1 0 0 0 0 := by kernel_rfl
theorem impl_notes_52.l0_eq (k m : Nat) (is_0_c : Int) (is_0_c_1 : Int) (octave_4 : Int) (b0_0 : Int) (b0_1 : Int) (b0_2 : Int) : impl_notes_52.l0 k (m + 1) is_0_c is_0_c_1 octave_4 b0_0 b0_1 b0_2 =
 if (octave_4 : Int) ≤ 8 then
 impl_notes_52.l1 k k m is_0_c is_0_c_1 octave_4 0 b0_0 b0_1 b0_2
 else some ((0, (0, (0, ()))), (false, ())) := by kernel_rfl
theorem impl_notes_52.l1_eq (k m m1 : Nat) (is_0_c : Int) (is_0_c_1 : Int) (octave_4 : Int) (step_5 : Int) (b0_0 : Int) (b0_1 : Int) (b0_2 : Int) : impl_notes_52.l1 k (m + 1) m1 is_0_c is_0_c_1 octave_4 step_5 b0_0 b0_1 b0_2 =
 if (step_5 : Int) ≤ 6 then
 impl_notes_52.l2 k k m1 m is_0_c is_0_c_1 octave_4 step_5 (-2) b0_0 b0_1 b0_2
 else impl_notes_52.l0 k m1 is_0_c is_0_c_1 (IntKind.wrap .i64 (octave_4 + 1)) b0_0 b0_1 b0_2 := by kernel_rfl
theorem impl_notes_52.l2_eq (k m m1 m2 : Nat) (is_0_c : Int) (is_0_c_1 : Int) (octave_4 : Int) (step_5 : Int) (alter_6 : Int) (b0_0 : Int) (b0_1 : Int) (b0_2 : Int) : impl_notes_52.l2 k (m + 1) m1 m2 is_0_c is_0_c_1 octave_4 step_5 alter_6 b0_0 b0_1 b0_2 =
 if (alter_6 : Int) ≤ 2 then
 (impl_IsNote k (step_5, (alter_6, (octave_4, ())))).bind fun r1 =>
 if r1 = true then
 (impl_SpellSharp_1 k (step_5, (alter_6, (octave_4, ()))) is_0_c is_0_c_1).bind fun r2 =>
 if r2 = true then
 some ((step_5, (alter_6, (octave_4, ()))), (true, ()))
 else impl_notes_52.l2 k m m1 m2 is_0_c is_0_c_1 octave_4 step_5 (IntKind.wrap .i64 (alter_6 + 1)) b0_0 b0_1 b0_2
 else impl_notes_52.l2 k m m1 m2 is_0_c is_0_c_1 octave_4 step_5 (IntKind.wrap .i64 (alter_6 + 1)) b0_0 b0_1 b0_2
 else impl_notes_52.l1 k m2 m1 is_0_c is_0_c_1 octave_4 (IntKind.wrap .i64 (step_5 + 1)) b0_0 b0_1 b0_2 := by kernel_rfl
theorem impl_IsNote_eq (k : Nat) (x_0 : DT50) : impl_IsNote (k + 1) x_0 =
 (impl_InRange k x_0.1 0 6).bind fun r1 =>
 if r1 = true then
 (impl_InRange k x_0.2.1 (-2) 2).bind fun r2 =>
 if r2 = true then
 (impl_InRange k x_0.2.2.1 0 8).bind fun r3 =>
 if r3 = true then
 (impl_Note__pitch k x_0).bind fun r4 =>
 (impl_InRange k r4 12 120).bind fun r5 =>
 some (decide (r5 = true))
 else some false
 else some false
 else some false := by kernel_rfl
theorem strings_Repeat_eq (k : Nat) (s_0 : ByteArray) (count_1 : Int) : strings_Repeat (k + 1) s_0 count_1 = primRepeat .str [.val .str s_0, .val (.int .i64) count_1] := by kernel_rfl
theorem spec_PutEvent_eq (k : Nat) (l_0 : (List DT45)) (e_1 : DT45) : spec_PutEvent (k + 1) l_0 e_1 =
 (spec_l8Put k l_0 e_1).bind fun r1 =>
 (spec_IsScore k r1).bind fun r2 =>
 if ¬ (r2 = true) then
 if (List.length ([] : (List DT45)) + List.length l_0) * 32 ≤ 211106232532992 then
 some ((([] : (List DT45)) ++ l_0), (false, ())) else none
 else some (r1, (true, ())) := by kernel_rfl
theorem spec_IsScore_eq (k : Nat) (l_0 : (List DT45)) : spec_IsScore (k + 1) l_0 =
 spec_IsScore.l0 k k l_0 0 := by kernel_rfl
theorem spec_IsScore.l0_eq (k m : Nat) (l_0 : (List DT45)) (i_3 : Int) : spec_IsScore.l0 k (m + 1) l_0 i_3 =
 if (i_3 : Int) < ((List.length l_0 : Nat) : Int) then
 if 0 ≤ i_3 then
 if i_3 < ((List.length l_0 : Nat) : Int) then
 (spec_l8Ok k (rd T45 l_0 i_3)).bind fun r1 =>
 if ¬ (r1 = true) then
 some false
 else if (0 : Int) < i_3 then
 if 0 ≤ (IntKind.wrap .i64 (i_3 - 1)) then
 if (IntKind.wrap .i64 (i_3 - 1)) < ((List.length l_0 : Nat) : Int) then
 if 0 ≤ i_3 then
 if i_3 < ((List.length l_0 : Nat) : Int) then
 (spec_l8Before k (rd T45 l_0 (IntKind.wrap .i64 (i_3 - 1))) (rd T45 l_0 i_3)).bind fun r2 =>
 if ¬ (r2 = true) then
 some false
 else spec_IsScore.l0 k m l_0 (IntKind.wrap .i64 (i_3 + 1)) else none else none else none else none
 else spec_IsScore.l0 k m l_0 (IntKind.wrap .i64 (i_3 + 1)) else none else none
 else some (decide ((((List.length l_0 : Nat) : Int) : Int) ≤ 40)) := by kernel_rfl
theorem spec_Max_eq (k : Nat) (a_0 : Int) (b_1 : Int) : spec_Max (k + 1) a_0 b_1 =
 if (a_0 : Int) < b_1 then
 some b_1
 else some a_0 := by kernel_rfl
theorem spec_VoiceOf_eq (k : Nat) (l_0 : (List DT45)) (voice_1 : Int) : spec_VoiceOf (k + 1) l_0 voice_1 =
 spec_VoiceOf.l0 k k l_0 voice_1 0 [] := by kernel_rfl
theorem spec_VoiceOf.l0_eq (k m : Nat) (l_0 : (List DT45)) (voice_1 : Int) (i_6 : Int) (s0 : (List DT45)) : spec_VoiceOf.l0 k (m + 1) l_0 voice_1 i_6 s0 =
 if (i_6 : Int) < ((List.length l_0 : Nat) : Int) then
 if 0 ≤ i_6 then
 if i_6 < ((List.length l_0 : Nat) : Int) then
 if Eq (α := Int) (rd T45 l_0 i_6).2.2.2.1 voice_1 then
 if 0 ≤ i_6 then
 if i_6 < ((List.length l_0 : Nat) : Int) then
 if (List.length s0 + List.length ([(rd T45 l_0 i_6)] : (List DT45))) * 32 ≤ 211106232532992 then
 spec_VoiceOf.l0 k m l_0 voice_1 (IntKind.wrap .i64 (i_6 + 1)) (s0 ++ ([(rd T45 l_0 i_6)] : (List DT45))) else none else none else none
 else spec_VoiceOf.l0 k m l_0 voice_1 (IntKind.wrap .i64 (i_6 + 1)) s0 else none else none
 else some s0 := by kernel_rfl
theorem spec_l10Draw_eq (k : Nat) (c_0 : DT82) : spec_l10Draw (k + 1) c_0 =
 (spec_l1Below k c_0 4).bind fun r1 =>
 (spec_l1Int k r1.2 ([4, 4, 4, 8, 2])).bind fun r2 =>
 some ((IntKind.wrap .i64 (2 + r1.1), (r2.1, ())), r2.2) := by kernel_rfl
theorem spec_l33Voices_eq (k : Nat) (c_0 : DT82) : spec_l33Voices (k + 1) c_0 =
 spec_l33Voices.l0 k k 1 c_0.1 c_0.2.1 c_0.2.2.1 [] := by kernel_rfl
theorem spec_l33Voices.l0_eq (k m : Nat) (i_4 : Int) (b0_0 : (List Int)) (b0_1 : Int) (b0_2 : Int) (s1 : (List DT126)) : spec_l33Voices.l0 k (m + 1) i_4 b0_0 b0_1 b0_2 s1 =
 (spec_l1Below k (b0_0, (b0_1, (b0_2, ()))) 4).bind fun r1 =>
 if (i_4 : Int) ≤ (IntKind.wrap .i64 (2 + r1.1)) then
 (spec_l1Below k r1.2 18).bind fun r2 =>
 (spec_l1Below k r2.2 12).bind fun r3 =>
 if (List.length s1 + List.length ([(i_4, (IntKind.wrap .i64 (40 + r2.1), (IntKind.wrap .i64 (76 + r3.1), ([1, 2, 3], ()))))] : (List DT126))) * 48 ≤ 211106232532992 then
 spec_l33Voices.l0 k m (IntKind.wrap .i64 (i_4 + 1)) r3.2.1 r3.2.2.1 r3.2.2.2.1 (s1 ++ ([(i_4, (IntKind.wrap .i64 (40 + r2.1), (IntKind.wrap .i64 (76 + r3.1), ([1, 2, 3], ()))))] : (List DT126))) else none
 else some (s1, r1.2) := by kernel_rfl
theorem spec_NewOrchestra_eq (k : Nat) (m_0 : DT31) (players_1 : (List DT126)) : spec_NewOrchestra (k + 1) m_0 players_1 =
 (spec_l33Copy k ([], (m_0, ([(0, (100, ()))], (players_1, ([], ([], ([], (1, (0, ())))))))))).bind fun r1 =>
 (spec_IsOrchestra k r1).bind fun r2 =>
 if ¬ (r2 = true) then
 some (([], ((0, (0, ())), ([], ([], ([], ([], ([], (0, (0, ()))))))))), (false, ()))
 else some (r1, (true, ())) := by kernel_rfl
theorem spec_l13Score_eq (k : Nat) (c_0 : DT82) : spec_l13Score (k + 1) c_0 =
 (spec_l8Tune k c_0 1 9).bind fun r1 =>
 (spec_l8Tune k r1.2 2 9).bind fun r2 =>
 spec_l13Score.l0 k k 0 r2.2.1 r2.2.2.1 r2.2.2.2.1 r1.1 r2.1 := by kernel_rfl
theorem spec_l13Score.l0_eq (k m : Nat) (i_5 : Int) (b0_0 : (List Int)) (b0_1 : Int) (b0_2 : Int) (s1 : (List DT45)) (s2 : (List DT45)) : spec_l13Score.l0 k (m + 1) i_5 b0_0 b0_1 b0_2 s1 s2 =
 if (i_5 : Int) < ((List.length s2 : Nat) : Int) then
 if 0 ≤ i_5 then
 if i_5 < ((List.length s2 : Nat) : Int) then
 (spec_PutEvent k s1 (rd T45 s2 i_5)).bind fun r3 =>
 spec_l13Score.l0 k m (IntKind.wrap .i64 (i_5 + 1)) b0_0 b0_1 b0_2 r3.1 s2 else none else none
 else some (s1, (b0_0, (b0_1, (b0_2, ())))) := by kernel_rfl
theorem spec_l11Draw_eq (k : Nat) (c_0 : DT82) : spec_l11Draw (k + 1) c_0 =
 (spec_l1Int k c_0 ([60, 90, 120, 50, 144])).bind fun r1 =>
 (spec_l1Below k r1.2 4).bind fun r2 =>
 spec_l11Draw.l0 k k 0 r2.1 r2.2.1 r2.2.2.1 r2.2.2.2.1 ([(0, (r1.1, ()))]) := by kernel_rfl
theorem spec_l11Draw.l0_eq (k m : Nat) (at_4 : Int) (i_5 : Int) (b0_0 : (List Int)) (b0_1 : Int) (b0_2 : Int) (s1 : (List DT31)) : spec_l11Draw.l0 k (m + 1) at_4 i_5 b0_0 b0_1 b0_2 s1 =
 if (0 : Int) < i_5 then
 (spec_l1Below k (b0_0, (b0_1, (b0_2, ()))) 50).bind fun r3 =>
 (spec_l1Int k r3.2 ([40, 60, 72, 100, 120, 200, 77])).bind fun r4 =>
 if (List.length s1 + List.length ([(IntKind.wrap .i64 ((IntKind.wrap .i64 (at_4 + 1)) + r3.1), (r4.1, ()))] : (List DT31))) * 16 ≤ 211106232532992 then
 spec_l11Draw.l0 k m (IntKind.wrap .i64 ((IntKind.wrap .i64 (at_4 + 1)) + r3.1)) (IntKind.wrap .i64 (i_5 - 1)) r4.2.1 r4.2.2.1 r4.2.2.2.1 (s1 ++ ([(IntKind.wrap .i64 ((IntKind.wrap .i64 (at_4 + 1)) + r3.1), (r4.1, ()))] : (List DT31))) else none
 else some (s1, (b0_0, (b0_1, (b0_2, ())))) := by kernel_rfl
theorem spec_l25Draw_eq (k : Nat) (c_0 : DT82) : spec_l25Draw (k + 1) c_0 =
 (spec_l1Below k c_0 9).bind fun r1 =>
 spec_l25Draw.l0 k k r1.1 r1.2.1 r1.2.2.1 r1.2.2.2.1 [] := by kernel_rfl
theorem spec_l25Draw.l0_eq (k m : Nat) (i_4 : Int) (b0_0 : (List Int)) (b0_1 : Int) (b0_2 : Int) (s1 : (List DT128)) : spec_l25Draw.l0 k (m + 1) i_4 b0_0 b0_1 b0_2 s1 =
 if (0 : Int) < i_4 then
 (spec_l25Mark k (b0_0, (b0_1, (b0_2, ())))).bind fun r2 =>
 (spec_SetMark k s1 r2.1).bind fun r3 =>
 spec_l25Draw.l0 k m (IntKind.wrap .i64 (i_4 - 1)) r2.2.1 r2.2.2.1 r2.2.2.2.1 r3
 else some (s1, (b0_0, (b0_1, (b0_2, ())))) := by kernel_rfl
theorem spec_l26Draw_eq (k : Nat) (c_0 : DT82) : spec_l26Draw (k + 1) c_0 =
 (spec_l1Below k c_0 6).bind fun r1 =>
 spec_l26Draw.l0 k k 0 r1.1 r1.2.1 r1.2.2.1 r1.2.2.2.1 [] := by kernel_rfl
theorem spec_l26Draw.l0_eq (k m : Nat) (b_4 : Int) (i_5 : Int) (b0_0 : (List Int)) (b0_1 : Int) (b0_2 : Int) (s1 : (List DT31)) : spec_l26Draw.l0 k (m + 1) b_4 i_5 b0_0 b0_1 b0_2 s1 =
 if (0 : Int) < i_5 then
 (spec_l1Below k (b0_0, (b0_1, (b0_2, ()))) 9).bind fun r2 =>
 if (List.length s1 + List.length ([(((List.length s1 : Nat) : Int), (IntKind.wrap .i64 ((IntKind.wrap .i64 (b_4 + 1)) + r2.1), ()))] : (List DT31))) * 16 ≤ 211106232532992 then
 spec_l26Draw.l0 k m (IntKind.wrap .i64 ((IntKind.wrap .i64 (b_4 + 1)) + r2.1)) (IntKind.wrap .i64 (i_5 - 1)) r2.2.1 r2.2.2.1 r2.2.2.2.1 (s1 ++ ([(((List.length s1 : Nat) : Int), (IntKind.wrap .i64 ((IntKind.wrap .i64 (b_4 + 1)) + r2.1), ()))] : (List DT31))) else none
 else some (s1, (b0_0, (b0_1, (b0_2, ())))) := by kernel_rfl
theorem spec_SeatPlayers_eq (k : Nat) (l_0 : (List DT126)) (score_1 : (List DT45)) (voices_2 : Int) : spec_SeatPlayers (k + 1) l_0 score_1 voices_2 =
 (spec_ArePlayers k l_0).bind fun r1 =>
 if ¬ (r1 = true) then
 some ([], (false, ()))
 else (spec_IsScore k score_1).bind fun r2 =>
 if ¬ (r2 = true) then
 some ([], (false, ()))
 else (spec_l1In k voices_2 1 4).bind fun r3 =>
 if ¬ (r3 = true) then
 some ([], (false, ()))
 else (spec_l29Seat k l_0 score_1 voices_2 []).bind fun r4 =>
 some (r4.1, (decide (r4.2.1 = true), ())) := by kernel_rfl
theorem spec_l29Draw_eq (k : Nat) (c_0 : DT82) : spec_l29Draw (k + 1) c_0 =
 spec_l29Draw.l0 k k 1 c_0.1 c_0.2.1 c_0.2.2.1 [] := by kernel_rfl
theorem spec_l29Draw.l0_eq (k m : Nat) (i_4 : Int) (b0_0 : (List Int)) (b0_1 : Int) (b0_2 : Int) (s1 : (List DT126)) : spec_l29Draw.l0 k (m + 1) i_4 b0_0 b0_1 b0_2 s1 =
 (spec_l1Below k (b0_0, (b0_1, (b0_2, ()))) 5).bind fun r1 =>
 if (i_4 : Int) ≤ (IntKind.wrap .i64 (1 + r1.1)) then
 (spec_l1Below k r1.2 12).bind fun r2 =>
 (spec_l1Below k r2.2 12).bind fun r3 =>
 spec_l29Draw.l1 k k m i_4 1 r3.2.1 r3.2.2.1 r3.2.2.2.1 s1 (IntKind.wrap .i64 (2 * i_4)) (IntKind.wrap .i64 (50 + r2.1)) (IntKind.wrap .i64 (66 + r3.1))
 else some (s1, r1.2) := by kernel_rfl
theorem spec_l29Draw.l1_eq (k m m1 : Nat) (i_4 : Int) (v_6 : Int) (b0_0 : (List Int)) (b0_1 : Int) (b0_2 : Int) (s1 : (List DT126)) (b2_0 : Int) (b2_1 : Int) (b2_2 : Int) : spec_l29Draw.l1 k (m + 1) m1 i_4 v_6 b0_0 b0_1 b0_2 s1 b2_0 b2_1 b2_2 =
 if (v_6 : Int) ≤ 3 then
 (spec_l1Once k (b0_0, (b0_1, (b0_2, ()))) 3).bind fun r4 =>
 if ¬ (r4.1 = true) then
 if List.length ([v_6] : (List Int)) * 8 ≤ 211106232532992 then
 spec_l29Draw.l2 k m m1 i_4 (IntKind.wrap .i64 (v_6 + 1)) r4.2.1 r4.2.2.1 r4.2.2.2.1 s1 b2_0 b2_1 b2_2 ([v_6] : (List Int)) else none
 else spec_l29Draw.l1 k m m1 i_4 (IntKind.wrap .i64 (v_6 + 1)) r4.2.1 r4.2.2.1 r4.2.2.2.1 s1 b2_0 b2_1 b2_2
 else if (List.length s1 + List.length ([(b2_0, (b2_1, (b2_2, ([], ()))))] : (List DT126))) * 48 ≤ 211106232532992 then
 spec_l29Draw.l0 k m1 (IntKind.wrap .i64 (i_4 + 1)) b0_0 b0_1 b0_2 (s1 ++ ([(b2_0, (b2_1, (b2_2, ([], ()))))] : (List DT126))) else none := by kernel_rfl
theorem spec_l29Draw.l2_eq (k m m1 : Nat) (i_4 : Int) (v_6 : Int) (b0_0 : (List Int)) (b0_1 : Int) (b0_2 : Int) (s1 : (List DT126)) (b2_0 : Int) (b2_1 : Int) (b2_2 : Int) (s3 : (List Int)) : spec_l29Draw.l2 k (m + 1) m1 i_4 v_6 b0_0 b0_1 b0_2 s1 b2_0 b2_1 b2_2 s3 =
 if (v_6 : Int) ≤ 3 then
 (spec_l1Once k (b0_0, (b0_1, (b0_2, ()))) 3).bind fun r5 =>
 if ¬ (r5.1 = true) then
 if (List.length s3 + List.length ([v_6] : (List Int))) * 8 ≤ 211106232532992 then
 spec_l29Draw.l2 k m m1 i_4 (IntKind.wrap .i64 (v_6 + 1)) r5.2.1 r5.2.2.1 r5.2.2.2.1 s1 b2_0 b2_1 b2_2 (s3 ++ ([v_6] : (List Int))) else none
 else spec_l29Draw.l2 k m m1 i_4 (IntKind.wrap .i64 (v_6 + 1)) r5.2.1 r5.2.2.1 r5.2.2.2.1 s1 b2_0 b2_1 b2_2 s3
 else if (List.length s1 + List.length ([(b2_0, (b2_1, (b2_2, (s3, ()))))] : (List DT126))) * 48 ≤ 211106232532992 then
 spec_l29Draw.l0 k m1 (IntKind.wrap .i64 (i_4 + 1)) b0_0 b0_1 b0_2 (s1 ++ ([(b2_0, (b2_1, (b2_2, (s3, ()))))] : (List DT126))) else none := by kernel_rfl
theorem impl_SpellSharp_1_eq (k : Nat) (x_0 : DT50) (a_1 : Int) (a_2 : Int) : impl_SpellSharp_1 (k + 1) x_0 a_1 a_2 =
 (impl_Note__pitch k x_0).bind fun r1 =>
 if (r1 : Int) = a_1 then
 some (decide ((x_0.2.1 : Int) = a_2))
 else some false := by kernel_rfl
theorem impl_Note__pitch_eq (k : Nat) (x_0 : DT50) : impl_Note__pitch (k + 1) x_0 =
 (impl_halves k x_0.1).bind fun r1 =>
 some (IntKind.wrap .i64 ((IntKind.wrap .i64 ((IntKind.wrap .i64 (12 * (IntKind.wrap .i64 (x_0.2.2.1 + 1)))) + x_0.2.1)) + r1)) := by kernel_rfl
theorem spec_l8Put_eq (k : Nat) (l_0 : (List DT45)) (e_1 : DT45) : spec_l8Put (k + 1) l_0 e_1 =
 spec_l8Put.l0 k k l_0 0 e_1.1 e_1.2.1 e_1.2.2.1 e_1.2.2.2.1 := by kernel_rfl
theorem spec_l8Put.l0_eq (k m : Nat) (l_0 : (List DT45)) (k_5 : Int) (b0_0 : Int) (b0_1 : Int) (b0_2 : Int) (b0_3 : Int) : spec_l8Put.l0 k (m + 1) l_0 k_5 b0_0 b0_1 b0_2 b0_3 =
 if (k_5 : Int) < ((List.length l_0 : Nat) : Int) then
 if 0 ≤ k_5 then
 if k_5 < ((List.length l_0 : Nat) : Int) then
 (spec_l8Before k (rd T45 l_0 k_5) (b0_0, (b0_1, (b0_2, (b0_3, ()))))).bind fun r1 =>
 if r1 = true then
 spec_l8Put.l0 k m l_0 (IntKind.wrap .i64 (k_5 + 1)) b0_0 b0_1 b0_2 b0_3
 else if 0 ≤ k_5 then
 if k_5 ≤ ((List.length l_0 : Nat) : Int) then
 if (List.length ([] : (List DT45)) + List.length (List.take ((Int.toNat k_5) - (Int.toNat 0)) (List.drop (Int.toNat 0) l_0))) * 32 ≤ 211106232532992 then
 if (List.length (([] : (List DT45)) ++ (List.take ((Int.toNat k_5) - (Int.toNat 0)) (List.drop (Int.toNat 0) l_0))) + List.length ([(b0_0, (b0_1, (b0_2, (b0_3, ()))))] : (List DT45))) * 32 ≤ 211106232532992 then
 if 0 ≤ k_5 then
 if k_5 ≤ ((List.length l_0 : Nat) : Int) then
 if (List.length ((([] : (List DT45)) ++ (List.take ((Int.toNat k_5) - (Int.toNat 0)) (List.drop (Int.toNat 0) l_0))) ++ ([(b0_0, (b0_1, (b0_2, (b0_3, ()))))] : (List DT45))) + List.length (List.take ((Int.toNat ((List.length l_0 : Nat) : Int)) - (Int.toNat k_5)) (List.drop (Int.toNat k_5) l_0))) * 32 ≤ 211106232532992 then
 some (((([] : (List DT45)) ++ (List.take ((Int.toNat k_5) - (Int.toNat 0)) (List.drop (Int.toNat 0) l_0))) ++ ([(b0_0, (b0_1, (b0_2, (b0_3, ()))))] : (List DT45))) ++ (List.take ((Int.toNat ((List.length l_0 : Nat) : Int)) - (Int.toNat k_5)) (List.drop (Int.toNat k_5) l_0))) else none else none else none else none else none else none else none else none else none
 else if 0 ≤ k_5 then
 if k_5 ≤ ((List.length l_0 : Nat) : Int) then
 if (List.length ([] : (List DT45)) + List.length (List.take ((Int.toNat k_5) - (Int.toNat 0)) (List.drop (Int.toNat 0) l_0))) * 32 ≤ 211106232532992 then
 if (List.length (([] : (List DT45)) ++ (List.take ((Int.toNat k_5) - (Int.toNat 0)) (List.drop (Int.toNat 0) l_0))) + List.length ([(b0_0, (b0_1, (b0_2, (b0_3, ()))))] : (List DT45))) * 32 ≤ 211106232532992 then
 if 0 ≤ k_5 then
 if k_5 ≤ ((List.length l_0 : Nat) : Int) then
 if (List.length ((([] : (List DT45)) ++ (List.take ((Int.toNat k_5) - (Int.toNat 0)) (List.drop (Int.toNat 0) l_0))) ++ ([(b0_0, (b0_1, (b0_2, (b0_3, ()))))] : (List DT45))) + List.length (List.take ((Int.toNat ((List.length l_0 : Nat) : Int)) - (Int.toNat k_5)) (List.drop (Int.toNat k_5) l_0))) * 32 ≤ 211106232532992 then
 some (((([] : (List DT45)) ++ (List.take ((Int.toNat k_5) - (Int.toNat 0)) (List.drop (Int.toNat 0) l_0))) ++ ([(b0_0, (b0_1, (b0_2, (b0_3, ()))))] : (List DT45))) ++ (List.take ((Int.toNat ((List.length l_0 : Nat) : Int)) - (Int.toNat k_5)) (List.drop (Int.toNat k_5) l_0))) else none else none else none else none else none else none else none := by kernel_rfl
theorem spec_l8Ok_eq (k : Nat) (e_0 : DT45) : spec_l8Ok (k + 1) e_0 =
 (spec_l1In k e_0.1 0 2000).bind fun r1 =>
 if r1 = true then
 (spec_l1In k e_0.2.1 1 96).bind fun r2 =>
 if r2 = true then
 (spec_l1In k e_0.2.2.1 21 108).bind fun r3 =>
 if r3 = true then
 (spec_l1In k e_0.2.2.2.1 1 4).bind fun r4 =>
 some (decide (r4 = true))
 else some false
 else some false
 else some false := by kernel_rfl
theorem spec_l8Before_eq (k : Nat) (a_0 : DT45) (b_1 : DT45) : spec_l8Before (k + 1) a_0 b_1 =
 if (a_0.1 : Int) ≠ b_1.1 then
 some (decide ((a_0.1 : Int) < b_1.1))
 else if (a_0.2.2.2.1 : Int) ≠ b_1.2.2.2.1 then
 some (decide ((a_0.2.2.2.1 : Int) < b_1.2.2.2.1))
 else some (decide ((a_0.2.2.1 : Int) < b_1.2.2.1)) := by kernel_rfl
theorem spec_l33Copy_eq (k : Nat) (o_0 : DT38) : spec_l33Copy (k + 1) o_0 =
 if (List.length ([] : (List DT45)) + List.length o_0.1) * 32 ≤ 211106232532992 then
 if (List.length ([] : (List DT31)) + List.length o_0.2.2.1) * 16 ≤ 211106232532992 then
 (spec_l29Copy k o_0.2.2.2.1).bind fun r1 =>
 if (List.length ([] : (List Int)) + List.length o_0.2.2.2.2.1) * 8 ≤ 211106232532992 then
 if (List.length ([] : (List DT128)) + List.length o_0.2.2.2.2.2.1) * 40 ≤ 211106232532992 then
 if (List.length ([] : (List DT31)) + List.length o_0.2.2.2.2.2.2.1) * 16 ≤ 211106232532992 then
 some ((([] : (List DT45)) ++ o_0.1), (o_0.2.1, ((([] : (List DT31)) ++ o_0.2.2.1), (r1, ((([] : (List Int)) ++ o_0.2.2.2.2.1), ((([] : (List DT128)) ++ o_0.2.2.2.2.2.1), ((([] : (List DT31)) ++ o_0.2.2.2.2.2.2.1), o_0.2.2.2.2.2.2.2))))))) else none else none else none else none else none := by kernel_rfl
theorem spec_IsOrchestra_eq (k : Nat) (o_0 : DT38) : spec_IsOrchestra (k + 1) o_0 =
 (spec_IsScore k o_0.1).bind fun r1 =>
 if r1 = true then
 (spec_IsMeter k o_0.2.1).bind fun r2 =>
 if r2 = true then
 (spec_IsTempo k o_0.2.2.1).bind fun r3 =>
 if r3 = true then
 (spec_AreMarks k o_0.2.2.2.2.2.1).bind fun r4 =>
 if r4 = true then
 (spec_AreLetters k o_0.2.2.2.2.2.2.1).bind fun r5 =>
 if r5 = true then
 (spec_IsSeating k o_0.2.2.2.1 o_0.1 o_0.2.2.2.2.1).bind fun r6 =>
 if r6 = true then
 (spec_l1In k o_0.2.2.2.2.2.2.2.1 1 9999).bind fun r7 =>
 if r7 = true then
 (spec_l1In k o_0.2.2.2.2.2.2.2.2.1 0 100000).bind fun r8 =>
 some (decide (r8 = true))
 else some false
 else some false
 else some false
 else some false
 else some false
 else some false
 else some false := by kernel_rfl
theorem spec_l25Mark_eq (k : Nat) (c_0 : DT82) : spec_l25Mark (k + 1) c_0 =
 (spec_l1Below k c_0 5).bind fun r1 =>
 (spec_l1Below k r1.2 4).bind fun r2 =>
 (spec_l1Below k r2.2 4).bind fun r3 =>
 (spec_l1Below k r3.2 5).bind fun r4 =>
 (spec_l1Below k r4.2 3).bind fun r5 =>
 some ((IntKind.wrap .i64 (1 + r1.1), (IntKind.wrap .i64 (1 + r2.1), (r3.1, (r4.1, (IntKind.wrap .i64 (1 + r5.1), ()))))), r5.2) := by kernel_rfl
theorem spec_SetMark_eq (k : Nat) (l_0 : (List DT128)) (x_1 : DT128) : spec_SetMark (k + 1) l_0 x_1 =
 (spec_l25Set k l_0 x_1).bind fun r1 =>
 (spec_AreMarks k l_0).bind fun r2 =>
 if ¬ (r2 = true) then
 if (List.length ([] : (List DT128)) + List.length l_0) * 40 ≤ 211106232532992 then
 some (([] : (List DT128)) ++ l_0) else none
 else (spec_AreMarks k r1).bind fun r3 =>
 if ¬ (r3 = true) then
 if (List.length ([] : (List DT128)) + List.length l_0) * 40 ≤ 211106232532992 then
 some (([] : (List DT128)) ++ l_0) else none
 else some r1 := by kernel_rfl
theorem spec_ArePlayers_eq (k : Nat) (l_0 : (List DT126)) : spec_ArePlayers (k + 1) l_0 =
 spec_ArePlayers.l0 k k l_0 0 := by kernel_rfl
theorem spec_ArePlayers.l0_eq (k m : Nat) (l_0 : (List DT126)) (i_3 : Int) : spec_ArePlayers.l0 k (m + 1) l_0 i_3 =
 if (i_3 : Int) < ((List.length l_0 : Nat) : Int) then
 if 0 ≤ i_3 then
 if i_3 < ((List.length l_0 : Nat) : Int) then
 (spec_l1In k (rd T126 l_0 i_3).1 1 99).bind fun r1 =>
 if ¬ (r1 = true) then
 some false
 else if LT.lt (α := Int) (rd T126 l_0 i_3).2.1 21 then
 some false
 else if LT.lt (α := Int) (rd T126 l_0 i_3).2.2.1 (rd T126 l_0 i_3).2.1 then
 some false
 else if LT.lt (α := Int) 108 (rd T126 l_0 i_3).2.2.1 then
 some false
 else if (0 : Int) < i_3 then
 if 0 ≤ (IntKind.wrap .i64 (i_3 - 1)) then
 if (IntKind.wrap .i64 (i_3 - 1)) < ((List.length l_0 : Nat) : Int) then
 if LE.le (α := Int) (rd T126 l_0 i_3).1 (rd T126 l_0 (IntKind.wrap .i64 (i_3 - 1))).1 then
 some false
 else spec_ArePlayers.l1 k k m l_0 i_3 0 (rd T126 l_0 i_3).1 (rd T126 l_0 i_3).2.1 (rd T126 l_0 i_3).2.2.1 (rd T126 l_0 i_3).2.2.2.1 else none else none
 else spec_ArePlayers.l1 k k m l_0 i_3 0 (rd T126 l_0 i_3).1 (rd T126 l_0 i_3).2.1 (rd T126 l_0 i_3).2.2.1 (rd T126 l_0 i_3).2.2.2.1 else none else none
 else some (decide ((((List.length l_0 : Nat) : Int) : Int) ≤ 8)) := by kernel_rfl
theorem spec_ArePlayers.l1_eq (k m m1 : Nat) (l_0 : (List DT126)) (i_3 : Int) (k_5 : Int) (b0_0 : Int) (b0_1 : Int) (b0_2 : Int) (b0_3 : (List Int)) : spec_ArePlayers.l1 k (m + 1) m1 l_0 i_3 k_5 b0_0 b0_1 b0_2 b0_3 =
 if (k_5 : Int) < ((List.length b0_3 : Nat) : Int) then
 if 0 ≤ k_5 then
 if k_5 < ((List.length b0_3 : Nat) : Int) then
 (spec_l1In k (rd (.int .i64) b0_3 k_5) 1 4).bind fun r2 =>
 if ¬ (r2 = true) then
 some false
 else if (0 : Int) < k_5 then
 if 0 ≤ (IntKind.wrap .i64 (k_5 - 1)) then
 if (IntKind.wrap .i64 (k_5 - 1)) < ((List.length b0_3 : Nat) : Int) then
 if 0 ≤ k_5 then
 if k_5 < ((List.length b0_3 : Nat) : Int) then
 if LE.le (α := Int) (rd (.int .i64) b0_3 k_5) (rd (.int .i64) b0_3 (IntKind.wrap .i64 (k_5 - 1))) then
 some false
 else spec_ArePlayers.l1 k m m1 l_0 i_3 (IntKind.wrap .i64 (k_5 + 1)) b0_0 b0_1 b0_2 b0_3 else none else none else none else none
 else spec_ArePlayers.l1 k m m1 l_0 i_3 (IntKind.wrap .i64 (k_5 + 1)) b0_0 b0_1 b0_2 b0_3 else none else none
 else spec_ArePlayers.l0 k m1 l_0 (IntKind.wrap .i64 (i_3 + 1)) := by kernel_rfl
theorem spec_l1In_eq (k : Nat) (x_0 : Int) (least_1 : Int) (most_2 : Int) : spec_l1In (k + 1) x_0 least_1 most_2 =
 if (least_1 : Int) ≤ x_0 then
 some (decide ((x_0 : Int) ≤ most_2))
 else some false := by kernel_rfl
theorem spec_l29Seat_eq (k : Nat) (l_0 : (List DT126)) (score_1 : (List DT45)) (voices_2 : Int) (taken_3 : (List Int)) : spec_l29Seat (k + 1) l_0 score_1 voices_2 taken_3 =
 if (((List.length taken_3 : Nat) : Int) : Int) = voices_2 then
 if (List.length ([] : (List Int)) + List.length taken_3) * 8 ≤ 211106232532992 then
 some ((([] : (List Int)) ++ taken_3), (true, ())) else none
 else spec_l29Seat.l0 k k l_0 score_1 voices_2 taken_3 0 := by kernel_rfl
theorem spec_l29Seat.l0_eq (k m : Nat) (l_0 : (List DT126)) (score_1 : (List DT45)) (voices_2 : Int) (taken_3 : (List Int)) (i_10 : Int) : spec_l29Seat.l0 k (m + 1) l_0 score_1 voices_2 taken_3 i_10 =
 if (i_10 : Int) < ((List.length l_0 : Nat) : Int) then
 if 0 ≤ i_10 then
 if i_10 < ((List.length l_0 : Nat) : Int) then
 (spec_l27Has k taken_3 (rd T126 l_0 i_10).1).bind fun r1 =>
 if r1 = true then
 spec_l29Seat.l0 k m l_0 score_1 voices_2 taken_3 (IntKind.wrap .i64 (i_10 + 1))
 else if 0 ≤ i_10 then
 if i_10 < ((List.length l_0 : Nat) : Int) then
 (spec_CanPlay k (rd T126 l_0 i_10) score_1 (IntKind.wrap .i64 (((List.length taken_3 : Nat) : Int) + 1))).bind fun r2 =>
 if ¬ (r2 = true) then
 spec_l29Seat.l0 k m l_0 score_1 voices_2 taken_3 (IntKind.wrap .i64 (i_10 + 1))
 else if (List.length ([] : (List Int)) + List.length taken_3) * 8 ≤ 211106232532992 then
 if 0 ≤ i_10 then
 if i_10 < ((List.length l_0 : Nat) : Int) then
 if (List.length (([] : (List Int)) ++ taken_3) + List.length ([(rd T126 l_0 i_10).1] : (List Int))) * 8 ≤ 211106232532992 then
 (spec_l29Seat k l_0 score_1 voices_2 ((([] : (List Int)) ++ taken_3) ++ ([(rd T126 l_0 i_10).1] : (List Int)))).bind fun r3 =>
 if r3.2.1 = true then
 some (r3.1, (true, ()))
 else spec_l29Seat.l0 k m l_0 score_1 voices_2 taken_3 (IntKind.wrap .i64 (i_10 + 1)) else none else none else none else none else none else none else none else none
 else some ([], (false, ())) := by kernel_rfl
theorem impl_halves_eq (k : Nat) (step_0 : Int) : impl_halves (k + 1) step_0 = primHalves (.int .i64) [.val (.int .i64) step_0] := by kernel_rfl
theorem spec_l29Copy_eq (k : Nat) (l_0 : (List DT126)) : spec_l29Copy (k + 1) l_0 =
 spec_l29Copy.l0 k k l_0 0 [] := by kernel_rfl
theorem spec_l29Copy.l0_eq (k m : Nat) (l_0 : (List DT126)) (i_4 : Int) (s0 : (List DT126)) : spec_l29Copy.l0 k (m + 1) l_0 i_4 s0 =
 if (i_4 : Int) < ((List.length l_0 : Nat) : Int) then
 if 0 ≤ i_4 then
 if i_4 < ((List.length l_0 : Nat) : Int) then
 if (List.length ([] : (List Int)) + List.length (rd T126 l_0 i_4).2.2.2.1) * 8 ≤ 211106232532992 then
 if (List.length s0 + List.length ([((rd T126 l_0 i_4).1, ((rd T126 l_0 i_4).2.1, ((rd T126 l_0 i_4).2.2.1, ((([] : (List Int)) ++ (rd T126 l_0 i_4).2.2.2.1), ()))))] : (List DT126))) * 48 ≤ 211106232532992 then
 spec_l29Copy.l0 k m l_0 (IntKind.wrap .i64 (i_4 + 1)) (s0 ++ ([((rd T126 l_0 i_4).1, ((rd T126 l_0 i_4).2.1, ((rd T126 l_0 i_4).2.2.1, ((([] : (List Int)) ++ (rd T126 l_0 i_4).2.2.2.1), ()))))] : (List DT126))) else none else none else none else none
 else some s0 := by kernel_rfl
theorem spec_IsMeter_eq (k : Nat) (m_0 : DT31) : spec_IsMeter (k + 1) m_0 =
 (spec_l1In k m_0.1 1 12).bind fun r1 =>
 if r1 = true then
 if (m_0.2.1 : Int) = 1 then
 some true
 else if (m_0.2.1 : Int) = 2 then
 some true
 else if (m_0.2.1 : Int) = 4 then
 some true
 else some (decide ((m_0.2.1 : Int) = 8))
 else some false := by kernel_rfl
theorem spec_IsTempo_eq (k : Nat) (l_0 : (List DT31)) : spec_IsTempo (k + 1) l_0 =
 spec_IsTempo.l0 k k l_0 0 := by kernel_rfl
theorem spec_IsTempo.l0_eq (k m : Nat) (l_0 : (List DT31)) (i_3 : Int) : spec_IsTempo.l0 k (m + 1) l_0 i_3 =
 if (i_3 : Int) < ((List.length l_0 : Nat) : Int) then
 if 0 ≤ i_3 then
 if i_3 < ((List.length l_0 : Nat) : Int) then
 (spec_l1In k (rd T31 l_0 i_3).2.1 20 300).bind fun r1 =>
 if ¬ (r1 = true) then
 some false
 else if 0 ≤ i_3 then
 if i_3 < ((List.length l_0 : Nat) : Int) then
 (spec_l1In k (rd T31 l_0 i_3).1 0 2000).bind fun r2 =>
 if ¬ (r2 = true) then
 some false
 else if (i_3 : Int) = 0 then
 if 0 ≤ i_3 then
 if i_3 < ((List.length l_0 : Nat) : Int) then
 if Ne (α := Int) (rd T31 l_0 i_3).1 0 then
 some false
 else if (0 : Int) < i_3 then
 if 0 ≤ (IntKind.wrap .i64 (i_3 - 1)) then
 if (IntKind.wrap .i64 (i_3 - 1)) < ((List.length l_0 : Nat) : Int) then
 if 0 ≤ i_3 then
 if i_3 < ((List.length l_0 : Nat) : Int) then
 if LE.le (α := Int) (rd T31 l_0 i_3).1 (rd T31 l_0 (IntKind.wrap .i64 (i_3 - 1))).1 then
 some false
 else spec_IsTempo.l0 k m l_0 (IntKind.wrap .i64 (i_3 + 1)) else none else none else none else none
 else spec_IsTempo.l0 k m l_0 (IntKind.wrap .i64 (i_3 + 1)) else none else none
 else if (0 : Int) < i_3 then
 if 0 ≤ (IntKind.wrap .i64 (i_3 - 1)) then
 if (IntKind.wrap .i64 (i_3 - 1)) < ((List.length l_0 : Nat) : Int) then
 if 0 ≤ i_3 then
 if i_3 < ((List.length l_0 : Nat) : Int) then
 if LE.le (α := Int) (rd T31 l_0 i_3).1 (rd T31 l_0 (IntKind.wrap .i64 (i_3 - 1))).1 then
 some false
 else spec_IsTempo.l0 k m l_0 (IntKind.wrap .i64 (i_3 + 1)) else none else none else none else none
 else spec_IsTempo.l0 k m l_0 (IntKind.wrap .i64 (i_3 + 1)) else none else none else none else none
 else (spec_l1In k ((List.length l_0 : Nat) : Int) 1 8).bind fun r3 =>
 some (decide (r3 = true)) := by kernel_rfl
theorem spec_AreMarks_eq (k : Nat) (l_0 : (List DT128)) : spec_AreMarks (k + 1) l_0 =
 spec_AreMarks.l0 k k l_0 0 := by kernel_rfl
theorem spec_AreMarks.l0_eq (k m : Nat) (l_0 : (List DT128)) (i_3 : Int) : spec_AreMarks.l0 k (m + 1) l_0 i_3 =
 if (i_3 : Int) < ((List.length l_0 : Nat) : Int) then
 if 0 ≤ i_3 then
 if i_3 < ((List.length l_0 : Nat) : Int) then
 (spec_l1In k (rd T128 l_0 i_3).1 1 100).bind fun r1 =>
 if ¬ (r1 = true) then
 some false
 else (spec_l1In k (rd T128 l_0 i_3).2.1 1 4).bind fun r2 =>
 if ¬ (r2 = true) then
 some false
 else (spec_l1In k (rd T128 l_0 i_3).2.2.1 0 9).bind fun r3 =>
 if ¬ (r3 = true) then
 some false
 else (spec_l1In k (rd T128 l_0 i_3).2.2.2.1 0 100000).bind fun r4 =>
 if ¬ (r4 = true) then
 some false
 else (spec_l1In k (rd T128 l_0 i_3).2.2.2.2.1 1 99).bind fun r5 =>
 if ¬ (r5 = true) then
 some false
 else if (0 : Int) < i_3 then
 if 0 ≤ (IntKind.wrap .i64 (i_3 - 1)) then
 if (IntKind.wrap .i64 (i_3 - 1)) < ((List.length l_0 : Nat) : Int) then
 (spec_l25Before k (rd T128 l_0 (IntKind.wrap .i64 (i_3 - 1))) (rd T128 l_0 i_3)).bind fun r6 =>
 if ¬ (r6 = true) then
 some false
 else spec_AreMarks.l0 k m l_0 (IntKind.wrap .i64 (i_3 + 1)) else none else none
 else spec_AreMarks.l0 k m l_0 (IntKind.wrap .i64 (i_3 + 1)) else none else none
 else some (decide ((((List.length l_0 : Nat) : Int) : Int) ≤ 30)) := by kernel_rfl
theorem spec_AreLetters_eq (k : Nat) (l_0 : (List DT31)) : spec_AreLetters (k + 1) l_0 =
 spec_AreLetters.l0 k k l_0 0 := by kernel_rfl
theorem spec_AreLetters.l0_eq (k m : Nat) (l_0 : (List DT31)) (i_3 : Int) : spec_AreLetters.l0 k (m + 1) l_0 i_3 =
 if (i_3 : Int) < ((List.length l_0 : Nat) : Int) then
 if 0 ≤ i_3 then
 if i_3 < ((List.length l_0 : Nat) : Int) then
 if Ne (α := Int) (rd T31 l_0 i_3).1 i_3 then
 some false
 else if 0 ≤ i_3 then
 if i_3 < ((List.length l_0 : Nat) : Int) then
 (spec_l1In k (rd T31 l_0 i_3).2.1 1 500).bind fun r1 =>
 if ¬ (r1 = true) then
 some false
 else if (0 : Int) < i_3 then
 if 0 ≤ (IntKind.wrap .i64 (i_3 - 1)) then
 if (IntKind.wrap .i64 (i_3 - 1)) < ((List.length l_0 : Nat) : Int) then
 if 0 ≤ i_3 then
 if i_3 < ((List.length l_0 : Nat) : Int) then
 if LE.le (α := Int) (rd T31 l_0 i_3).2.1 (rd T31 l_0 (IntKind.wrap .i64 (i_3 - 1))).2.1 then
 some false
 else spec_AreLetters.l0 k m l_0 (IntKind.wrap .i64 (i_3 + 1)) else none else none else none else none
 else spec_AreLetters.l0 k m l_0 (IntKind.wrap .i64 (i_3 + 1)) else none else none else none else none
 else some (decide ((((List.length l_0 : Nat) : Int) : Int) ≤ 26)) := by kernel_rfl
theorem spec_IsSeating_eq (k : Nat) (l_0 : (List DT126)) (score_1 : (List DT45)) (seats_2 : (List Int)) : spec_IsSeating (k + 1) l_0 score_1 seats_2 =
 spec_IsSeating.l0 k k l_0 score_1 seats_2 0 := by kernel_rfl
theorem spec_IsSeating.l0_eq (k m : Nat) (l_0 : (List DT126)) (score_1 : (List DT45)) (seats_2 : (List Int)) (i_7 : Int) : spec_IsSeating.l0 k (m + 1) l_0 score_1 seats_2 i_7 =
 if (i_7 : Int) < ((List.length seats_2 : Nat) : Int) then
 spec_IsSeating.l1 k k m l_0 score_1 seats_2 i_7 false 0
 else (spec_ArePlayers k l_0).bind fun r1 =>
 if r1 = true then
 (spec_IsScore k score_1).bind fun r2 =>
 if r2 = true then
 some (decide ((((List.length seats_2 : Nat) : Int) : Int) ≤ 4))
 else some false
 else some false := by kernel_rfl
theorem spec_IsSeating.l1_eq (k m m1 : Nat) (l_0 : (List DT126)) (score_1 : (List DT45)) (seats_2 : (List Int)) (i_7 : Int) (good_8 : Bool) (k_9 : Int) : spec_IsSeating.l1 k (m + 1) m1 l_0 score_1 seats_2 i_7 good_8 k_9 =
 if (k_9 : Int) < ((List.length l_0 : Nat) : Int) then
 if good_8 = true then
 spec_IsSeating.l1 k m m1 l_0 score_1 seats_2 i_7 true (IntKind.wrap .i64 (k_9 + 1))
 else if 0 ≤ k_9 then
 if k_9 < ((List.length l_0 : Nat) : Int) then
 if 0 ≤ i_7 then
 if i_7 < ((List.length seats_2 : Nat) : Int) then
 if Eq (α := Int) (rd T126 l_0 k_9).1 (rd (.int .i64) seats_2 i_7) then
 if 0 ≤ k_9 then
 if k_9 < ((List.length l_0 : Nat) : Int) then
 (spec_CanPlay k (rd T126 l_0 k_9) score_1 (IntKind.wrap .i64 (i_7 + 1))).bind fun r3 =>
 spec_IsSeating.l1 k m m1 l_0 score_1 seats_2 i_7 (decide (r3 = true)) (IntKind.wrap .i64 (k_9 + 1)) else none else none
 else spec_IsSeating.l1 k m m1 l_0 score_1 seats_2 i_7 false (IntKind.wrap .i64 (k_9 + 1)) else none else none else none else none
 else if ¬ (good_8 = true) then
 some false
 else if 0 ≤ i_7 then
 if i_7 ≤ ((List.length seats_2 : Nat) : Int) then
 if 0 ≤ i_7 then
 if i_7 < ((List.length seats_2 : Nat) : Int) then
 (spec_l27Has k (List.take ((Int.toNat i_7) - (Int.toNat 0)) (List.drop (Int.toNat 0) seats_2)) (rd (.int .i64) seats_2 i_7)).bind fun r4 =>
 if r4 = true then
 some false
 else spec_IsSeating.l0 k m1 l_0 score_1 seats_2 (IntKind.wrap .i64 (i_7 + 1)) else none else none else none else none := by kernel_rfl
theorem spec_l25Set_eq (k : Nat) (l_0 : (List DT128)) (x_1 : DT128) : spec_l25Set (k + 1) l_0 x_1 =
 spec_l25Set.l0 k k l_0 0 x_1.1 x_1.2.1 x_1.2.2.1 x_1.2.2.2.1 x_1.2.2.2.2.1 := by kernel_rfl
theorem spec_l25Set.l0_eq (k m : Nat) (l_0 : (List DT128)) (k_5 : Int) (b0_0 : Int) (b0_1 : Int) (b0_2 : Int) (b0_3 : Int) (b0_4 : Int) : spec_l25Set.l0 k (m + 1) l_0 k_5 b0_0 b0_1 b0_2 b0_3 b0_4 =
 if (k_5 : Int) < ((List.length l_0 : Nat) : Int) then
 if 0 ≤ k_5 then
 if k_5 < ((List.length l_0 : Nat) : Int) then
 (spec_l25Before k (rd T128 l_0 k_5) (b0_0, (b0_1, (b0_2, (b0_3, (b0_4, ())))))).bind fun r1 =>
 if r1 = true then
 spec_l25Set.l0 k m l_0 (IntKind.wrap .i64 (k_5 + 1)) b0_0 b0_1 b0_2 b0_3 b0_4
 else if 0 ≤ k_5 then
 if k_5 ≤ ((List.length l_0 : Nat) : Int) then
 if (0 : Int) < ((List.length (List.take ((Int.toNat ((List.length l_0 : Nat) : Int)) - (Int.toNat k_5)) (List.drop (Int.toNat k_5) l_0)) : Nat) : Int) then
 if 0 ≤ 0 then
 if 0 < ((List.length (List.take ((Int.toNat ((List.length l_0 : Nat) : Int)) - (Int.toNat k_5)) (List.drop (Int.toNat k_5) l_0)) : Nat) : Int) then
 if Eq (α := Int) (rd T128 (List.take ((Int.toNat ((List.length l_0 : Nat) : Int)) - (Int.toNat k_5)) (List.drop (Int.toNat k_5) l_0)) 0).1 b0_0 then
 if 0 ≤ 0 then
 if 0 < ((List.length (List.take ((Int.toNat ((List.length l_0 : Nat) : Int)) - (Int.toNat k_5)) (List.drop (Int.toNat k_5) l_0)) : Nat) : Int) then
 if Eq (α := Int) (rd T128 (List.take ((Int.toNat ((List.length l_0 : Nat) : Int)) - (Int.toNat k_5)) (List.drop (Int.toNat k_5) l_0)) 0).2.1 b0_1 then
 if 0 ≤ 0 then
 if 0 < ((List.length (List.take ((Int.toNat ((List.length l_0 : Nat) : Int)) - (Int.toNat k_5)) (List.drop (Int.toNat k_5) l_0)) : Nat) : Int) then
 (spec_IsNewer k (b0_0, (b0_1, (b0_2, (b0_3, (b0_4, ()))))) (rd T128 (List.take ((Int.toNat ((List.length l_0 : Nat) : Int)) - (Int.toNat k_5)) (List.drop (Int.toNat k_5) l_0)) 0)).bind fun r2 =>
 if ¬ (r2 = true) then
 if (List.length ([] : (List DT128)) + List.length l_0) * 40 ≤ 211106232532992 then
 some (([] : (List DT128)) ++ l_0) else none
 else if 0 ≤ 1 then
 if 1 ≤ ((List.length (List.take ((Int.toNat ((List.length l_0 : Nat) : Int)) - (Int.toNat k_5)) (List.drop (Int.toNat k_5) l_0)) : Nat) : Int) then
 if 0 ≤ k_5 then
 if k_5 ≤ ((List.length l_0 : Nat) : Int) then
 if (List.length ([] : (List DT128)) + List.length (List.take ((Int.toNat k_5) - (Int.toNat 0)) (List.drop (Int.toNat 0) l_0))) * 40 ≤ 211106232532992 then
 if (List.length (([] : (List DT128)) ++ (List.take ((Int.toNat k_5) - (Int.toNat 0)) (List.drop (Int.toNat 0) l_0))) + List.length ([(b0_0, (b0_1, (b0_2, (b0_3, (b0_4, ())))))] : (List DT128))) * 40 ≤ 211106232532992 then
 if (List.length ((([] : (List DT128)) ++ (List.take ((Int.toNat k_5) - (Int.toNat 0)) (List.drop (Int.toNat 0) l_0))) ++ ([(b0_0, (b0_1, (b0_2, (b0_3, (b0_4, ())))))] : (List DT128))) + List.length (List.take ((Int.toNat ((List.length (List.take ((Int.toNat ((List.length l_0 : Nat) : Int)) - (Int.toNat k_5)) (List.drop (Int.toNat k_5) l_0)) : Nat) : Int)) - (Int.toNat 1)) (List.drop (Int.toNat 1) (List.take ((Int.toNat ((List.length l_0 : Nat) : Int)) - (Int.toNat k_5)) (List.drop (Int.toNat k_5) l_0))))) * 40 ≤ 211106232532992 then
 some (((([] : (List DT128)) ++ (List.take ((Int.toNat k_5) - (Int.toNat 0)) (List.drop (Int.toNat 0) l_0))) ++ ([(b0_0, (b0_1, (b0_2, (b0_3, (b0_4, ())))))] : (List DT128))) ++ (List.take ((Int.toNat ((List.length (List.take ((Int.toNat ((List.length l_0 : Nat) : Int)) - (Int.toNat k_5)) (List.drop (Int.toNat k_5) l_0)) : Nat) : Int)) - (Int.toNat 1)) (List.drop (Int.toNat 1) (List.take ((Int.toNat ((List.length l_0 : Nat) : Int)) - (Int.toNat k_5)) (List.drop (Int.toNat k_5) l_0))))) else none else none else none else none else none else none else none else none else none
 else if 0 ≤ k_5 then
 if k_5 ≤ ((List.length l_0 : Nat) : Int) then
 if (List.length ([] : (List DT128)) + List.length (List.take ((Int.toNat k_5) - (Int.toNat 0)) (List.drop (Int.toNat 0) l_0))) * 40 ≤ 211106232532992 then
 if (List.length (([] : (List DT128)) ++ (List.take ((Int.toNat k_5) - (Int.toNat 0)) (List.drop (Int.toNat 0) l_0))) + List.length ([(b0_0, (b0_1, (b0_2, (b0_3, (b0_4, ())))))] : (List DT128))) * 40 ≤ 211106232532992 then
 if (List.length ((([] : (List DT128)) ++ (List.take ((Int.toNat k_5) - (Int.toNat 0)) (List.drop (Int.toNat 0) l_0))) ++ ([(b0_0, (b0_1, (b0_2, (b0_3, (b0_4, ())))))] : (List DT128))) + List.length (List.take ((Int.toNat ((List.length l_0 : Nat) : Int)) - (Int.toNat k_5)) (List.drop (Int.toNat k_5) l_0))) * 40 ≤ 211106232532992 then
 some (((([] : (List DT128)) ++ (List.take ((Int.toNat k_5) - (Int.toNat 0)) (List.drop (Int.toNat 0) l_0))) ++ ([(b0_0, (b0_1, (b0_2, (b0_3, (b0_4, ())))))] : (List DT128))) ++ (List.take ((Int.toNat ((List.length l_0 : Nat) : Int)) - (Int.toNat k_5)) (List.drop (Int.toNat k_5) l_0))) else none else none else none else none else none else none else none
 else if 0 ≤ k_5 then
 if k_5 ≤ ((List.length l_0 : Nat) : Int) then
 if (List.length ([] : (List DT128)) + List.length (List.take ((Int.toNat k_5) - (Int.toNat 0)) (List.drop (Int.toNat 0) l_0))) * 40 ≤ 211106232532992 then
 if (List.length (([] : (List DT128)) ++ (List.take ((Int.toNat k_5) - (Int.toNat 0)) (List.drop (Int.toNat 0) l_0))) + List.length ([(b0_0, (b0_1, (b0_2, (b0_3, (b0_4, ())))))] : (List DT128))) * 40 ≤ 211106232532992 then
 if (List.length ((([] : (List DT128)) ++ (List.take ((Int.toNat k_5) - (Int.toNat 0)) (List.drop (Int.toNat 0) l_0))) ++ ([(b0_0, (b0_1, (b0_2, (b0_3, (b0_4, ())))))] : (List DT128))) + List.length (List.take ((Int.toNat ((List.length l_0 : Nat) : Int)) - (Int.toNat k_5)) (List.drop (Int.toNat k_5) l_0))) * 40 ≤ 211106232532992 then
 some (((([] : (List DT128)) ++ (List.take ((Int.toNat k_5) - (Int.toNat 0)) (List.drop (Int.toNat 0) l_0))) ++ ([(b0_0, (b0_1, (b0_2, (b0_3, (b0_4, ())))))] : (List DT128))) ++ (List.take ((Int.toNat ((List.length l_0 : Nat) : Int)) - (Int.toNat k_5)) (List.drop (Int.toNat k_5) l_0))) else none else none else none else none else none else none else none
 else if 0 ≤ k_5 then
 if k_5 ≤ ((List.length l_0 : Nat) : Int) then
 if (List.length ([] : (List DT128)) + List.length (List.take ((Int.toNat k_5) - (Int.toNat 0)) (List.drop (Int.toNat 0) l_0))) * 40 ≤ 211106232532992 then
 if (List.length (([] : (List DT128)) ++ (List.take ((Int.toNat k_5) - (Int.toNat 0)) (List.drop (Int.toNat 0) l_0))) + List.length ([(b0_0, (b0_1, (b0_2, (b0_3, (b0_4, ())))))] : (List DT128))) * 40 ≤ 211106232532992 then
 if (List.length ((([] : (List DT128)) ++ (List.take ((Int.toNat k_5) - (Int.toNat 0)) (List.drop (Int.toNat 0) l_0))) ++ ([(b0_0, (b0_1, (b0_2, (b0_3, (b0_4, ())))))] : (List DT128))) + List.length (List.take ((Int.toNat ((List.length l_0 : Nat) : Int)) - (Int.toNat k_5)) (List.drop (Int.toNat k_5) l_0))) * 40 ≤ 211106232532992 then
 some (((([] : (List DT128)) ++ (List.take ((Int.toNat k_5) - (Int.toNat 0)) (List.drop (Int.toNat 0) l_0))) ++ ([(b0_0, (b0_1, (b0_2, (b0_3, (b0_4, ())))))] : (List DT128))) ++ (List.take ((Int.toNat ((List.length l_0 : Nat) : Int)) - (Int.toNat k_5)) (List.drop (Int.toNat k_5) l_0))) else none else none else none else none else none else none else none else none else none
 else if 0 ≤ k_5 then
 if k_5 ≤ ((List.length l_0 : Nat) : Int) then
 if (0 : Int) < ((List.length (List.take ((Int.toNat ((List.length l_0 : Nat) : Int)) - (Int.toNat k_5)) (List.drop (Int.toNat k_5) l_0)) : Nat) : Int) then
 if 0 ≤ 0 then
 if 0 < ((List.length (List.take ((Int.toNat ((List.length l_0 : Nat) : Int)) - (Int.toNat k_5)) (List.drop (Int.toNat k_5) l_0)) : Nat) : Int) then
 if Eq (α := Int) (rd T128 (List.take ((Int.toNat ((List.length l_0 : Nat) : Int)) - (Int.toNat k_5)) (List.drop (Int.toNat k_5) l_0)) 0).1 b0_0 then
 if 0 ≤ 0 then
 if 0 < ((List.length (List.take ((Int.toNat ((List.length l_0 : Nat) : Int)) - (Int.toNat k_5)) (List.drop (Int.toNat k_5) l_0)) : Nat) : Int) then
 if Eq (α := Int) (rd T128 (List.take ((Int.toNat ((List.length l_0 : Nat) : Int)) - (Int.toNat k_5)) (List.drop (Int.toNat k_5) l_0)) 0).2.1 b0_1 then
 if 0 ≤ 0 then
 if 0 < ((List.length (List.take ((Int.toNat ((List.length l_0 : Nat) : Int)) - (Int.toNat k_5)) (List.drop (Int.toNat k_5) l_0)) : Nat) : Int) then
 (spec_IsNewer k (b0_0, (b0_1, (b0_2, (b0_3, (b0_4, ()))))) (rd T128 (List.take ((Int.toNat ((List.length l_0 : Nat) : Int)) - (Int.toNat k_5)) (List.drop (Int.toNat k_5) l_0)) 0)).bind fun r3 =>
 if ¬ (r3 = true) then
 if (List.length ([] : (List DT128)) + List.length l_0) * 40 ≤ 211106232532992 then
 some (([] : (List DT128)) ++ l_0) else none
 else if 0 ≤ 1 then
 if 1 ≤ ((List.length (List.take ((Int.toNat ((List.length l_0 : Nat) : Int)) - (Int.toNat k_5)) (List.drop (Int.toNat k_5) l_0)) : Nat) : Int) then
 if 0 ≤ k_5 then
 if k_5 ≤ ((List.length l_0 : Nat) : Int) then
 if (List.length ([] : (List DT128)) + List.length (List.take ((Int.toNat k_5) - (Int.toNat 0)) (List.drop (Int.toNat 0) l_0))) * 40 ≤ 211106232532992 then
 if (List.length (([] : (List DT128)) ++ (List.take ((Int.toNat k_5) - (Int.toNat 0)) (List.drop (Int.toNat 0) l_0))) + List.length ([(b0_0, (b0_1, (b0_2, (b0_3, (b0_4, ())))))] : (List DT128))) * 40 ≤ 211106232532992 then
 if (List.length ((([] : (List DT128)) ++ (List.take ((Int.toNat k_5) - (Int.toNat 0)) (List.drop (Int.toNat 0) l_0))) ++ ([(b0_0, (b0_1, (b0_2, (b0_3, (b0_4, ())))))] : (List DT128))) + List.length (List.take ((Int.toNat ((List.length (List.take ((Int.toNat ((List.length l_0 : Nat) : Int)) - (Int.toNat k_5)) (List.drop (Int.toNat k_5) l_0)) : Nat) : Int)) - (Int.toNat 1)) (List.drop (Int.toNat 1) (List.take ((Int.toNat ((List.length l_0 : Nat) : Int)) - (Int.toNat k_5)) (List.drop (Int.toNat k_5) l_0))))) * 40 ≤ 211106232532992 then
 some (((([] : (List DT128)) ++ (List.take ((Int.toNat k_5) - (Int.toNat 0)) (List.drop (Int.toNat 0) l_0))) ++ ([(b0_0, (b0_1, (b0_2, (b0_3, (b0_4, ())))))] : (List DT128))) ++ (List.take ((Int.toNat ((List.length (List.take ((Int.toNat ((List.length l_0 : Nat) : Int)) - (Int.toNat k_5)) (List.drop (Int.toNat k_5) l_0)) : Nat) : Int)) - (Int.toNat 1)) (List.drop (Int.toNat 1) (List.take ((Int.toNat ((List.length l_0 : Nat) : Int)) - (Int.toNat k_5)) (List.drop (Int.toNat k_5) l_0))))) else none else none else none else none else none else none else none else none else none
 else if 0 ≤ k_5 then
 if k_5 ≤ ((List.length l_0 : Nat) : Int) then
 if (List.length ([] : (List DT128)) + List.length (List.take ((Int.toNat k_5) - (Int.toNat 0)) (List.drop (Int.toNat 0) l_0))) * 40 ≤ 211106232532992 then
 if (List.length (([] : (List DT128)) ++ (List.take ((Int.toNat k_5) - (Int.toNat 0)) (List.drop (Int.toNat 0) l_0))) + List.length ([(b0_0, (b0_1, (b0_2, (b0_3, (b0_4, ())))))] : (List DT128))) * 40 ≤ 211106232532992 then
 if (List.length ((([] : (List DT128)) ++ (List.take ((Int.toNat k_5) - (Int.toNat 0)) (List.drop (Int.toNat 0) l_0))) ++ ([(b0_0, (b0_1, (b0_2, (b0_3, (b0_4, ())))))] : (List DT128))) + List.length (List.take ((Int.toNat ((List.length l_0 : Nat) : Int)) - (Int.toNat k_5)) (List.drop (Int.toNat k_5) l_0))) * 40 ≤ 211106232532992 then
 some (((([] : (List DT128)) ++ (List.take ((Int.toNat k_5) - (Int.toNat 0)) (List.drop (Int.toNat 0) l_0))) ++ ([(b0_0, (b0_1, (b0_2, (b0_3, (b0_4, ())))))] : (List DT128))) ++ (List.take ((Int.toNat ((List.length l_0 : Nat) : Int)) - (Int.toNat k_5)) (List.drop (Int.toNat k_5) l_0))) else none else none else none else none else none else none else none
 else if 0 ≤ k_5 then
 if k_5 ≤ ((List.length l_0 : Nat) : Int) then
 if (List.length ([] : (List DT128)) + List.length (List.take ((Int.toNat k_5) - (Int.toNat 0)) (List.drop (Int.toNat 0) l_0))) * 40 ≤ 211106232532992 then
 if (List.length (([] : (List DT128)) ++ (List.take ((Int.toNat k_5) - (Int.toNat 0)) (List.drop (Int.toNat 0) l_0))) + List.length ([(b0_0, (b0_1, (b0_2, (b0_3, (b0_4, ())))))] : (List DT128))) * 40 ≤ 211106232532992 then
 if (List.length ((([] : (List DT128)) ++ (List.take ((Int.toNat k_5) - (Int.toNat 0)) (List.drop (Int.toNat 0) l_0))) ++ ([(b0_0, (b0_1, (b0_2, (b0_3, (b0_4, ())))))] : (List DT128))) + List.length (List.take ((Int.toNat ((List.length l_0 : Nat) : Int)) - (Int.toNat k_5)) (List.drop (Int.toNat k_5) l_0))) * 40 ≤ 211106232532992 then
 some (((([] : (List DT128)) ++ (List.take ((Int.toNat k_5) - (Int.toNat 0)) (List.drop (Int.toNat 0) l_0))) ++ ([(b0_0, (b0_1, (b0_2, (b0_3, (b0_4, ())))))] : (List DT128))) ++ (List.take ((Int.toNat ((List.length l_0 : Nat) : Int)) - (Int.toNat k_5)) (List.drop (Int.toNat k_5) l_0))) else none else none else none else none else none else none else none
 else if 0 ≤ k_5 then
 if k_5 ≤ ((List.length l_0 : Nat) : Int) then
 if (List.length ([] : (List DT128)) + List.length (List.take ((Int.toNat k_5) - (Int.toNat 0)) (List.drop (Int.toNat 0) l_0))) * 40 ≤ 211106232532992 then
 if (List.length (([] : (List DT128)) ++ (List.take ((Int.toNat k_5) - (Int.toNat 0)) (List.drop (Int.toNat 0) l_0))) + List.length ([(b0_0, (b0_1, (b0_2, (b0_3, (b0_4, ())))))] : (List DT128))) * 40 ≤ 211106232532992 then
 if (List.length ((([] : (List DT128)) ++ (List.take ((Int.toNat k_5) - (Int.toNat 0)) (List.drop (Int.toNat 0) l_0))) ++ ([(b0_0, (b0_1, (b0_2, (b0_3, (b0_4, ())))))] : (List DT128))) + List.length (List.take ((Int.toNat ((List.length l_0 : Nat) : Int)) - (Int.toNat k_5)) (List.drop (Int.toNat k_5) l_0))) * 40 ≤ 211106232532992 then
 some (((([] : (List DT128)) ++ (List.take ((Int.toNat k_5) - (Int.toNat 0)) (List.drop (Int.toNat 0) l_0))) ++ ([(b0_0, (b0_1, (b0_2, (b0_3, (b0_4, ())))))] : (List DT128))) ++ (List.take ((Int.toNat ((List.length l_0 : Nat) : Int)) - (Int.toNat k_5)) (List.drop (Int.toNat k_5) l_0))) else none else none else none else none else none else none else none := by kernel_rfl
theorem spec_l27Has_eq (k : Nat) (l_0 : (List Int)) (n_1 : Int) : spec_l27Has (k + 1) l_0 n_1 =
 spec_l27Has.l0 k k l_0 n_1 0 := by kernel_rfl
theorem spec_l27Has.l0_eq (k m : Nat) (l_0 : (List Int)) (n_1 : Int) (i_5 : Int) : spec_l27Has.l0 k (m + 1) l_0 n_1 i_5 =
 if (i_5 : Int) < ((List.length l_0 : Nat) : Int) then
 if 0 ≤ i_5 then
 if i_5 < ((List.length l_0 : Nat) : Int) then
 if Eq (α := Int) (rd (.int .i64) l_0 i_5) n_1 then
 some true
 else spec_l27Has.l0 k m l_0 n_1 (IntKind.wrap .i64 (i_5 + 1)) else none else none
 else some false := by kernel_rfl
theorem spec_CanPlay_eq (k : Nat) (p_0 : DT126) (l_1 : (List DT45)) (voice_2 : Int) : spec_CanPlay (k + 1) p_0 l_1 voice_2 =
 (spec_l27Has k p_0.2.2.2.1 voice_2).bind fun r1 =>
 if r1 = true then
 (spec_IsScore k l_1).bind fun r2 =>
 if r2 = true then
 (spec_VoiceOf k l_1 voice_2).bind fun r3 =>
 (spec_FitsRange k r3 p_0.2.1 p_0.2.2.1).bind fun r4 =>
 some (decide (r4 = true))
 else some false
 else some false := by kernel_rfl
theorem spec_l25Before_eq (k : Nat) (a_0 : DT128) (b_1 : DT128) : spec_l25Before (k + 1) a_0 b_1 =
 if (a_0.1 : Int) < b_1.1 then
 some true
 else if (a_0.1 : Int) = b_1.1 then
 some (decide ((a_0.2.1 : Int) < b_1.2.1))
 else some false := by kernel_rfl
theorem spec_IsNewer_eq (k : Nat) (a_0 : DT128) (b_1 : DT128) : spec_IsNewer (k + 1) a_0 b_1 =
 if (a_0.2.2.2.1 : Int) ≠ b_1.2.2.2.1 then
 some (decide ((b_1.2.2.2.1 : Int) < a_0.2.2.2.1))
 else if (a_0.2.2.2.2.1 : Int) ≠ b_1.2.2.2.2.1 then
 some (decide ((b_1.2.2.2.2.1 : Int) < a_0.2.2.2.2.1))
 else some (decide ((b_1.2.2.1 : Int) < a_0.2.2.1)) := by kernel_rfl
theorem spec_FitsRange_eq (k : Nat) (l_0 : (List DT45)) (low_1 : Int) (high_2 : Int) : spec_FitsRange (k + 1) l_0 low_1 high_2 =
 spec_FitsRange.l0 k k l_0 low_1 high_2 0 := by kernel_rfl
theorem spec_FitsRange.l0_eq (k m : Nat) (l_0 : (List DT45)) (low_1 : Int) (high_2 : Int) (i_7 : Int) : spec_FitsRange.l0 k (m + 1) l_0 low_1 high_2 i_7 =
 if (i_7 : Int) < ((List.length l_0 : Nat) : Int) then
 if 0 ≤ i_7 then
 if i_7 < ((List.length l_0 : Nat) : Int) then
 (spec_l1In k (rd T45 l_0 i_7).2.2.1 low_1 high_2).bind fun r1 =>
 if ¬ (r1 = true) then
 some false
 else spec_FitsRange.l0 k m l_0 low_1 high_2 (IntKind.wrap .i64 (i_7 + 1)) else none else none
 else (spec_IsScore k l_0).bind fun r2 =>
 some (decide (r2 = true)) := by kernel_rfl
end Go.QFnViews
