/- The functions that the law FnExactFaultOf reaches, as equations; printed by pe.py. No condition. -/
import Derived.Test.YtboaihbcaoofcaaGreatEv
import Derived.Test.YtboaihbcaoofcaaGreatProg
import Derived.KernelRfl
set_option linter.unusedVariables false
open Go Go.Flat
namespace Go.QFnExactFaultOf
abbrev T23 : Ty := .pair (.int .i64) (.pair (.int .i64) .unit)
abbrev DT23 := Int × (Int × Unit)
abbrev T80 : Ty := .pair (.int .i64) (.pair (.int .i64) T23)
abbrev DT80 := Int × (Int × DT23)
abbrev T67 : Ty := .pair (.int .i64) (.pair (.int .i64) (.pair (.int .i64) (.pair (.list (.int .i64)) .unit)))
abbrev DT67 := Int × (Int × (Int × ((List Int) × Unit)))
abbrev T91 : Ty := .pair (.int .i64) T80
abbrev DT91 := Int × DT80
abbrev T30 : Ty := .pair (.list T80) (.pair T23 (.pair (.list T23) (.pair (.list T67) (.pair (.list (.int .i64)) (.pair (.list T91) (.pair (.list T23) T23))))))
abbrev DT30 := (List DT80) × (DT23 × ((List DT23) × ((List DT67) × ((List Int) × ((List DT91) × ((List DT23) × DT23))))))
noncomputable def C : Cfg := {
  P := Go.Proofs.Tryz.prog,
  tt := [(1, none), (2, some (.int .i64)), (3, some (.int .i64)), (4, some .bool), (5, some (.int .u8)), (6, some (.int .u8)), (9, some .str), (10, some .str), (11, some .str), (12, some (.int .u64)), (15, none), (16, none), (17, none), (21, some (.int .i32)), (22, some (.list T80)), (23, some T23), (24, some T23), (25, some (.list T23)), (26, some (.list T67)), (27, some (.list (.int .i64))), (28, some (.list T91)), (29, some (.list T23)), (30, some T30), (31, some T30), (32, none), (33, none), (34, some (.list T80)), (35, some T23), (36, some (.list T23)), (37, some (.list T67)), (38, some (.list T91)), (39, some (.list T23)), (40, some T30), (41, some T30), (42, none), (43, none), (44, none), (45, none), (46, none), (47, none), (48, none), (49, none), (50, none), (51, none), (52, none), (53, none), (54, none), (55, none), (56, none), (57, none), (58, none), (59, none), (60, none), (61, none), (62, none), (63, none), (64, none), (65, none), (66, none), (67, some T67), (68, some T67), (69, none), (70, none), (71, none), (72, none), (73, none), (74, none), (75, none), (76, some T23), (77, some T23), (79, none), (80, some T80), (81, some T80), (82, none), (83, none), (84, some T80), (85, some T23), (86, some T23), (87, none), (88, some T23), (89, some T67), (90, none), (91, some T91), (92, some T91), (93, none), (94, some T91), (95, some T23), (96, some T23), (97, none), (98, some T23), (99, none), (100, none), (101, none), (102, none), (103, none), (104, none), (105, none), (106, none), (107, none), (108, none), (109, none), (110, none), (111, none), (112, none), (113, none), (114, none), (115, none), (116, none), (117, none), (118, none), (119, none), (120, none), (121, none), (122, none), (123, none), (124, none), (125, none), (126, none), (127, none), (128, none), (134, none), (135, some (.int .u32)), (136, some (.int .u8)), (137, some (.int .u8)), (138, none), (139, none), (140, some (.int .i32)), (141, some (.int .i32)), (144, none)],
  vars := [(11, [0, 1, 5]), (16, [1, 3]), (17, [1, 3]), (18, [0, 3, 4]), (20, [0, 3, 4]), (21, [0, 3, 4]), (22, [0, 3, 4]), (23, [0, 3, 4]), (24, [0, 3, 4]), (28, [0, 1, 5]), (30, [0, 1, 5]), (31, [0, 1, 5]), (32, [0, 1, 5]), (33, [0, 1, 5]), (34, [0, 1, 5]), (36, [0, 3]), (38, [0, 3]), (39, [0, 3]), (40, [0, 3]), (41, [0, 1, 2, 7, 8, 9]), (43, [0, 1, 4, 6, 7]), (44, [0, 3, 4, 6, 7, 8]), (50, [0, 5, 6, 7]), (52, [0, 5, 6, 7]), (53, [0, 5, 6, 7]), (54, [0, 5, 6, 7]), (55, [0, 2, 4, 22, 23, 24]), (59, [0, 1, 4, 6, 24, 25, 26]), (60, [0, 3, 4, 6, 7, 39, 40, 41]), (71, [0, 1, 5]), (72, [0, 3, 4, 5]), (81, [0, 3, 7, 8, 9]), (86, [0, 1, 7, 8]), (92, [0, 1, 2, 7]), (93, [0, 1, 5, 6]), (94, [0, 1]), (96, [3, 6, 7, 8]), (98, [0, 1, 2, 9, 10, 11]), (99, [0, 1, 7, 8]), (100, [0, 1, 7, 8]), (101, [0, 1, 2, 9, 10, 11]), (104, [0, 1]), (106, [0, 1, 5, 6])],
  sigs := [(106, { io := [0] })] }
noncomputable def laws_FnExactFaultOf (k : Nat) (aO_0 : DT30) : Option Bool := run C k 3 .bool [.val T30 aO_0]
noncomputable def laws_szOrchestra (k : Nat) (a_0 : DT30) (left_1 : Int) : Option Int := run C k 4 (.int .i64) [.val T30 a_0, .val (.int .i64) left_1]
noncomputable def laws_toOrchestra (k : Nat) (a_0 : DT30) : Option DT30 := run C k 6 T30 [.val T30 a_0]
noncomputable def spec_FaultOf (k : Nat) (o_0 : DT30) : Option ByteArray := run C k 5 .str [.val T30 o_0]
noncomputable def impl_FaultOf (k : Nat) (o_0 : DT30) : Option ByteArray := run C k 7 .str [.val T30 o_0]
noncomputable def laws_eqOrchestra (k : Nat) (a_0 : DT30) (b_1 : DT30) : Option Bool := run C k 8 .bool [.val T30 a_0, .val T30 b_1]
noncomputable def laws_szEventS (k : Nat) (a_0 : (List DT80)) (left_1 : Int) : Option Int := run C k 9 (.int .i64) [.val (.list T80) a_0, .val (.int .i64) left_1]
noncomputable def laws_szTempoS (k : Nat) (a_0 : (List DT23)) (left_1 : Int) : Option Int := run C k 10 (.int .i64) [.val (.list T23) a_0, .val (.int .i64) left_1]
noncomputable def laws_szPlayerS (k : Nat) (a_0 : (List DT67)) (left_1 : Int) : Option Int := run C k 11 (.int .i64) [.val (.list T67) a_0, .val (.int .i64) left_1]
noncomputable def laws_szPlayerS.l0 (k m : Nat) (a_0 : (List DT67)) (left_1 : Int) (i_5 : Int) : Option Int := loopRun C k 11 (.int .i64) [0, 0] [.r, .r, .r, .l, .r, .b] [] [0, 1, 5] m ⟨[.one (.cell (.list false T67 a_0)), .one (.cell (.int .i64 left_1)), .one (.cell (.int .i64 i_5))], []⟩
noncomputable def laws_szIntS (k : Nat) (a_0 : (List Int)) (left_1 : Int) : Option Int := run C k 12 (.int .i64) [.val (.list (.int .i64)) a_0, .val (.int .i64) left_1]
noncomputable def laws_szMarkS (k : Nat) (a_0 : (List DT91)) (left_1 : Int) : Option Int := run C k 13 (.int .i64) [.val (.list T91) a_0, .val (.int .i64) left_1]
noncomputable def laws_szLetterS (k : Nat) (a_0 : (List DT23)) (left_1 : Int) : Option Int := run C k 14 (.int .i64) [.val (.list T23) a_0, .val (.int .i64) left_1]
noncomputable def laws_toEventS (k : Nat) (a_0 : (List DT80)) : Option (List DT80) := run C k 18 (.list T80) [.val (.list T80) a_0]
noncomputable def laws_toEventS.l0 (k m : Nat) (a_0 : (List DT80)) (i_4 : Int) (s0 : (List DT80)) : Option (List DT80) := loopRun C k 18 (.list T80) [0] [.r, .r, .l, .r, .b] [] [0, 3, 4] m ⟨[.one (.cell (.list false T80 a_0)), .one (.cell (.ref 1)), .one (.cell (.int .i64 i_4))], [.arr T80 s0 .open]⟩
noncomputable def laws_toMeter (k : Nat) (a_0 : DT23) : Option DT23 := run C k 19 T23 [.val T23 a_0]
noncomputable def laws_toTempoS (k : Nat) (a_0 : (List DT23)) : Option (List DT23) := run C k 20 (.list T23) [.val (.list T23) a_0]
noncomputable def laws_toTempoS.l0 (k m : Nat) (a_0 : (List DT23)) (i_4 : Int) (s0 : (List DT23)) : Option (List DT23) := loopRun C k 20 (.list T23) [0] [.r, .r, .l, .r, .b] [] [0, 3, 4] m ⟨[.one (.cell (.list false T23 a_0)), .one (.cell (.ref 1)), .one (.cell (.int .i64 i_4))], [.arr T23 s0 .open]⟩
noncomputable def laws_toPlayerS (k : Nat) (a_0 : (List DT67)) : Option (List DT67) := run C k 21 (.list T67) [.val (.list T67) a_0]
noncomputable def laws_toPlayerS.l0 (k m : Nat) (a_0 : (List DT67)) (i_4 : Int) (s0 : (List DT67)) : Option (List DT67) := loopRun C k 21 (.list T67) [0] [.r, .r, .l, .r, .b] [] [0, 3, 4] m ⟨[.one (.cell (.list false T67 a_0)), .one (.cell (.ref 1)), .one (.cell (.int .i64 i_4))], [.arr T67 s0 .open]⟩
noncomputable def laws_toIntS (k : Nat) (a_0 : (List Int)) : Option (List Int) := run C k 22 (.list (.int .i64)) [.val (.list (.int .i64)) a_0]
noncomputable def laws_toIntS.l0 (k m : Nat) (a_0 : (List Int)) (i_4 : Int) (s0 : (List Int)) : Option (List Int) := loopRun C k 22 (.list (.int .i64)) [0] [.r, .r, .l, .r, .b] [] [0, 3, 4] m ⟨[.one (.cell (.list false (.int .i64) a_0)), .one (.cell (.ref 1)), .one (.cell (.int .i64 i_4))], [.arr (.int .i64) s0 .open]⟩
noncomputable def laws_toMarkS (k : Nat) (a_0 : (List DT91)) : Option (List DT91) := run C k 23 (.list T91) [.val (.list T91) a_0]
noncomputable def laws_toMarkS.l0 (k m : Nat) (a_0 : (List DT91)) (i_4 : Int) (s0 : (List DT91)) : Option (List DT91) := loopRun C k 23 (.list T91) [0] [.r, .r, .l, .r, .b] [] [0, 3, 4] m ⟨[.one (.cell (.list false T91 a_0)), .one (.cell (.ref 1)), .one (.cell (.int .i64 i_4))], [.arr T91 s0 .open]⟩
noncomputable def laws_toLetterS (k : Nat) (a_0 : (List DT23)) : Option (List DT23) := run C k 24 (.list T23) [.val (.list T23) a_0]
noncomputable def laws_toLetterS.l0 (k m : Nat) (a_0 : (List DT23)) (i_4 : Int) (s0 : (List DT23)) : Option (List DT23) := loopRun C k 24 (.list T23) [0] [.r, .r, .l, .r, .b] [] [0, 3, 4] m ⟨[.one (.cell (.list false T23 a_0)), .one (.cell (.ref 1)), .one (.cell (.int .i64 i_4))], [.arr T23 s0 .open]⟩
noncomputable def spec_IsOrchestra (k : Nat) (o_0 : DT30) : Option Bool := run C k 15 .bool [.val T30 o_0]
noncomputable def spec_IsExact (k : Nat) (o_0 : DT30) : Option Bool := run C k 16 .bool [.val T30 o_0]
noncomputable def spec_IsExact.l0 (k m : Nat) (i_3 : Int) (b0_0 : (List DT80)) (b0_1 : Int) (b0_2 : Int) (b0_3 : (List DT23)) (b0_4 : (List DT67)) (b0_5 : (List Int)) (b0_6 : (List DT91)) (b0_7 : (List DT23)) (b0_8 : Int) (b0_9 : Int) : Option Bool := loopRun C k 16 .bool [0] [.r, .l, .r, .b] [] [1, 3] m ⟨[.one (.cell (.ptr 1 0)), .one (.cell (.int .i64 i_3))], [.box (some T30) [.list false T80 b0_0, .int .i64 b0_1, .int .i64 b0_2, .list false T23 b0_3, .list false T67 b0_4, .list false (.int .i64) b0_5, .list false T91 b0_6, .list false T23 b0_7, .int .i64 b0_8, .int .i64 b0_9]]⟩
noncomputable def spec_AreSeated (k : Nat) (o_0 : DT30) : Option Bool := run C k 17 .bool [.val T30 o_0]
noncomputable def spec_AreSeated.l0 (k m : Nat) (i_3 : Int) (b0_0 : (List DT80)) (b0_1 : Int) (b0_2 : Int) (b0_3 : (List DT23)) (b0_4 : (List DT67)) (b0_5 : (List Int)) (b0_6 : (List DT91)) (b0_7 : (List DT23)) (b0_8 : Int) (b0_9 : Int) : Option Bool := loopRun C k 17 .bool [0] [.r, .l, .r, .b] [] [1, 3] m ⟨[.one (.cell (.ptr 1 0)), .one (.cell (.int .i64 i_3))], [.box (some T30) [.list false T80 b0_0, .int .i64 b0_1, .int .i64 b0_2, .list false T23 b0_3, .list false T67 b0_4, .list false (.int .i64) b0_5, .list false T91 b0_6, .list false T23 b0_7, .int .i64 b0_8, .int .i64 b0_9]]⟩
noncomputable def impl_IsOrchestra (k : Nat) (o_0 : DT30) : Option Bool := run C k 25 .bool [.val T30 o_0]
noncomputable def impl_IsExact (k : Nat) (o_0 : DT30) : Option Bool := run C k 26 .bool [.val T30 o_0]
noncomputable def impl_AreSeated (k : Nat) (o_0 : DT30) : Option Bool := run C k 27 .bool [.val T30 o_0]
noncomputable def laws_eqEventS (k : Nat) (a_0 : (List DT80)) (b_1 : (List DT80)) : Option Bool := run C k 28 .bool [.val (.list T80) a_0, .val (.list T80) b_1]
noncomputable def laws_eqEventS.l0 (k m : Nat) (a_0 : (List DT80)) (b_1 : (List DT80)) (i_5 : Int) : Option Bool := loopRun C k 28 .bool [0, 0] [.r, .r, .l, .r, .b] [] [0, 1, 5] m ⟨[.one (.cell (.list false T80 a_0)), .one (.cell (.list false T80 b_1)), .one (.cell (.int .i64 i_5))], []⟩
noncomputable def laws_eqMeter (k : Nat) (a_0 : DT23) (b_1 : DT23) : Option Bool := run C k 29 .bool [.val T23 a_0, .val T23 b_1]
noncomputable def laws_eqTempoS (k : Nat) (a_0 : (List DT23)) (b_1 : (List DT23)) : Option Bool := run C k 30 .bool [.val (.list T23) a_0, .val (.list T23) b_1]
noncomputable def laws_eqTempoS.l0 (k m : Nat) (a_0 : (List DT23)) (b_1 : (List DT23)) (i_5 : Int) : Option Bool := loopRun C k 30 .bool [0, 0] [.r, .r, .l, .r, .b] [] [0, 1, 5] m ⟨[.one (.cell (.list false T23 a_0)), .one (.cell (.list false T23 b_1)), .one (.cell (.int .i64 i_5))], []⟩
noncomputable def laws_eqPlayerS (k : Nat) (a_0 : (List DT67)) (b_1 : (List DT67)) : Option Bool := run C k 31 .bool [.val (.list T67) a_0, .val (.list T67) b_1]
noncomputable def laws_eqPlayerS.l0 (k m : Nat) (a_0 : (List DT67)) (b_1 : (List DT67)) (i_5 : Int) : Option Bool := loopRun C k 31 .bool [0, 0] [.r, .r, .l, .r, .b] [] [0, 1, 5] m ⟨[.one (.cell (.list false T67 a_0)), .one (.cell (.list false T67 b_1)), .one (.cell (.int .i64 i_5))], []⟩
noncomputable def laws_eqIntS (k : Nat) (a_0 : (List Int)) (b_1 : (List Int)) : Option Bool := run C k 32 .bool [.val (.list (.int .i64)) a_0, .val (.list (.int .i64)) b_1]
noncomputable def laws_eqIntS.l0 (k m : Nat) (a_0 : (List Int)) (b_1 : (List Int)) (i_5 : Int) : Option Bool := loopRun C k 32 .bool [0, 0] [.r, .r, .l, .r, .b] [] [0, 1, 5] m ⟨[.one (.cell (.list false (.int .i64) a_0)), .one (.cell (.list false (.int .i64) b_1)), .one (.cell (.int .i64 i_5))], []⟩
noncomputable def laws_eqMarkS (k : Nat) (a_0 : (List DT91)) (b_1 : (List DT91)) : Option Bool := run C k 33 .bool [.val (.list T91) a_0, .val (.list T91) b_1]
noncomputable def laws_eqMarkS.l0 (k m : Nat) (a_0 : (List DT91)) (b_1 : (List DT91)) (i_5 : Int) : Option Bool := loopRun C k 33 .bool [0, 0] [.r, .r, .l, .r, .b] [] [0, 1, 5] m ⟨[.one (.cell (.list false T91 a_0)), .one (.cell (.list false T91 b_1)), .one (.cell (.int .i64 i_5))], []⟩
noncomputable def laws_eqLetterS (k : Nat) (a_0 : (List DT23)) (b_1 : (List DT23)) : Option Bool := run C k 34 .bool [.val (.list T23) a_0, .val (.list T23) b_1]
noncomputable def laws_eqLetterS.l0 (k m : Nat) (a_0 : (List DT23)) (b_1 : (List DT23)) (i_5 : Int) : Option Bool := loopRun C k 34 .bool [0, 0] [.r, .r, .l, .r, .b] [] [0, 1, 5] m ⟨[.one (.cell (.list false T23 a_0)), .one (.cell (.list false T23 b_1)), .one (.cell (.int .i64 i_5))], []⟩
noncomputable def laws_szPlayer (k : Nat) (a_0 : DT67) (left_1 : Int) : Option Int := run C k 35 (.int .i64) [.val T67 a_0, .val (.int .i64) left_1]
noncomputable def laws_toEvent (k : Nat) (a_0 : DT80) : Option DT80 := run C k 45 T80 [.val T80 a_0]
noncomputable def laws_toTempo (k : Nat) (a_0 : DT23) : Option DT23 := run C k 46 T23 [.val T23 a_0]
noncomputable def laws_toPlayer (k : Nat) (a_0 : DT67) : Option DT67 := run C k 47 T67 [.val T67 a_0]
noncomputable def laws_toMark (k : Nat) (a_0 : DT91) : Option DT91 := run C k 48 T91 [.val T91 a_0]
noncomputable def laws_toLetter (k : Nat) (a_0 : DT23) : Option DT23 := run C k 49 T23 [.val T23 a_0]
noncomputable def spec_IsScore (k : Nat) (l_0 : (List DT80)) : Option Bool := run C k 36 .bool [.val (.list T80) l_0]
noncomputable def spec_IsScore.l0 (k m : Nat) (l_0 : (List DT80)) (i_3 : Int) : Option Bool := loopRun C k 36 .bool [0] [.r, .l, .r, .b] [] [0, 3] m ⟨[.one (.cell (.list false T80 l_0)), .one (.cell (.int .i64 i_3))], []⟩
noncomputable def spec_IsMeter (k : Nat) (m_0 : DT23) : Option Bool := run C k 37 .bool [.val T23 m_0]
noncomputable def spec_IsTempo (k : Nat) (l_0 : (List DT23)) : Option Bool := run C k 38 .bool [.val (.list T23) l_0]
noncomputable def spec_IsTempo.l0 (k m : Nat) (l_0 : (List DT23)) (i_3 : Int) : Option Bool := loopRun C k 38 .bool [0] [.r, .l, .r, .b] [] [0, 3] m ⟨[.one (.cell (.list false T23 l_0)), .one (.cell (.int .i64 i_3))], []⟩
noncomputable def spec_AreMarks (k : Nat) (l_0 : (List DT91)) : Option Bool := run C k 39 .bool [.val (.list T91) l_0]
noncomputable def spec_AreMarks.l0 (k m : Nat) (l_0 : (List DT91)) (i_3 : Int) : Option Bool := loopRun C k 39 .bool [0] [.r, .l, .r, .b] [] [0, 3] m ⟨[.one (.cell (.list false T91 l_0)), .one (.cell (.int .i64 i_3))], []⟩
noncomputable def spec_AreLetters (k : Nat) (l_0 : (List DT23)) : Option Bool := run C k 40 .bool [.val (.list T23) l_0]
noncomputable def spec_AreLetters.l0 (k m : Nat) (l_0 : (List DT23)) (i_3 : Int) : Option Bool := loopRun C k 40 .bool [0] [.r, .l, .r, .b] [] [0, 3] m ⟨[.one (.cell (.list false T23 l_0)), .one (.cell (.int .i64 i_3))], []⟩
noncomputable def spec_IsSeating (k : Nat) (l_0 : (List DT67)) (score_1 : (List DT80)) (seats_2 : (List Int)) : Option Bool := run C k 41 .bool [.val (.list T67) l_0, .val (.list T80) score_1, .val (.list (.int .i64)) seats_2]
noncomputable def spec_IsSeating.l0 (k m : Nat) (l_0 : (List DT67)) (score_1 : (List DT80)) (seats_2 : (List Int)) (i_7 : Int) : Option Bool := loopRun C k 41 .bool [0, 0, 0] [.r, .l, .r, .b] [] [0, 1, 2, 7] m ⟨[.one (.cell (.list false T67 l_0)), .one (.cell (.list false T80 score_1)), .one (.cell (.list false (.int .i64) seats_2)), .one (.cell (.int .i64 i_7))], []⟩
noncomputable def spec_IsSeating.l1 (k m m1 : Nat) (l_0 : (List DT67)) (score_1 : (List DT80)) (seats_2 : (List Int)) (i_7 : Int) (good_8 : Bool) (k_9 : Int) : Option Bool := loopRun C k 41 .bool [0, 0, 0] [.r, .l, .r, .b, .p, .r, .l, .b, .r, .l, .r, .b] [⟨[0, 1, 2, 7], m1⟩] [0, 1, 2, 7, 8, 9] m ⟨[.one (.cell (.list false T67 l_0)), .one (.cell (.list false T80 score_1)), .one (.cell (.list false (.int .i64) seats_2)), .one (.cell (.int .i64 i_7)), .one (.cell (.prop (good_8 = true) (instDecidableEqBool good_8 true))), .one (.cell (.int .i64 k_9))], []⟩
noncomputable def spec_l1In (k : Nat) (x_0 : Int) (least_1 : Int) (most_2 : Int) : Option Bool := run C k 42 .bool [.val (.int .i64) x_0, .val (.int .i64) least_1, .val (.int .i64) most_2]
noncomputable def spec_TimeOf (k : Nat) (l_0 : (List DT23)) (tick_1 : Int) : Option (DT23 × (Bool × Unit)) := run C k 43 (.pair T23 (.pair .bool .unit)) [.val (.list T23) l_0, .val (.int .i64) tick_1]
noncomputable def spec_TimeOf.l0 (k m : Nat) (l_0 : (List DT23)) (tick_1 : Int) (i_7 : Int) (b0_0 : Int) (b0_1 : Int) (b1_0 : Int) (b1_1 : Int) : Option (DT23 × (Bool × Unit)) := loopRun C k 43 (.pair T23 (.pair .bool .unit)) [0, 0] [.r, .r, .r, .l, .r, .b] [] [0, 1, 4, 6, 7] m ⟨[.one (.cell (.list false T23 l_0)), .one (.cell (.int .i64 tick_1)), .one (.cell (.ptr 1 0)), .one (.cell (.ptr 5 0)), .one (.cell (.int .i64 i_7))], [.box (some T23) [.int .i64 b0_0, .int .i64 b0_1], .box (some T23) [.int .i64 b1_0, .int .i64 b1_1]]⟩
noncomputable def spec_TickAt (k : Nat) (l_0 : (List DT23)) (ms_1 : DT23) : Option (DT23 × (Bool × Unit)) := run C k 44 (.pair T23 (.pair .bool .unit)) [.val (.list T23) l_0, .val T23 ms_1]
noncomputable def spec_TickAt.l0 (k m : Nat) (l_0 : (List DT23)) (k_6 : Int) (i_8 : Int) (b0_0 : Int) (b0_1 : Int) (b1_0 : Int) (b1_1 : Int) (b2_0 : Int) (b2_1 : Int) : Option (DT23 × (Bool × Unit)) := loopRun C k 44 (.pair T23 (.pair .bool .unit)) [0, 0] [.r, .r, .r, .r, .l, .r, .b] [] [0, 3, 4, 6, 7, 8] m ⟨[.one (.cell (.list false T23 l_0)), .one (.cell (.ptr 1 0)), .one (.cell (.ptr 5 0)), .one (.cell (.int .i64 k_6)), .one (.cell (.ptr 9 0)), .one (.cell (.int .i64 i_8))], [.box (some T23) [.int .i64 b0_0, .int .i64 b0_1], .box (some T23) [.int .i64 b1_0, .int .i64 b1_1], .box (some T23) [.int .i64 b2_0, .int .i64 b2_1]]⟩
noncomputable def impl_IsScore (k : Nat) (l_0 : (List DT80)) : Option Bool := run C k 50 .bool [.val (.list T80) l_0]
noncomputable def impl_IsScore.l0 (k m : Nat) (l_0 : (List DT80)) (t_5 : (List DT80)) (t_6 : Int) (t_7 : Int) : Option Bool := loopRun C k 50 .bool [0] [.r, .l, .r, .b] [] [0, 5, 6, 7] m ⟨[.one (.cell (.list false T80 l_0)), .one (.cell (.list false T80 t_5)), .one (.cell (.int .i64 t_6)), .one (.cell (.int .i64 t_7))], []⟩
noncomputable def impl_IsMeter (k : Nat) (m_0 : DT23) : Option Bool := run C k 51 .bool [.val T23 m_0]
noncomputable def impl_IsTempo (k : Nat) (l_0 : (List DT23)) : Option Bool := run C k 52 .bool [.val (.list T23) l_0]
noncomputable def impl_IsTempo.l0 (k m : Nat) (l_0 : (List DT23)) (t_5 : (List DT23)) (t_6 : Int) (t_7 : Int) : Option Bool := loopRun C k 52 .bool [0] [.r, .l, .r, .b] [] [0, 5, 6, 7] m ⟨[.one (.cell (.list false T23 l_0)), .one (.cell (.list false T23 t_5)), .one (.cell (.int .i64 t_6)), .one (.cell (.int .i64 t_7))], []⟩
noncomputable def impl_AreMarks (k : Nat) (l_0 : (List DT91)) : Option Bool := run C k 53 .bool [.val (.list T91) l_0]
noncomputable def impl_AreMarks.l0 (k m : Nat) (l_0 : (List DT91)) (t_5 : (List DT91)) (t_6 : Int) (t_7 : Int) : Option Bool := loopRun C k 53 .bool [0] [.r, .l, .r, .b] [] [0, 5, 6, 7] m ⟨[.one (.cell (.list false T91 l_0)), .one (.cell (.list false T91 t_5)), .one (.cell (.int .i64 t_6)), .one (.cell (.int .i64 t_7))], []⟩
noncomputable def impl_AreLetters (k : Nat) (l_0 : (List DT23)) : Option Bool := run C k 54 .bool [.val (.list T23) l_0]
noncomputable def impl_AreLetters.l0 (k m : Nat) (l_0 : (List DT23)) (t_5 : (List DT23)) (t_6 : Int) (t_7 : Int) : Option Bool := loopRun C k 54 .bool [0] [.r, .l, .r, .b] [] [0, 5, 6, 7] m ⟨[.one (.cell (.list false T23 l_0)), .one (.cell (.list false T23 t_5)), .one (.cell (.int .i64 t_6)), .one (.cell (.int .i64 t_7))], []⟩
noncomputable def impl_IsSeating (k : Nat) (l_0 : (List DT67)) (score_1 : (List DT80)) (seats_2 : (List Int)) : Option Bool := run C k 55 .bool [.val (.list T67) l_0, .val (.list T80) score_1, .val (.list (.int .i64)) seats_2]
noncomputable def impl_IsSeating.l0 (k m : Nat) (l_0 : (List DT67)) (seats_2 : (List Int)) (t_22 : (List Int)) (t_23 : Int) (t_24 : Int) (b0_0 : (List DT80)) : Option Bool := loopRun C k 55 .bool [0, 0, 0] [.r, .r, .l, .r, .b] [] [0, 2, 4, 22, 23, 24] m ⟨[.one (.cell (.list false T67 l_0)), .one (.cell (.list false (.int .i64) seats_2)), .one (.cell (.ptr 1 0)), .one (.cell (.list false (.int .i64) t_22)), .one (.cell (.int .i64 t_23)), .one (.cell (.int .i64 t_24))], [.box (some (.list T80)) [.list false T80 b0_0]]⟩
noncomputable def impl_InRange (k : Nat) (n_0 : Int) (low_1 : Int) (high_2 : Int) : Option Bool := run C k 56 .bool [.val (.int .i64) n_0, .val (.int .i64) low_1, .val (.int .i64) high_2]
noncomputable def slices_ContainsFunc_impl_Event_58 (k : Nat) (s_0 : (List DT80)) (c1_0 : DT30) : Option Bool := run C k 57 .bool [.val (.list T80) s_0, .clo 58 [.ro T30 c1_0]]
noncomputable def slices_ContainsFunc_impl_Event_61 (k : Nat) (s_0 : (List DT80)) (c1_0 : DT30) : Option Bool := run C k 57 .bool [.val (.list T80) s_0, .clo 61 [.ro T30 c1_0]]
noncomputable def laws_eqEvent (k : Nat) (a_0 : DT80) (b_1 : DT80) : Option Bool := run C k 62 .bool [.val T80 a_0, .val T80 b_1]
noncomputable def laws_eqTempo (k : Nat) (a_0 : DT23) (b_1 : DT23) : Option Bool := run C k 63 .bool [.val T23 a_0, .val T23 b_1]
noncomputable def laws_eqPlayer (k : Nat) (a_0 : DT67) (b_1 : DT67) : Option Bool := run C k 64 .bool [.val T67 a_0, .val T67 b_1]
noncomputable def laws_eqMark (k : Nat) (a_0 : DT91) (b_1 : DT91) : Option Bool := run C k 65 .bool [.val T91 a_0, .val T91 b_1]
noncomputable def laws_eqLetter (k : Nat) (a_0 : DT23) (b_1 : DT23) : Option Bool := run C k 66 .bool [.val T23 a_0, .val T23 b_1]
noncomputable def spec_l8Ok (k : Nat) (e_0 : DT80) : Option Bool := run C k 67 .bool [.val T80 e_0]
noncomputable def spec_l8Before (k : Nat) (a_0 : DT80) (b_1 : DT80) : Option Bool := run C k 68 .bool [.val T80 a_0, .val T80 b_1]
noncomputable def spec_l25Before (k : Nat) (a_0 : DT91) (b_1 : DT91) : Option Bool := run C k 69 .bool [.val T91 a_0, .val T91 b_1]
noncomputable def spec_ArePlayers (k : Nat) (l_0 : (List DT67)) : Option Bool := run C k 72 .bool [.val (.list T67) l_0]
noncomputable def spec_ArePlayers.l0 (k m : Nat) (l_0 : (List DT67)) (i_3 : Int) : Option Bool := loopRun C k 72 .bool [0] [.r, .l, .r, .b] [] [0, 3] m ⟨[.one (.cell (.list false T67 l_0)), .one (.cell (.int .i64 i_3))], []⟩
noncomputable def spec_ArePlayers.l1 (k m m1 : Nat) (l_0 : (List DT67)) (i_3 : Int) (k_5 : Int) (b0_0 : Int) (b0_1 : Int) (b0_2 : Int) (b0_3 : (List Int)) : Option Bool := loopRun C k 72 .bool [0] [.r, .l, .r, .b, .p, .r, .l, .b, .r, .r, .r, .b] [⟨[0, 3], m1⟩] [0, 3, 4, 5] m ⟨[.one (.cell (.list false T67 l_0)), .one (.cell (.int .i64 i_3)), .one (.cell (.ptr 1 0)), .one (.cell (.int .i64 k_5))], [.box (some T67) [.int .i64 b0_0, .int .i64 b0_1, .int .i64 b0_2, .list true (.int .i64) b0_3]]⟩
noncomputable def spec_CanPlay (k : Nat) (p_0 : DT67) (l_1 : (List DT80)) (voice_2 : Int) : Option Bool := run C k 70 .bool [.val T67 p_0, .val (.list T80) l_1, .val (.int .i64) voice_2]
noncomputable def spec_l27Has (k : Nat) (l_0 : (List Int)) (n_1 : Int) : Option Bool := run C k 71 .bool [.val (.list (.int .i64)) l_0, .val (.int .i64) n_1]
noncomputable def spec_l27Has.l0 (k m : Nat) (l_0 : (List Int)) (n_1 : Int) (i_5 : Int) : Option Bool := loopRun C k 71 .bool [0, 0] [.r, .l, .r, .b] [] [0, 1, 5] m ⟨[.one (.cell (.list false (.int .i64) l_0)), .one (.cell (.int .i64 n_1)), .one (.cell (.int .i64 i_5))], []⟩
noncomputable def spec_Min (k : Nat) (a_0 : Int) (b_1 : Int) : Option Int := run C k 73 (.int .i64) [.val (.int .i64) a_0, .val (.int .i64) b_1]
noncomputable def spec_MakeRatio (k : Nat) (n_0 : Int) (d_1 : Int) : Option (DT23 × (Bool × Unit)) := run C k 74 (.pair T23 (.pair .bool .unit)) [.val (.int .i64) n_0, .val (.int .i64) d_1]
noncomputable def spec_AddRatio (k : Nat) (a_0 : DT23) (b_1 : DT23) : Option (DT23 × (Bool × Unit)) := run C k 75 (.pair T23 (.pair .bool .unit)) [.val T23 a_0, .val T23 b_1]
noncomputable def spec_IsRatio (k : Nat) (r_0 : DT23) : Option Bool := run C k 76 .bool [.val T23 r_0]
noncomputable def spec_LessRatio (k : Nat) (a_0 : DT23) (b_1 : DT23) : Option Bool := run C k 77 .bool [.val T23 a_0, .val T23 b_1]
noncomputable def spec_MulRatio (k : Nat) (a_0 : DT23) (b_1 : DT23) : Option (DT23 × (Bool × Unit)) := run C k 78 (.pair T23 (.pair .bool .unit)) [.val T23 a_0, .val T23 b_1]
noncomputable def impl_eventOrder (k : Nat) (a_0 : DT80) (b_1 : DT80) : Option Int := run C k 79 (.int .i64) [.val T80 a_0, .val T80 b_1]
noncomputable def impl_markOrder (k : Nat) (a_0 : DT91) (b_1 : DT91) : Option Int := run C k 80 (.int .i64) [.val T91 a_0, .val T91 b_1]
noncomputable def impl_ArePlayers (k : Nat) (l_0 : (List DT67)) : Option Bool := run C k 81 .bool [.val (.list T67) l_0]
noncomputable def impl_ArePlayers.l0 (k m : Nat) (l_0 : (List DT67)) (t_7 : (List DT67)) (t_8 : Int) (t_9 : Int) (s0 : (List Int)) : Option Bool := loopRun C k 81 .bool [0] [.r, .r, .l, .r, .b] [] [0, 3, 7, 8, 9] m ⟨[.one (.cell (.list false T67 l_0)), .one (.cell (.ref 1)), .one (.cell (.list false T67 t_7)), .one (.cell (.int .i64 t_8)), .one (.cell (.int .i64 t_9))], [.arr (.int .i64) s0 .open]⟩
noncomputable def slices_Contains___int_int (k : Nat) (s_0 : (List Int)) (v_1 : Int) : Option Bool := run C k 82 .bool [.val (.list (.int .i64)) s_0, .val (.int .i64) v_1]
noncomputable def slices_ContainsFunc_impl_Player_84 (k : Nat) (s_0 : (List DT67)) (c1_0 : Int) (c1_1 : (List DT80)) (c1_2 : Int) : Option Bool := run C k 83 .bool [.val (.list T67) s_0, .clo 84 [.ro (.int .i64) c1_0, .ro (.list T80) c1_1, .ro (.int .i64) c1_2]]
noncomputable def slices_IndexFunc_impl_Event_58 (k : Nat) (s_0 : (List DT80)) (c1_0 : DT30) : Option Int := run C k 86 (.int .i64) [.val (.list T80) s_0, .clo 58 [.ro T30 c1_0]]
noncomputable def slices_IndexFunc_impl_Event_58.l0 (k m : Nat) (s_0 : (List DT80)) (f_1_c : DT30) (t_7 : Int) (t_8 : Int) : Option Int := loopRun C k 86 (.int .i64) [0, 0] [.r, .l, .r, .b] [] [0, 1, 7, 8] m ⟨[.one (.cell (.list false T80 s_0)), .one (.cell (.clo 58 [.ro T30 f_1_c])), .one (.cell (.int .i64 t_7)), .one (.cell (.int .i64 t_8))], []⟩
noncomputable def slices_IndexFunc_impl_Event_61 (k : Nat) (s_0 : (List DT80)) (c1_0 : DT30) : Option Int := run C k 86 (.int .i64) [.val (.list T80) s_0, .clo 61 [.ro T30 c1_0]]
noncomputable def slices_IndexFunc_impl_Event_61.l0 (k m : Nat) (s_0 : (List DT80)) (f_1_c : DT30) (t_7 : Int) (t_8 : Int) : Option Int := loopRun C k 86 (.int .i64) [0, 0] [.r, .l, .r, .b] [] [0, 1, 7, 8] m ⟨[.one (.cell (.list false T80 s_0)), .one (.cell (.clo 61 [.ro T30 f_1_c])), .one (.cell (.int .i64 t_7)), .one (.cell (.int .i64 t_8))], []⟩
noncomputable def spec_VoiceOf (k : Nat) (l_0 : (List DT80)) (voice_1 : Int) : Option (List DT80) := run C k 93 (.list T80) [.val (.list T80) l_0, .val (.int .i64) voice_1]
noncomputable def spec_VoiceOf.l0 (k m : Nat) (l_0 : (List DT80)) (voice_1 : Int) (i_6 : Int) (s0 : (List DT80)) : Option (List DT80) := loopRun C k 93 (.list T80) [0, 0] [.r, .r, .l, .r, .b] [] [0, 1, 5, 6] m ⟨[.one (.cell (.list false T80 l_0)), .one (.cell (.int .i64 voice_1)), .one (.cell (.ref 1)), .one (.cell (.int .i64 i_6))], [.arr T80 s0 .open]⟩
noncomputable def spec_FitsRange (k : Nat) (l_0 : (List DT80)) (low_1 : Int) (high_2 : Int) : Option Bool := run C k 92 .bool [.val (.list T80) l_0, .val (.int .i64) low_1, .val (.int .i64) high_2]
noncomputable def spec_FitsRange.l0 (k m : Nat) (l_0 : (List DT80)) (low_1 : Int) (high_2 : Int) (i_7 : Int) : Option Bool := loopRun C k 92 .bool [0, 0, 0] [.r, .l, .r, .b] [] [0, 1, 2, 7] m ⟨[.one (.cell (.list false T80 l_0)), .one (.cell (.int .i64 low_1)), .one (.cell (.int .i64 high_2)), .one (.cell (.int .i64 i_7))], []⟩
noncomputable def spec_l4Abs (k : Nat) (n_0 : Int) : Option Int := run C k 95 (.int .i64) [.val (.int .i64) n_0]
noncomputable def spec_l4Gcd (k : Nat) (a_0 : Int) (b_1 : Int) : Option Int := run C k 94 (.int .i64) [.val (.int .i64) a_0, .val (.int .i64) b_1]
noncomputable def spec_l4Gcd.l0 (k m : Nat) (a_0 : Int) (b_1 : Int) : Option Int := loopRun C k 94 (.int .i64) [0, 0] [.r, .l, .b] [] [0, 1] m ⟨[.one (.cell (.int .i64 a_0)), .one (.cell (.int .i64 b_1))], []⟩
noncomputable def cmp_Compare_int (k : Nat) (x_0 : Int) (y_1 : Int) : Option Int := run C k 97 (.int .i64) [.val (.int .i64) x_0, .val (.int .i64) y_1]
noncomputable def cmp_Or_int (k : Nat) (vals_0 : (List Int)) : Option Int := run C k 96 (.int .i64) [.val (.list (.int .i64)) vals_0]
noncomputable def cmp_Or_int.l0 (k m : Nat) (zero_3 : Int) (t_6 : (List Int)) (t_7 : Int) (t_8 : Int) : Option Int := loopRun C k 96 (.int .i64) [0] [.r, .r, .l, .r, .b] [] [3, 6, 7, 8] m ⟨[.one (.cell (.int .i64 zero_3)), .one (.cell (.list false (.int .i64) t_6)), .one (.cell (.int .i64 t_7)), .one (.cell (.int .i64 t_8))], []⟩
noncomputable def impl_ascending (k : Nat) (l_0 : (List Int)) (low_1 : Int) (high_2 : Int) : Option Bool := run C k 98 .bool [.val (.list (.int .i64)) l_0, .val (.int .i64) low_1, .val (.int .i64) high_2]
noncomputable def impl_ascending.l0 (k m : Nat) (l_0 : (List Int)) (low_1 : Int) (high_2 : Int) (t_9 : (List Int)) (t_10 : Int) (t_11 : Int) : Option Bool := loopRun C k 98 .bool [0, 0, 0] [.r, .l, .r, .b] [] [0, 1, 2, 9, 10, 11] m ⟨[.one (.cell (.list false (.int .i64) l_0)), .one (.cell (.int .i64 low_1)), .one (.cell (.int .i64 high_2)), .one (.cell (.list false (.int .i64) t_9)), .one (.cell (.int .i64 t_10)), .one (.cell (.int .i64 t_11))], []⟩
noncomputable def slices_Index___int_int (k : Nat) (s_0 : (List Int)) (v_1 : Int) : Option Int := run C k 99 (.int .i64) [.val (.list (.int .i64)) s_0, .val (.int .i64) v_1]
noncomputable def slices_Index___int_int.l0 (k m : Nat) (s_0 : (List Int)) (v_1 : Int) (t_7 : Int) (t_8 : Int) : Option Int := loopRun C k 99 (.int .i64) [0, 0] [.r, .l, .r, .b] [] [0, 1, 7, 8] m ⟨[.one (.cell (.list false (.int .i64) s_0)), .one (.cell (.int .i64 v_1)), .one (.cell (.int .i64 t_7)), .one (.cell (.int .i64 t_8))], []⟩
noncomputable def slices_IndexFunc_impl_Player_84 (k : Nat) (s_0 : (List DT67)) (c1_0 : Int) (c1_1 : (List DT80)) (c1_2 : Int) : Option Int := run C k 100 (.int .i64) [.val (.list T67) s_0, .clo 84 [.ro (.int .i64) c1_0, .ro (.list T80) c1_1, .ro (.int .i64) c1_2]]
noncomputable def slices_IndexFunc_impl_Player_84.l0 (k m : Nat) (s_0 : (List DT67)) (f_1_c : Int) (f_1_c_1 : (List DT80)) (f_1_c_2 : Int) (t_7 : Int) (t_8 : Int) : Option Int := loopRun C k 100 (.int .i64) [0, 0] [.r, .l, .r, .b] [] [0, 1, 7, 8] m ⟨[.one (.cell (.list false T67 s_0)), .one (.cell (.clo 84 [.ro (.int .i64) f_1_c, .ro (.list T80) f_1_c_1, .ro (.int .i64) f_1_c_2])), .one (.cell (.int .i64 t_7)), .one (.cell (.int .i64 t_8))], []⟩
noncomputable def impl_IsExact_1 (k : Nat) (e_0 : DT80) (a_1 : DT30) : Option Bool := run C k 58 .bool [.val T80 e_0, .rp T30 a_1]
noncomputable def impl_AreSeated_1 (k : Nat) (e_0 : DT80) (a_1 : DT30) : Option Bool := run C k 61 .bool [.val T80 e_0, .rp T30 a_1]
noncomputable def cmp_isNaN_int (k : Nat) (x_0 : Int) : Option Bool := run C k 105 .bool [.val (.int .i64) x_0]
noncomputable def impl_IsSeating_1 (k : Nat) (p_0 : DT67) (a_1 : Int) (a_2 : (List DT80)) (a_3 : Int) : Option Bool := run C k 84 .bool [.val T67 p_0, .rp (.int .i64) a_1, .rp (.list T80) a_2, .rp (.int .i64) a_3]
noncomputable def impl_TimeOf (k : Nat) (l_0 : (List DT23)) (tick_1 : Int) : Option (DT23 × (Bool × Unit)) := run C k 59 (.pair T23 (.pair .bool .unit)) [.val (.list T23) l_0, .val (.int .i64) tick_1]
noncomputable def impl_TimeOf.l0 (k m : Nat) (l_0 : (List DT23)) (tick_1 : Int) (t_24 : (List DT23)) (t_25 : Int) (t_26 : Int) (b0_0 : Int) (b0_1 : Int) (b1_0 : Int) (b1_1 : Int) : Option (DT23 × (Bool × Unit)) := loopRun C k 59 (.pair T23 (.pair .bool .unit)) [0, 0] [.r, .r, .r, .l, .r, .b] [] [0, 1, 4, 6, 24, 25, 26] m ⟨[.one (.cell (.list false T23 l_0)), .one (.cell (.int .i64 tick_1)), .one (.cell (.ptr 1 0)), .one (.cell (.ptr 5 0)), .one (.cell (.list false T23 t_24)), .one (.cell (.int .i64 t_25)), .one (.cell (.int .i64 t_26))], [.box (some T23) [.int .i64 b0_0, .int .i64 b0_1], .box (some T23) [.int .i64 b1_0, .int .i64 b1_1]]⟩
noncomputable def impl_TickAt (k : Nat) (l_0 : (List DT23)) (ms_1 : DT23) : Option (DT23 × (Bool × Unit)) := run C k 60 (.pair T23 (.pair .bool .unit)) [.val (.list T23) l_0, .val T23 ms_1]
noncomputable def impl_TickAt.l0 (k m : Nat) (l_0 : (List DT23)) (t_39 : (List DT23)) (t_40 : Int) (t_41 : Int) (b0_0 : Int) (b0_1 : Int) (b1_0 : Int) (b1_1 : Int) (b2_0 : Int) (b2_1 : Int) (b3_0 : Int) (b3_1 : Int) : Option (DT23 × (Bool × Unit)) := loopRun C k 60 (.pair T23 (.pair .bool .unit)) [0, 0] [.r, .r, .r, .l, .r, .b] [] [0, 3, 4, 6, 7, 39, 40, 41] m ⟨[.one (.cell (.list false T23 l_0)), .one (.cell (.ptr 1 0)), .one (.cell (.ptr 5 0)), .one (.cell (.ptr 9 0)), .one (.cell (.ptr 13 0)), .one (.cell (.list false T23 t_39)), .one (.cell (.int .i64 t_40)), .one (.cell (.int .i64 t_41))], [.box (some T23) [.int .i64 b0_0, .int .i64 b0_1], .box (some T23) [.int .i64 b1_0, .int .i64 b1_1], .box (some T23) [.int .i64 b2_0, .int .i64 b2_1], .box (some T23) [.int .i64 b3_0, .int .i64 b3_1]]⟩
noncomputable def impl_CanPlay (k : Nat) (p_0 : DT67) (l_1 : (List DT80)) (voice_2 : Int) : Option Bool := run C k 85 .bool [.val T67 p_0, .val (.list T80) l_1, .val (.int .i64) voice_2]
noncomputable def impl_MakeRatio (k : Nat) (n_0 : Int) (d_1 : Int) : Option (DT23 × (Bool × Unit)) := run C k 87 (.pair T23 (.pair .bool .unit)) [.val (.int .i64) n_0, .val (.int .i64) d_1]
noncomputable def impl_AddRatio (k : Nat) (a_0 : DT23) (b_1 : DT23) : Option (DT23 × (Bool × Unit)) := run C k 88 (.pair T23 (.pair .bool .unit)) [.val T23 a_0, .val T23 b_1]
noncomputable def impl_IsRatio (k : Nat) (r_0 : DT23) : Option Bool := run C k 89 .bool [.val T23 r_0]
noncomputable def impl_LessRatio (k : Nat) (a_0 : DT23) (b_1 : DT23) : Option Bool := run C k 90 .bool [.val T23 a_0, .val T23 b_1]
noncomputable def impl_MulRatio (k : Nat) (a_0 : DT23) (b_1 : DT23) : Option (DT23 × (Bool × Unit)) := run C k 91 (.pair T23 (.pair .bool .unit)) [.val T23 a_0, .val T23 b_1]
noncomputable def impl_VoiceOf (k : Nat) (l_0 : (List DT80)) (voice_1 : Int) : Option (List DT80) := run C k 102 (.list T80) [.val (.list T80) l_0, .val (.int .i64) voice_1]
noncomputable def impl_FitsRange (k : Nat) (l_0 : (List DT80)) (low_1 : Int) (high_2 : Int) : Option Bool := run C k 101 .bool [.val (.list T80) l_0, .val (.int .i64) low_1, .val (.int .i64) high_2]
noncomputable def impl_FitsRange.l0 (k m : Nat) (l_0 : (List DT80)) (low_1 : Int) (high_2 : Int) (t_9 : (List DT80)) (t_10 : Int) (t_11 : Int) : Option Bool := loopRun C k 101 .bool [0, 0, 0] [.r, .l, .r, .b] [] [0, 1, 2, 9, 10, 11] m ⟨[.one (.cell (.list false T80 l_0)), .one (.cell (.int .i64 low_1)), .one (.cell (.int .i64 high_2)), .one (.cell (.list false T80 t_9)), .one (.cell (.int .i64 t_10)), .one (.cell (.int .i64 t_11))], []⟩
noncomputable def impl_lowest (k : Nat) (n_0 : Int) (d_1 : Int) : Option (DT23 × (Bool × Unit)) := run C k 103 (.pair T23 (.pair .bool .unit)) [.val (.int .i64) n_0, .val (.int .i64) d_1]
noncomputable def impl_divisor (k : Nat) (a_0 : Int) (b_1 : Int) : Option Int := run C k 104 (.int .i64) [.val (.int .i64) a_0, .val (.int .i64) b_1]
noncomputable def impl_divisor.l0 (k m : Nat) (a_0 : Int) (b_1 : Int) : Option Int := loopRun C k 104 (.int .i64) [0, 0] [.r, .l, .b] [] [0, 1] m ⟨[.one (.cell (.int .i64 a_0)), .one (.cell (.int .i64 b_1))], []⟩
noncomputable def impl_clone_impl_Event (k : Nat) (l_0 : (List DT80)) : Option (List DT80) := run C k 107 (.list T80) [.val (.list T80) l_0]
noncomputable def slices_DeleteFunc_impl_Event_108 (k : Nat) (s_0 : (List DT80)) (c1_0 : Int) : Option (List DT80) := run C k 106 (.list T80) [.ioArr T80 s_0, .clo 108 [.ro (.int .i64) c1_0]]
noncomputable def slices_DeleteFunc_impl_Event_108.l0 (k m : Nat) (del_1_c : Int) (i_5 : Int) (j_6 : Int) (s0 : (List DT80)) : Option (List DT80) := loopRun C k 106 (.list T80) [0, 0] [.r, .r, .r, .l, .r, .b] [] [0, 1, 5, 6] m ⟨[.one (.cell (.ref 1)), .one (.cell (.clo 108 [.ro (.int .i64) del_1_c])), .one (.cell (.int .i64 i_5)), .one (.cell (.int .i64 j_6))], [.arr T80 s0 .open]⟩
noncomputable def slices_IndexFunc_impl_Event_108 (k : Nat) (s_0 : (List DT80)) (c1_0 : Int) : Option Int := run C k 86 (.int .i64) [.val (.list T80) s_0, .clo 108 [.ro (.int .i64) c1_0]]
noncomputable def slices_IndexFunc_impl_Event_108.l0 (k m : Nat) (s_0 : (List DT80)) (f_1_c : Int) (t_7 : Int) (t_8 : Int) : Option Int := loopRun C k 86 (.int .i64) [0, 0] [.r, .l, .r, .b] [] [0, 1, 7, 8] m ⟨[.one (.cell (.list false T80 s_0)), .one (.cell (.clo 108 [.ro (.int .i64) f_1_c])), .one (.cell (.int .i64 t_7)), .one (.cell (.int .i64 t_8))], []⟩
noncomputable def impl_VoiceOf_1 (k : Nat) (e_0 : DT80) (a_1 : Int) : Option Bool := run C k 108 .bool [.val T80 e_0, .rp (.int .i64) a_1]
theorem laws_FnExactFaultOf_eq (k : Nat) (aO_0 : DT30) : laws_FnExactFaultOf (k + 1) aO_0 =
 (laws_szOrchestra k aO_0 1048576).bind fun r1 =>
 if (r1 : Int) < 0 then
 some true
 else (laws_toOrchestra k aO_0).bind fun r2 =>
 (spec_FaultOf k r2).bind fun r3 =>
 (laws_toOrchestra k aO_0).bind fun r4 =>
 (impl_FaultOf k r4).bind fun r5 =>
 if ¬ (r5 = r3) then
 some false
 else (laws_toOrchestra k aO_0).bind fun r6 =>
 (laws_eqOrchestra k r4 r6).bind fun r7 =>
 if ¬ (r7 = true) then
 some false
 else some true := by kernel_rfl
theorem laws_szOrchestra_eq (k : Nat) (a_0 : DT30) (left_1 : Int) : laws_szOrchestra (k + 1) a_0 left_1 =
 (laws_szEventS k a_0.1 left_1).bind fun r1 =>
 if (r1 : Int) < 0 then
 some (-1)
 else (laws_szTempoS k a_0.2.2.1 r1).bind fun r2 =>
 if (r2 : Int) < 0 then
 some (-1)
 else (laws_szPlayerS k a_0.2.2.2.1 r2).bind fun r3 =>
 if (r3 : Int) < 0 then
 some (-1)
 else (laws_szIntS k a_0.2.2.2.2.1 r3).bind fun r4 =>
 if (r4 : Int) < 0 then
 some (-1)
 else (laws_szMarkS k a_0.2.2.2.2.2.1 r4).bind fun r5 =>
 if (r5 : Int) < 0 then
 some (-1)
 else (laws_szLetterS k a_0.2.2.2.2.2.2.1 r5).bind fun r6 =>
 if (r6 : Int) < 0 then
 some (-1)
 else some r6 := by kernel_rfl
theorem laws_toOrchestra_eq (k : Nat) (a_0 : DT30) : laws_toOrchestra (k + 1) a_0 =
 (laws_toEventS k a_0.1).bind fun r1 =>
 (laws_toMeter k a_0.2.1).bind fun r2 =>
 (laws_toTempoS k a_0.2.2.1).bind fun r3 =>
 (laws_toPlayerS k a_0.2.2.2.1).bind fun r4 =>
 (laws_toIntS k a_0.2.2.2.2.1).bind fun r5 =>
 (laws_toMarkS k a_0.2.2.2.2.2.1).bind fun r6 =>
 (laws_toLetterS k a_0.2.2.2.2.2.2.1).bind fun r7 =>
 some (r1, (r2, (r3, (r4, (r5, (r6, (r7, a_0.2.2.2.2.2.2.2))))))) := by kernel_rfl
theorem spec_FaultOf_eq (k : Nat) (o_0 : DT30) : spec_FaultOf (k + 1) o_0 =
 (spec_IsOrchestra k o_0).bind fun r1 =>
 if ¬ (r1 = true) then
 some (ByteArray.mk #[111, 114, 99, 104, 101, 115, 116, 114, 97])
 else (spec_IsExact k o_0).bind fun r2 =>
 if ¬ (r2 = true) then
 some (ByteArray.mk #[101, 120, 97, 99, 116])
 else (spec_AreSeated k o_0).bind fun r3 =>
 if ¬ (r3 = true) then
 some (ByteArray.mk #[115, 101, 97, 116])
 else some (ByteArray.mk #[]) := by kernel_rfl
theorem impl_FaultOf_eq (k : Nat) (o_0 : DT30) : impl_FaultOf (k + 1) o_0 =
 (impl_IsOrchestra k o_0).bind fun r1 =>
 if ¬ (r1 = true) then
 some (ByteArray.mk #[111, 114, 99, 104, 101, 115, 116, 114, 97])
 else (impl_IsExact k o_0).bind fun r2 =>
 if ¬ (r2 = true) then
 some (ByteArray.mk #[101, 120, 97, 99, 116])
 else (impl_AreSeated k o_0).bind fun r3 =>
 if ¬ (r3 = true) then
 some (ByteArray.mk #[115, 101, 97, 116])
 else some (ByteArray.mk #[]) := by kernel_rfl
theorem laws_eqOrchestra_eq (k : Nat) (a_0 : DT30) (b_1 : DT30) : laws_eqOrchestra (k + 1) a_0 b_1 =
 (laws_eqEventS k a_0.1 b_1.1).bind fun r1 =>
 if ¬ (r1 = true) then
 some false
 else (laws_eqMeter k a_0.2.1 b_1.2.1).bind fun r2 =>
 if ¬ (r2 = true) then
 some false
 else (laws_eqTempoS k a_0.2.2.1 b_1.2.2.1).bind fun r3 =>
 if ¬ (r3 = true) then
 some false
 else (laws_eqPlayerS k a_0.2.2.2.1 b_1.2.2.2.1).bind fun r4 =>
 if ¬ (r4 = true) then
 some false
 else (laws_eqIntS k a_0.2.2.2.2.1 b_1.2.2.2.2.1).bind fun r5 =>
 if ¬ (r5 = true) then
 some false
 else (laws_eqMarkS k a_0.2.2.2.2.2.1 b_1.2.2.2.2.2.1).bind fun r6 =>
 if ¬ (r6 = true) then
 some false
 else (laws_eqLetterS k a_0.2.2.2.2.2.2.1 b_1.2.2.2.2.2.2.1).bind fun r7 =>
 if ¬ (r7 = true) then
 some false
 else if (a_0.2.2.2.2.2.2.2.1 : Int) ≠ b_1.2.2.2.2.2.2.2.1 then
 some false
 else if (a_0.2.2.2.2.2.2.2.2.1 : Int) ≠ b_1.2.2.2.2.2.2.2.2.1 then
 some false
 else some true := by kernel_rfl
theorem laws_szEventS_eq (k : Nat) (a_0 : (List DT80)) (left_1 : Int) : laws_szEventS (k + 1) a_0 left_1 =
 if ((IntKind.wrap .i64 (left_1 - ((List.length a_0 : Nat) : Int))) : Int) < 0 then
 some (-1)
 else some (IntKind.wrap .i64 (left_1 - ((List.length a_0 : Nat) : Int))) := by kernel_rfl
theorem laws_szTempoS_eq (k : Nat) (a_0 : (List DT23)) (left_1 : Int) : laws_szTempoS (k + 1) a_0 left_1 =
 if ((IntKind.wrap .i64 (left_1 - ((List.length a_0 : Nat) : Int))) : Int) < 0 then
 some (-1)
 else some (IntKind.wrap .i64 (left_1 - ((List.length a_0 : Nat) : Int))) := by kernel_rfl
theorem laws_szPlayerS_eq (k : Nat) (a_0 : (List DT67)) (left_1 : Int) : laws_szPlayerS (k + 1) a_0 left_1 =
 if ((IntKind.wrap .i64 (left_1 - ((List.length a_0 : Nat) : Int))) : Int) < 0 then
 some (-1)
 else laws_szPlayerS.l0 k k a_0 (IntKind.wrap .i64 (left_1 - ((List.length a_0 : Nat) : Int))) 0 := by kernel_rfl
theorem laws_szPlayerS.l0_eq (k m : Nat) (a_0 : (List DT67)) (left_1 : Int) (i_5 : Int) : laws_szPlayerS.l0 k (m + 1) a_0 left_1 i_5 =
 if (i_5 : Int) < ((List.length a_0 : Nat) : Int) then
 if 0 ≤ i_5 then
 if i_5 < ((List.length a_0 : Nat) : Int) then
 (laws_szPlayer k (rd T67 a_0 i_5) left_1).bind fun r1 =>
 if (r1 : Int) < 0 then
 some (-1)
 else laws_szPlayerS.l0 k m a_0 r1 (IntKind.wrap .i64 (i_5 + 1)) else none else none
 else some left_1 := by kernel_rfl
theorem laws_szIntS_eq (k : Nat) (a_0 : (List Int)) (left_1 : Int) : laws_szIntS (k + 1) a_0 left_1 =
 if ((IntKind.wrap .i64 (left_1 - ((List.length a_0 : Nat) : Int))) : Int) < 0 then
 some (-1)
 else some (IntKind.wrap .i64 (left_1 - ((List.length a_0 : Nat) : Int))) := by kernel_rfl
theorem laws_szMarkS_eq (k : Nat) (a_0 : (List DT91)) (left_1 : Int) : laws_szMarkS (k + 1) a_0 left_1 =
 if ((IntKind.wrap .i64 (left_1 - ((List.length a_0 : Nat) : Int))) : Int) < 0 then
 some (-1)
 else some (IntKind.wrap .i64 (left_1 - ((List.length a_0 : Nat) : Int))) := by kernel_rfl
theorem laws_szLetterS_eq (k : Nat) (a_0 : (List DT23)) (left_1 : Int) : laws_szLetterS (k + 1) a_0 left_1 =
 if ((IntKind.wrap .i64 (left_1 - ((List.length a_0 : Nat) : Int))) : Int) < 0 then
 some (-1)
 else some (IntKind.wrap .i64 (left_1 - ((List.length a_0 : Nat) : Int))) := by kernel_rfl
theorem laws_toEventS_eq (k : Nat) (a_0 : (List DT80)) : laws_toEventS (k + 1) a_0 =
 if 0 ≤ ((List.length a_0 : Nat) : Int) then
 if ((List.length a_0 : Nat) : Int) ≤ ((List.length a_0 : Nat) : Int) then
 if ((List.length a_0 : Nat) : Int) * 32 ≤ 211106232532992 then
 laws_toEventS.l0 k k a_0 0 (List.replicate (Int.toNat ((List.length a_0 : Nat) : Int)) (Ty.dflt T80)) else none else none else none := by kernel_rfl
theorem laws_toEventS.l0_eq (k m : Nat) (a_0 : (List DT80)) (i_4 : Int) (s0 : (List DT80)) : laws_toEventS.l0 k (m + 1) a_0 i_4 s0 =
 if (i_4 : Int) < ((List.length a_0 : Nat) : Int) then
 if 0 ≤ i_4 then
 if i_4 < ((List.length a_0 : Nat) : Int) then
 (laws_toEvent k (rd T80 a_0 i_4)).bind fun r1 =>
 if 0 ≤ i_4 then
 if i_4 < ((List.length s0 : Nat) : Int) then
 laws_toEventS.l0 k m a_0 (IntKind.wrap .i64 (i_4 + 1)) (List.set s0 (Int.toNat i_4) r1) else none else none else none else none
 else some s0 := by kernel_rfl
theorem laws_toMeter_eq (k : Nat) (a_0 : DT23) : laws_toMeter (k + 1) a_0 =
 some a_0 := by kernel_rfl
theorem laws_toTempoS_eq (k : Nat) (a_0 : (List DT23)) : laws_toTempoS (k + 1) a_0 =
 if 0 ≤ ((List.length a_0 : Nat) : Int) then
 if ((List.length a_0 : Nat) : Int) ≤ ((List.length a_0 : Nat) : Int) then
 if ((List.length a_0 : Nat) : Int) * 16 ≤ 211106232532992 then
 laws_toTempoS.l0 k k a_0 0 (List.replicate (Int.toNat ((List.length a_0 : Nat) : Int)) (Ty.dflt T23)) else none else none else none := by kernel_rfl
theorem laws_toTempoS.l0_eq (k m : Nat) (a_0 : (List DT23)) (i_4 : Int) (s0 : (List DT23)) : laws_toTempoS.l0 k (m + 1) a_0 i_4 s0 =
 if (i_4 : Int) < ((List.length a_0 : Nat) : Int) then
 if 0 ≤ i_4 then
 if i_4 < ((List.length a_0 : Nat) : Int) then
 (laws_toTempo k (rd T23 a_0 i_4)).bind fun r1 =>
 if 0 ≤ i_4 then
 if i_4 < ((List.length s0 : Nat) : Int) then
 laws_toTempoS.l0 k m a_0 (IntKind.wrap .i64 (i_4 + 1)) (List.set s0 (Int.toNat i_4) r1) else none else none else none else none
 else some s0 := by kernel_rfl
theorem laws_toPlayerS_eq (k : Nat) (a_0 : (List DT67)) : laws_toPlayerS (k + 1) a_0 =
 if 0 ≤ ((List.length a_0 : Nat) : Int) then
 if ((List.length a_0 : Nat) : Int) ≤ ((List.length a_0 : Nat) : Int) then
 if ((List.length a_0 : Nat) : Int) * 48 ≤ 211106232532992 then
 laws_toPlayerS.l0 k k a_0 0 (List.replicate (Int.toNat ((List.length a_0 : Nat) : Int)) (Ty.dflt T67)) else none else none else none := by kernel_rfl
theorem laws_toPlayerS.l0_eq (k m : Nat) (a_0 : (List DT67)) (i_4 : Int) (s0 : (List DT67)) : laws_toPlayerS.l0 k (m + 1) a_0 i_4 s0 =
 if (i_4 : Int) < ((List.length a_0 : Nat) : Int) then
 if 0 ≤ i_4 then
 if i_4 < ((List.length a_0 : Nat) : Int) then
 (laws_toPlayer k (rd T67 a_0 i_4)).bind fun r1 =>
 if 0 ≤ i_4 then
 if i_4 < ((List.length s0 : Nat) : Int) then
 laws_toPlayerS.l0 k m a_0 (IntKind.wrap .i64 (i_4 + 1)) (List.set s0 (Int.toNat i_4) r1) else none else none else none else none
 else some s0 := by kernel_rfl
theorem laws_toIntS_eq (k : Nat) (a_0 : (List Int)) : laws_toIntS (k + 1) a_0 =
 if 0 ≤ ((List.length a_0 : Nat) : Int) then
 if ((List.length a_0 : Nat) : Int) ≤ ((List.length a_0 : Nat) : Int) then
 if ((List.length a_0 : Nat) : Int) * 8 ≤ 211106232532992 then
 laws_toIntS.l0 k k a_0 0 (List.replicate (Int.toNat ((List.length a_0 : Nat) : Int)) (Ty.dflt (.int .i64))) else none else none else none := by kernel_rfl
theorem laws_toIntS.l0_eq (k m : Nat) (a_0 : (List Int)) (i_4 : Int) (s0 : (List Int)) : laws_toIntS.l0 k (m + 1) a_0 i_4 s0 =
 if (i_4 : Int) < ((List.length a_0 : Nat) : Int) then
 if 0 ≤ i_4 then
 if i_4 < ((List.length a_0 : Nat) : Int) then
 if 0 ≤ i_4 then
 if i_4 < ((List.length s0 : Nat) : Int) then
 laws_toIntS.l0 k m a_0 (IntKind.wrap .i64 (i_4 + 1)) (List.set s0 (Int.toNat i_4) (rd (.int .i64) a_0 i_4)) else none else none else none else none
 else some s0 := by kernel_rfl
theorem laws_toMarkS_eq (k : Nat) (a_0 : (List DT91)) : laws_toMarkS (k + 1) a_0 =
 if 0 ≤ ((List.length a_0 : Nat) : Int) then
 if ((List.length a_0 : Nat) : Int) ≤ ((List.length a_0 : Nat) : Int) then
 if ((List.length a_0 : Nat) : Int) * 40 ≤ 211106232532992 then
 laws_toMarkS.l0 k k a_0 0 (List.replicate (Int.toNat ((List.length a_0 : Nat) : Int)) (Ty.dflt T91)) else none else none else none := by kernel_rfl
theorem laws_toMarkS.l0_eq (k m : Nat) (a_0 : (List DT91)) (i_4 : Int) (s0 : (List DT91)) : laws_toMarkS.l0 k (m + 1) a_0 i_4 s0 =
 if (i_4 : Int) < ((List.length a_0 : Nat) : Int) then
 if 0 ≤ i_4 then
 if i_4 < ((List.length a_0 : Nat) : Int) then
 (laws_toMark k (rd T91 a_0 i_4)).bind fun r1 =>
 if 0 ≤ i_4 then
 if i_4 < ((List.length s0 : Nat) : Int) then
 laws_toMarkS.l0 k m a_0 (IntKind.wrap .i64 (i_4 + 1)) (List.set s0 (Int.toNat i_4) r1) else none else none else none else none
 else some s0 := by kernel_rfl
theorem laws_toLetterS_eq (k : Nat) (a_0 : (List DT23)) : laws_toLetterS (k + 1) a_0 =
 if 0 ≤ ((List.length a_0 : Nat) : Int) then
 if ((List.length a_0 : Nat) : Int) ≤ ((List.length a_0 : Nat) : Int) then
 if ((List.length a_0 : Nat) : Int) * 16 ≤ 211106232532992 then
 laws_toLetterS.l0 k k a_0 0 (List.replicate (Int.toNat ((List.length a_0 : Nat) : Int)) (Ty.dflt T23)) else none else none else none := by kernel_rfl
theorem laws_toLetterS.l0_eq (k m : Nat) (a_0 : (List DT23)) (i_4 : Int) (s0 : (List DT23)) : laws_toLetterS.l0 k (m + 1) a_0 i_4 s0 =
 if (i_4 : Int) < ((List.length a_0 : Nat) : Int) then
 if 0 ≤ i_4 then
 if i_4 < ((List.length a_0 : Nat) : Int) then
 (laws_toLetter k (rd T23 a_0 i_4)).bind fun r1 =>
 if 0 ≤ i_4 then
 if i_4 < ((List.length s0 : Nat) : Int) then
 laws_toLetterS.l0 k m a_0 (IntKind.wrap .i64 (i_4 + 1)) (List.set s0 (Int.toNat i_4) r1) else none else none else none else none
 else some s0 := by kernel_rfl
theorem spec_IsOrchestra_eq (k : Nat) (o_0 : DT30) : spec_IsOrchestra (k + 1) o_0 =
 (spec_IsScore k o_0.1).bind fun r1 =>
 if r1 = true then
 (spec_IsMeter k o_0.2.1).bind fun r2 =>
 if r2 = true then
 (spec_IsTempo k o_0.2.2.1).bind fun r3 =>
 if r3 = true then
 (spec_AreMarks k o_0.2.2.2.2.2.1).bind fun r4 =>
 if r4 = true then
 (spec_AreLetters k o_0.2.2.2.2.2.2.1).bind fun r5 =>
 if r5 = true then
 (spec_IsSeating k o_0.2.2.2.1 o_0.1 o_0.2.2.2.2.1).bind fun r6 =>
 if r6 = true then
 (spec_l1In k o_0.2.2.2.2.2.2.2.1 1 9999).bind fun r7 =>
 if r7 = true then
 (spec_l1In k o_0.2.2.2.2.2.2.2.2.1 0 100000).bind fun r8 =>
 some (decide (r8 = true))
 else some false
 else some false
 else some false
 else some false
 else some false
 else some false
 else some false := by kernel_rfl
theorem spec_IsExact_eq (k : Nat) (o_0 : DT30) : spec_IsExact (k + 1) o_0 =
 spec_IsExact.l0 k k 0 o_0.1 o_0.2.1.1 o_0.2.1.2.1 o_0.2.2.1 o_0.2.2.2.1 o_0.2.2.2.2.1 o_0.2.2.2.2.2.1 o_0.2.2.2.2.2.2.1 o_0.2.2.2.2.2.2.2.1 o_0.2.2.2.2.2.2.2.2.1 := by kernel_rfl
theorem spec_IsExact.l0_eq (k m : Nat) (i_3 : Int) (b0_0 : (List DT80)) (b0_1 : Int) (b0_2 : Int) (b0_3 : (List DT23)) (b0_4 : (List DT67)) (b0_5 : (List Int)) (b0_6 : (List DT91)) (b0_7 : (List DT23)) (b0_8 : Int) (b0_9 : Int) : spec_IsExact.l0 k (m + 1) i_3 b0_0 b0_1 b0_2 b0_3 b0_4 b0_5 b0_6 b0_7 b0_8 b0_9 =
 if (i_3 : Int) < ((List.length b0_0 : Nat) : Int) then
 if 0 ≤ i_3 then
 if i_3 < ((List.length b0_0 : Nat) : Int) then
 (spec_TimeOf k b0_3 (rd T80 b0_0 i_3).1).bind fun r1 =>
 (spec_TickAt k b0_3 r1.1).bind fun r2 =>
 if ¬ (r1.2.1 = true) then
 some false
 else if ¬ (r2.2.1 = true) then
 some false
 else if 0 ≤ i_3 then
 if i_3 < ((List.length b0_0 : Nat) : Int) then
 if ¬ (((r2.1.1 : Int) = (rd T80 b0_0 i_3).1) ∧ ((r2.1.2.1 : Int) = 1)) then
 some false
 else spec_IsExact.l0 k m (IntKind.wrap .i64 (i_3 + 1)) b0_0 b0_1 b0_2 b0_3 b0_4 b0_5 b0_6 b0_7 b0_8 b0_9 else none else none else none else none
 else some true := by kernel_rfl
theorem spec_AreSeated_eq (k : Nat) (o_0 : DT30) : spec_AreSeated (k + 1) o_0 =
 spec_AreSeated.l0 k k 0 o_0.1 o_0.2.1.1 o_0.2.1.2.1 o_0.2.2.1 o_0.2.2.2.1 o_0.2.2.2.2.1 o_0.2.2.2.2.2.1 o_0.2.2.2.2.2.2.1 o_0.2.2.2.2.2.2.2.1 o_0.2.2.2.2.2.2.2.2.1 := by kernel_rfl
theorem spec_AreSeated.l0_eq (k m : Nat) (i_3 : Int) (b0_0 : (List DT80)) (b0_1 : Int) (b0_2 : Int) (b0_3 : (List DT23)) (b0_4 : (List DT67)) (b0_5 : (List Int)) (b0_6 : (List DT91)) (b0_7 : (List DT23)) (b0_8 : Int) (b0_9 : Int) : spec_AreSeated.l0 k (m + 1) i_3 b0_0 b0_1 b0_2 b0_3 b0_4 b0_5 b0_6 b0_7 b0_8 b0_9 =
 if (i_3 : Int) < ((List.length b0_0 : Nat) : Int) then
 if 0 ≤ i_3 then
 if i_3 < ((List.length b0_0 : Nat) : Int) then
 if LT.lt (α := Int) ((List.length b0_5 : Nat) : Int) (rd T80 b0_0 i_3).2.2.2.1 then
 some false
 else spec_AreSeated.l0 k m (IntKind.wrap .i64 (i_3 + 1)) b0_0 b0_1 b0_2 b0_3 b0_4 b0_5 b0_6 b0_7 b0_8 b0_9 else none else none
 else some true := by kernel_rfl
theorem impl_IsOrchestra_eq (k : Nat) (o_0 : DT30) : impl_IsOrchestra (k + 1) o_0 =
 (impl_IsScore k o_0.1).bind fun r1 =>
 if r1 = true then
 (impl_IsMeter k o_0.2.1).bind fun r2 =>
 if r2 = true then
 (impl_IsTempo k o_0.2.2.1).bind fun r3 =>
 if r3 = true then
 (impl_AreMarks k o_0.2.2.2.2.2.1).bind fun r4 =>
 if r4 = true then
 (impl_AreLetters k o_0.2.2.2.2.2.2.1).bind fun r5 =>
 if r5 = true then
 (impl_IsSeating k o_0.2.2.2.1 o_0.1 o_0.2.2.2.2.1).bind fun r6 =>
 if r6 = true then
 (impl_InRange k o_0.2.2.2.2.2.2.2.1 1 9999).bind fun r7 =>
 if r7 = true then
 (impl_InRange k o_0.2.2.2.2.2.2.2.2.1 0 100000).bind fun r8 =>
 some (decide (r8 = true))
 else some false
 else some false
 else some false
 else some false
 else some false
 else some false
 else some false := by kernel_rfl
theorem impl_IsExact_eq (k : Nat) (o_0 : DT30) : impl_IsExact (k + 1) o_0 =
 (slices_ContainsFunc_impl_Event_58 k o_0.1 o_0).bind fun r1 =>
 some (decide (¬ (r1 = true))) := by kernel_rfl
theorem impl_AreSeated_eq (k : Nat) (o_0 : DT30) : impl_AreSeated (k + 1) o_0 =
 (slices_ContainsFunc_impl_Event_61 k o_0.1 o_0).bind fun r1 =>
 some (decide (¬ (r1 = true))) := by kernel_rfl
theorem laws_eqEventS_eq (k : Nat) (a_0 : (List DT80)) (b_1 : (List DT80)) : laws_eqEventS (k + 1) a_0 b_1 =
 if (((List.length a_0 : Nat) : Int) : Int) ≠ ((List.length b_1 : Nat) : Int) then
 some false
 else laws_eqEventS.l0 k k a_0 b_1 0 := by kernel_rfl
theorem laws_eqEventS.l0_eq (k m : Nat) (a_0 : (List DT80)) (b_1 : (List DT80)) (i_5 : Int) : laws_eqEventS.l0 k (m + 1) a_0 b_1 i_5 =
 if (i_5 : Int) < ((List.length a_0 : Nat) : Int) then
 if 0 ≤ i_5 then
 if i_5 < ((List.length a_0 : Nat) : Int) then
 if 0 ≤ i_5 then
 if i_5 < ((List.length b_1 : Nat) : Int) then
 (laws_eqEvent k (rd T80 a_0 i_5) (rd T80 b_1 i_5)).bind fun r1 =>
 if ¬ (r1 = true) then
 some false
 else laws_eqEventS.l0 k m a_0 b_1 (IntKind.wrap .i64 (i_5 + 1)) else none else none else none else none
 else some true := by kernel_rfl
theorem laws_eqMeter_eq (k : Nat) (a_0 : DT23) (b_1 : DT23) : laws_eqMeter (k + 1) a_0 b_1 =
 if (a_0.1 : Int) ≠ b_1.1 then
 some false
 else if (a_0.2.1 : Int) ≠ b_1.2.1 then
 some false
 else some true := by kernel_rfl
theorem laws_eqTempoS_eq (k : Nat) (a_0 : (List DT23)) (b_1 : (List DT23)) : laws_eqTempoS (k + 1) a_0 b_1 =
 if (((List.length a_0 : Nat) : Int) : Int) ≠ ((List.length b_1 : Nat) : Int) then
 some false
 else laws_eqTempoS.l0 k k a_0 b_1 0 := by kernel_rfl
theorem laws_eqTempoS.l0_eq (k m : Nat) (a_0 : (List DT23)) (b_1 : (List DT23)) (i_5 : Int) : laws_eqTempoS.l0 k (m + 1) a_0 b_1 i_5 =
 if (i_5 : Int) < ((List.length a_0 : Nat) : Int) then
 if 0 ≤ i_5 then
 if i_5 < ((List.length a_0 : Nat) : Int) then
 if 0 ≤ i_5 then
 if i_5 < ((List.length b_1 : Nat) : Int) then
 (laws_eqTempo k (rd T23 a_0 i_5) (rd T23 b_1 i_5)).bind fun r1 =>
 if ¬ (r1 = true) then
 some false
 else laws_eqTempoS.l0 k m a_0 b_1 (IntKind.wrap .i64 (i_5 + 1)) else none else none else none else none
 else some true := by kernel_rfl
theorem laws_eqPlayerS_eq (k : Nat) (a_0 : (List DT67)) (b_1 : (List DT67)) : laws_eqPlayerS (k + 1) a_0 b_1 =
 if (((List.length a_0 : Nat) : Int) : Int) ≠ ((List.length b_1 : Nat) : Int) then
 some false
 else laws_eqPlayerS.l0 k k a_0 b_1 0 := by kernel_rfl
theorem laws_eqPlayerS.l0_eq (k m : Nat) (a_0 : (List DT67)) (b_1 : (List DT67)) (i_5 : Int) : laws_eqPlayerS.l0 k (m + 1) a_0 b_1 i_5 =
 if (i_5 : Int) < ((List.length a_0 : Nat) : Int) then
 if 0 ≤ i_5 then
 if i_5 < ((List.length a_0 : Nat) : Int) then
 if 0 ≤ i_5 then
 if i_5 < ((List.length b_1 : Nat) : Int) then
 (laws_eqPlayer k (rd T67 a_0 i_5) (rd T67 b_1 i_5)).bind fun r1 =>
 if ¬ (r1 = true) then
 some false
 else laws_eqPlayerS.l0 k m a_0 b_1 (IntKind.wrap .i64 (i_5 + 1)) else none else none else none else none
 else some true := by kernel_rfl
theorem laws_eqIntS_eq (k : Nat) (a_0 : (List Int)) (b_1 : (List Int)) : laws_eqIntS (k + 1) a_0 b_1 =
 if (((List.length a_0 : Nat) : Int) : Int) ≠ ((List.length b_1 : Nat) : Int) then
 some false
 else laws_eqIntS.l0 k k a_0 b_1 0 := by kernel_rfl
theorem laws_eqIntS.l0_eq (k m : Nat) (a_0 : (List Int)) (b_1 : (List Int)) (i_5 : Int) : laws_eqIntS.l0 k (m + 1) a_0 b_1 i_5 =
 if (i_5 : Int) < ((List.length a_0 : Nat) : Int) then
 if 0 ≤ i_5 then
 if i_5 < ((List.length a_0 : Nat) : Int) then
 if 0 ≤ i_5 then
 if i_5 < ((List.length b_1 : Nat) : Int) then
 if Ne (α := Int) (rd (.int .i64) a_0 i_5) (rd (.int .i64) b_1 i_5) then
 some false
 else laws_eqIntS.l0 k m a_0 b_1 (IntKind.wrap .i64 (i_5 + 1)) else none else none else none else none
 else some true := by kernel_rfl
theorem laws_eqMarkS_eq (k : Nat) (a_0 : (List DT91)) (b_1 : (List DT91)) : laws_eqMarkS (k + 1) a_0 b_1 =
 if (((List.length a_0 : Nat) : Int) : Int) ≠ ((List.length b_1 : Nat) : Int) then
 some false
 else laws_eqMarkS.l0 k k a_0 b_1 0 := by kernel_rfl
theorem laws_eqMarkS.l0_eq (k m : Nat) (a_0 : (List DT91)) (b_1 : (List DT91)) (i_5 : Int) : laws_eqMarkS.l0 k (m + 1) a_0 b_1 i_5 =
 if (i_5 : Int) < ((List.length a_0 : Nat) : Int) then
 if 0 ≤ i_5 then
 if i_5 < ((List.length a_0 : Nat) : Int) then
 if 0 ≤ i_5 then
 if i_5 < ((List.length b_1 : Nat) : Int) then
 (laws_eqMark k (rd T91 a_0 i_5) (rd T91 b_1 i_5)).bind fun r1 =>
 if ¬ (r1 = true) then
 some false
 else laws_eqMarkS.l0 k m a_0 b_1 (IntKind.wrap .i64 (i_5 + 1)) else none else none else none else none
 else some true := by kernel_rfl
theorem laws_eqLetterS_eq (k : Nat) (a_0 : (List DT23)) (b_1 : (List DT23)) : laws_eqLetterS (k + 1) a_0 b_1 =
 if (((List.length a_0 : Nat) : Int) : Int) ≠ ((List.length b_1 : Nat) : Int) then
 some false
 else laws_eqLetterS.l0 k k a_0 b_1 0 := by kernel_rfl
theorem laws_eqLetterS.l0_eq (k m : Nat) (a_0 : (List DT23)) (b_1 : (List DT23)) (i_5 : Int) : laws_eqLetterS.l0 k (m + 1) a_0 b_1 i_5 =
 if (i_5 : Int) < ((List.length a_0 : Nat) : Int) then
 if 0 ≤ i_5 then
 if i_5 < ((List.length a_0 : Nat) : Int) then
 if 0 ≤ i_5 then
 if i_5 < ((List.length b_1 : Nat) : Int) then
 (laws_eqLetter k (rd T23 a_0 i_5) (rd T23 b_1 i_5)).bind fun r1 =>
 if ¬ (r1 = true) then
 some false
 else laws_eqLetterS.l0 k m a_0 b_1 (IntKind.wrap .i64 (i_5 + 1)) else none else none else none else none
 else some true := by kernel_rfl
theorem laws_szPlayer_eq (k : Nat) (a_0 : DT67) (left_1 : Int) : laws_szPlayer (k + 1) a_0 left_1 =
 (laws_szIntS k a_0.2.2.2.1 left_1).bind fun r1 =>
 if (r1 : Int) < 0 then
 some (-1)
 else some r1 := by kernel_rfl
theorem laws_toEvent_eq (k : Nat) (a_0 : DT80) : laws_toEvent (k + 1) a_0 =
 some a_0 := by kernel_rfl
theorem laws_toTempo_eq (k : Nat) (a_0 : DT23) : laws_toTempo (k + 1) a_0 =
 some a_0 := by kernel_rfl
theorem laws_toPlayer_eq (k : Nat) (a_0 : DT67) : laws_toPlayer (k + 1) a_0 =
 (laws_toIntS k a_0.2.2.2.1).bind fun r1 =>
 some (a_0.1, (a_0.2.1, (a_0.2.2.1, (r1, ())))) := by kernel_rfl
theorem laws_toMark_eq (k : Nat) (a_0 : DT91) : laws_toMark (k + 1) a_0 =
 some a_0 := by kernel_rfl
theorem laws_toLetter_eq (k : Nat) (a_0 : DT23) : laws_toLetter (k + 1) a_0 =
 some a_0 := by kernel_rfl
theorem spec_IsScore_eq (k : Nat) (l_0 : (List DT80)) : spec_IsScore (k + 1) l_0 =
 spec_IsScore.l0 k k l_0 0 := by kernel_rfl
theorem spec_IsScore.l0_eq (k m : Nat) (l_0 : (List DT80)) (i_3 : Int) : spec_IsScore.l0 k (m + 1) l_0 i_3 =
 if (i_3 : Int) < ((List.length l_0 : Nat) : Int) then
 if 0 ≤ i_3 then
 if i_3 < ((List.length l_0 : Nat) : Int) then
 (spec_l8Ok k (rd T80 l_0 i_3)).bind fun r1 =>
 if ¬ (r1 = true) then
 some false
 else if (0 : Int) < i_3 then
 if 0 ≤ (IntKind.wrap .i64 (i_3 - 1)) then
 if (IntKind.wrap .i64 (i_3 - 1)) < ((List.length l_0 : Nat) : Int) then
 if 0 ≤ i_3 then
 if i_3 < ((List.length l_0 : Nat) : Int) then
 (spec_l8Before k (rd T80 l_0 (IntKind.wrap .i64 (i_3 - 1))) (rd T80 l_0 i_3)).bind fun r2 =>
 if ¬ (r2 = true) then
 some false
 else spec_IsScore.l0 k m l_0 (IntKind.wrap .i64 (i_3 + 1)) else none else none else none else none
 else spec_IsScore.l0 k m l_0 (IntKind.wrap .i64 (i_3 + 1)) else none else none
 else some (decide ((((List.length l_0 : Nat) : Int) : Int) ≤ 40)) := by kernel_rfl
theorem spec_IsMeter_eq (k : Nat) (m_0 : DT23) : spec_IsMeter (k + 1) m_0 =
 (spec_l1In k m_0.1 1 12).bind fun r1 =>
 if r1 = true then
 if (m_0.2.1 : Int) = 1 then
 some true
 else if (m_0.2.1 : Int) = 2 then
 some true
 else if (m_0.2.1 : Int) = 4 then
 some true
 else some (decide ((m_0.2.1 : Int) = 8))
 else some false := by kernel_rfl
theorem spec_IsTempo_eq (k : Nat) (l_0 : (List DT23)) : spec_IsTempo (k + 1) l_0 =
 spec_IsTempo.l0 k k l_0 0 := by kernel_rfl
theorem spec_IsTempo.l0_eq (k m : Nat) (l_0 : (List DT23)) (i_3 : Int) : spec_IsTempo.l0 k (m + 1) l_0 i_3 =
 if (i_3 : Int) < ((List.length l_0 : Nat) : Int) then
 if 0 ≤ i_3 then
 if i_3 < ((List.length l_0 : Nat) : Int) then
 (spec_l1In k (rd T23 l_0 i_3).2.1 20 300).bind fun r1 =>
 if ¬ (r1 = true) then
 some false
 else if 0 ≤ i_3 then
 if i_3 < ((List.length l_0 : Nat) : Int) then
 (spec_l1In k (rd T23 l_0 i_3).1 0 2000).bind fun r2 =>
 if ¬ (r2 = true) then
 some false
 else if (i_3 : Int) = 0 then
 if 0 ≤ i_3 then
 if i_3 < ((List.length l_0 : Nat) : Int) then
 if Ne (α := Int) (rd T23 l_0 i_3).1 0 then
 some false
 else if (0 : Int) < i_3 then
 if 0 ≤ (IntKind.wrap .i64 (i_3 - 1)) then
 if (IntKind.wrap .i64 (i_3 - 1)) < ((List.length l_0 : Nat) : Int) then
 if 0 ≤ i_3 then
 if i_3 < ((List.length l_0 : Nat) : Int) then
 if LE.le (α := Int) (rd T23 l_0 i_3).1 (rd T23 l_0 (IntKind.wrap .i64 (i_3 - 1))).1 then
 some false
 else spec_IsTempo.l0 k m l_0 (IntKind.wrap .i64 (i_3 + 1)) else none else none else none else none
 else spec_IsTempo.l0 k m l_0 (IntKind.wrap .i64 (i_3 + 1)) else none else none
 else if (0 : Int) < i_3 then
 if 0 ≤ (IntKind.wrap .i64 (i_3 - 1)) then
 if (IntKind.wrap .i64 (i_3 - 1)) < ((List.length l_0 : Nat) : Int) then
 if 0 ≤ i_3 then
 if i_3 < ((List.length l_0 : Nat) : Int) then
 if LE.le (α := Int) (rd T23 l_0 i_3).1 (rd T23 l_0 (IntKind.wrap .i64 (i_3 - 1))).1 then
 some false
 else spec_IsTempo.l0 k m l_0 (IntKind.wrap .i64 (i_3 + 1)) else none else none else none else none
 else spec_IsTempo.l0 k m l_0 (IntKind.wrap .i64 (i_3 + 1)) else none else none else none else none
 else (spec_l1In k ((List.length l_0 : Nat) : Int) 1 8).bind fun r3 =>
 some (decide (r3 = true)) := by kernel_rfl
theorem spec_AreMarks_eq (k : Nat) (l_0 : (List DT91)) : spec_AreMarks (k + 1) l_0 =
 spec_AreMarks.l0 k k l_0 0 := by kernel_rfl
theorem spec_AreMarks.l0_eq (k m : Nat) (l_0 : (List DT91)) (i_3 : Int) : spec_AreMarks.l0 k (m + 1) l_0 i_3 =
 if (i_3 : Int) < ((List.length l_0 : Nat) : Int) then
 if 0 ≤ i_3 then
 if i_3 < ((List.length l_0 : Nat) : Int) then
 (spec_l1In k (rd T91 l_0 i_3).1 1 100).bind fun r1 =>
 if ¬ (r1 = true) then
 some false
 else (spec_l1In k (rd T91 l_0 i_3).2.1 1 4).bind fun r2 =>
 if ¬ (r2 = true) then
 some false
 else (spec_l1In k (rd T91 l_0 i_3).2.2.1 0 9).bind fun r3 =>
 if ¬ (r3 = true) then
 some false
 else (spec_l1In k (rd T91 l_0 i_3).2.2.2.1 0 100000).bind fun r4 =>
 if ¬ (r4 = true) then
 some false
 else (spec_l1In k (rd T91 l_0 i_3).2.2.2.2.1 1 99).bind fun r5 =>
 if ¬ (r5 = true) then
 some false
 else if (0 : Int) < i_3 then
 if 0 ≤ (IntKind.wrap .i64 (i_3 - 1)) then
 if (IntKind.wrap .i64 (i_3 - 1)) < ((List.length l_0 : Nat) : Int) then
 (spec_l25Before k (rd T91 l_0 (IntKind.wrap .i64 (i_3 - 1))) (rd T91 l_0 i_3)).bind fun r6 =>
 if ¬ (r6 = true) then
 some false
 else spec_AreMarks.l0 k m l_0 (IntKind.wrap .i64 (i_3 + 1)) else none else none
 else spec_AreMarks.l0 k m l_0 (IntKind.wrap .i64 (i_3 + 1)) else none else none
 else some (decide ((((List.length l_0 : Nat) : Int) : Int) ≤ 30)) := by kernel_rfl
theorem spec_AreLetters_eq (k : Nat) (l_0 : (List DT23)) : spec_AreLetters (k + 1) l_0 =
 spec_AreLetters.l0 k k l_0 0 := by kernel_rfl
theorem spec_AreLetters.l0_eq (k m : Nat) (l_0 : (List DT23)) (i_3 : Int) : spec_AreLetters.l0 k (m + 1) l_0 i_3 =
 if (i_3 : Int) < ((List.length l_0 : Nat) : Int) then
 if 0 ≤ i_3 then
 if i_3 < ((List.length l_0 : Nat) : Int) then
 if Ne (α := Int) (rd T23 l_0 i_3).1 i_3 then
 some false
 else if 0 ≤ i_3 then
 if i_3 < ((List.length l_0 : Nat) : Int) then
 (spec_l1In k (rd T23 l_0 i_3).2.1 1 500).bind fun r1 =>
 if ¬ (r1 = true) then
 some false
 else if (0 : Int) < i_3 then
 if 0 ≤ (IntKind.wrap .i64 (i_3 - 1)) then
 if (IntKind.wrap .i64 (i_3 - 1)) < ((List.length l_0 : Nat) : Int) then
 if 0 ≤ i_3 then
 if i_3 < ((List.length l_0 : Nat) : Int) then
 if LE.le (α := Int) (rd T23 l_0 i_3).2.1 (rd T23 l_0 (IntKind.wrap .i64 (i_3 - 1))).2.1 then
 some false
 else spec_AreLetters.l0 k m l_0 (IntKind.wrap .i64 (i_3 + 1)) else none else none else none else none
 else spec_AreLetters.l0 k m l_0 (IntKind.wrap .i64 (i_3 + 1)) else none else none else none else none
 else some (decide ((((List.length l_0 : Nat) : Int) : Int) ≤ 26)) := by kernel_rfl
theorem spec_IsSeating_eq (k : Nat) (l_0 : (List DT67)) (score_1 : (List DT80)) (seats_2 : (List Int)) : spec_IsSeating (k + 1) l_0 score_1 seats_2 =
 spec_IsSeating.l0 k k l_0 score_1 seats_2 0 := by kernel_rfl
theorem spec_IsSeating.l0_eq (k m : Nat) (l_0 : (List DT67)) (score_1 : (List DT80)) (seats_2 : (List Int)) (i_7 : Int) : spec_IsSeating.l0 k (m + 1) l_0 score_1 seats_2 i_7 =
 if (i_7 : Int) < ((List.length seats_2 : Nat) : Int) then
 spec_IsSeating.l1 k k m l_0 score_1 seats_2 i_7 false 0
 else (spec_ArePlayers k l_0).bind fun r1 =>
 if r1 = true then
 (spec_IsScore k score_1).bind fun r2 =>
 if r2 = true then
 some (decide ((((List.length seats_2 : Nat) : Int) : Int) ≤ 4))
 else some false
 else some false := by kernel_rfl
theorem spec_IsSeating.l1_eq (k m m1 : Nat) (l_0 : (List DT67)) (score_1 : (List DT80)) (seats_2 : (List Int)) (i_7 : Int) (good_8 : Bool) (k_9 : Int) : spec_IsSeating.l1 k (m + 1) m1 l_0 score_1 seats_2 i_7 good_8 k_9 =
 if (k_9 : Int) < ((List.length l_0 : Nat) : Int) then
 if good_8 = true then
 spec_IsSeating.l1 k m m1 l_0 score_1 seats_2 i_7 true (IntKind.wrap .i64 (k_9 + 1))
 else if 0 ≤ k_9 then
 if k_9 < ((List.length l_0 : Nat) : Int) then
 if 0 ≤ i_7 then
 if i_7 < ((List.length seats_2 : Nat) : Int) then
 if Eq (α := Int) (rd T67 l_0 k_9).1 (rd (.int .i64) seats_2 i_7) then
 if 0 ≤ k_9 then
 if k_9 < ((List.length l_0 : Nat) : Int) then
 (spec_CanPlay k (rd T67 l_0 k_9) score_1 (IntKind.wrap .i64 (i_7 + 1))).bind fun r3 =>
 spec_IsSeating.l1 k m m1 l_0 score_1 seats_2 i_7 (decide (r3 = true)) (IntKind.wrap .i64 (k_9 + 1)) else none else none
 else spec_IsSeating.l1 k m m1 l_0 score_1 seats_2 i_7 false (IntKind.wrap .i64 (k_9 + 1)) else none else none else none else none
 else if ¬ (good_8 = true) then
 some false
 else if 0 ≤ i_7 then
 if i_7 ≤ ((List.length seats_2 : Nat) : Int) then
 if 0 ≤ i_7 then
 if i_7 < ((List.length seats_2 : Nat) : Int) then
 (spec_l27Has k (List.take ((Int.toNat i_7) - (Int.toNat 0)) (List.drop (Int.toNat 0) seats_2)) (rd (.int .i64) seats_2 i_7)).bind fun r4 =>
 if r4 = true then
 some false
 else spec_IsSeating.l0 k m1 l_0 score_1 seats_2 (IntKind.wrap .i64 (i_7 + 1)) else none else none else none else none := by kernel_rfl
theorem spec_l1In_eq (k : Nat) (x_0 : Int) (least_1 : Int) (most_2 : Int) : spec_l1In (k + 1) x_0 least_1 most_2 =
 if (least_1 : Int) ≤ x_0 then
 some (decide ((x_0 : Int) ≤ most_2))
 else some false := by kernel_rfl
theorem spec_TimeOf_eq (k : Nat) (l_0 : (List DT23)) (tick_1 : Int) : spec_TimeOf (k + 1) l_0 tick_1 =
 (spec_IsTempo k l_0).bind fun r1 =>
 if ¬ (r1 = true) then
 some ((0, (0, ())), (false, ()))
 else (spec_l1In k tick_1 0 2000).bind fun r2 =>
 if ¬ (r2 = true) then
 some ((0, (0, ())), (false, ()))
 else spec_TimeOf.l0 k k l_0 tick_1 0 0 0 0 1 := by kernel_rfl
theorem spec_TimeOf.l0_eq (k m : Nat) (l_0 : (List DT23)) (tick_1 : Int) (i_7 : Int) (b0_0 : Int) (b0_1 : Int) (b1_0 : Int) (b1_1 : Int) : spec_TimeOf.l0 k (m + 1) l_0 tick_1 i_7 b0_0 b0_1 b1_0 b1_1 =
 if (i_7 : Int) < ((List.length l_0 : Nat) : Int) then
 if 0 ≤ i_7 then
 if i_7 < ((List.length l_0 : Nat) : Int) then
 if LT.lt (α := Int) (rd T23 l_0 i_7).1 tick_1 then
 if ((IntKind.wrap .i64 (i_7 + 1)) : Int) < ((List.length l_0 : Nat) : Int) then
 if 0 ≤ (IntKind.wrap .i64 (i_7 + 1)) then
 if (IntKind.wrap .i64 (i_7 + 1)) < ((List.length l_0 : Nat) : Int) then
 (spec_Min k tick_1 (rd T23 l_0 (IntKind.wrap .i64 (i_7 + 1))).1).bind fun r3 =>
 if 0 ≤ i_7 then
 if i_7 < ((List.length l_0 : Nat) : Int) then
 if 0 ≤ i_7 then
 if i_7 < ((List.length l_0 : Nat) : Int) then
 (spec_MakeRatio k (IntKind.wrap .i64 ((IntKind.wrap .i64 (r3 - (rd T23 l_0 i_7).1)) * 5000)) (rd T23 l_0 i_7).2.1).bind fun r4 =>
 (spec_AddRatio k (b1_0, (b1_1, ())) r4.1).bind fun r5 =>
 if ¬ (r5.2.1 = true) then
 some ((0, (0, ())), (false, ()))
 else spec_TimeOf.l0 k m l_0 tick_1 (IntKind.wrap .i64 (i_7 + 1)) b0_0 b0_1 r5.1.1 r5.1.2.1 else none else none else none else none else none else none
 else if 0 ≤ i_7 then
 if i_7 < ((List.length l_0 : Nat) : Int) then
 if 0 ≤ i_7 then
 if i_7 < ((List.length l_0 : Nat) : Int) then
 (spec_MakeRatio k (IntKind.wrap .i64 ((IntKind.wrap .i64 (tick_1 - (rd T23 l_0 i_7).1)) * 5000)) (rd T23 l_0 i_7).2.1).bind fun r6 =>
 (spec_AddRatio k (b1_0, (b1_1, ())) r6.1).bind fun r7 =>
 if ¬ (r7.2.1 = true) then
 some ((0, (0, ())), (false, ()))
 else spec_TimeOf.l0 k m l_0 tick_1 (IntKind.wrap .i64 (i_7 + 1)) b0_0 b0_1 r7.1.1 r7.1.2.1 else none else none else none else none
 else some ((b1_0, (b1_1, ())), (true, ())) else none else none
 else some ((b1_0, (b1_1, ())), (true, ())) := by kernel_rfl
theorem spec_TickAt_eq (k : Nat) (l_0 : (List DT23)) (ms_1 : DT23) : spec_TickAt (k + 1) l_0 ms_1 =
 (spec_IsTempo k l_0).bind fun r1 =>
 if ¬ (r1 = true) then
 some ((0, (0, ())), (false, ()))
 else (spec_IsRatio k ms_1).bind fun r2 =>
 if ¬ (r2 = true) then
 some ((0, (0, ())), (false, ()))
 else if (ms_1.1 : Int) < 0 then
 some ((0, (0, ())), (false, ()))
 else spec_TickAt.l0 k k l_0 0 1 ms_1.1 ms_1.2.1 0 0 0 1 := by kernel_rfl
theorem spec_TickAt.l0_eq (k m : Nat) (l_0 : (List DT23)) (k_6 : Int) (i_8 : Int) (b0_0 : Int) (b0_1 : Int) (b1_0 : Int) (b1_1 : Int) (b2_0 : Int) (b2_1 : Int) : spec_TickAt.l0 k (m + 1) l_0 k_6 i_8 b0_0 b0_1 b1_0 b1_1 b2_0 b2_1 =
 if (i_8 : Int) < ((List.length l_0 : Nat) : Int) then
 if 0 ≤ i_8 then
 if i_8 < ((List.length l_0 : Nat) : Int) then
 (spec_TimeOf k l_0 (rd T23 l_0 i_8).1).bind fun r3 =>
 if ¬ (r3.2.1 = true) then
 some ((0, (0, ())), (false, ()))
 else (spec_LessRatio k (b0_0, (b0_1, ())) r3.1).bind fun r4 =>
 if r4 = true then
 (spec_AddRatio k (b0_0, (b0_1, ())) (IntKind.wrap .i64 (-b2_0), (b2_1, ()))).bind fun r5 =>
 if 0 ≤ k_6 then
 if k_6 < ((List.length l_0 : Nat) : Int) then
 (spec_MakeRatio k (rd T23 l_0 k_6).2.1 5000).bind fun r6 =>
 (spec_MulRatio k r5.1 r6.1).bind fun r7 =>
 if 0 ≤ k_6 then
 if k_6 < ((List.length l_0 : Nat) : Int) then
 (spec_AddRatio k r7.1 ((rd T23 l_0 k_6).1, (1, ()))).bind fun r8 =>
 if ¬ (r5.2.1 = true) then
 some ((0, (0, ())), (false, ()))
 else if ¬ (r7.2.1 = true) then
 some ((0, (0, ())), (false, ()))
 else if ¬ (r8.2.1 = true) then
 some ((0, (0, ())), (false, ()))
 else some (r8.1, (true, ())) else none else none else none else none
 else spec_TickAt.l0 k m l_0 i_8 (IntKind.wrap .i64 (i_8 + 1)) b0_0 b0_1 b1_0 b1_1 r3.1.1 r3.1.2.1 else none else none
 else (spec_AddRatio k (b0_0, (b0_1, ())) (IntKind.wrap .i64 (-b2_0), (b2_1, ()))).bind fun r9 =>
 if 0 ≤ k_6 then
 if k_6 < ((List.length l_0 : Nat) : Int) then
 (spec_MakeRatio k (rd T23 l_0 k_6).2.1 5000).bind fun r10 =>
 (spec_MulRatio k r9.1 r10.1).bind fun r11 =>
 if 0 ≤ k_6 then
 if k_6 < ((List.length l_0 : Nat) : Int) then
 (spec_AddRatio k r11.1 ((rd T23 l_0 k_6).1, (1, ()))).bind fun r12 =>
 if ¬ (r9.2.1 = true) then
 some ((0, (0, ())), (false, ()))
 else if ¬ (r11.2.1 = true) then
 some ((0, (0, ())), (false, ()))
 else if ¬ (r12.2.1 = true) then
 some ((0, (0, ())), (false, ()))
 else some (r12.1, (true, ())) else none else none else none else none := by kernel_rfl
theorem impl_IsScore_eq (k : Nat) (l_0 : (List DT80)) : impl_IsScore (k + 1) l_0 =
 impl_IsScore.l0 k k l_0 l_0 ((List.length l_0 : Nat) : Int) 0 := by kernel_rfl
theorem impl_IsScore.l0_eq (k m : Nat) (l_0 : (List DT80)) (t_5 : (List DT80)) (t_6 : Int) (t_7 : Int) : impl_IsScore.l0 k (m + 1) l_0 t_5 t_6 t_7 =
 if (t_7 : Int) < t_6 then
 if 0 ≤ t_7 then
 if t_7 < ((List.length t_5 : Nat) : Int) then
 (impl_InRange k (rd T80 t_5 t_7).1 0 2000).bind fun r1 =>
 if ¬ (r1 = true) then
 some false
 else (impl_InRange k (rd T80 t_5 t_7).2.1 1 96).bind fun r2 =>
 if ¬ (r2 = true) then
 some false
 else (impl_InRange k (rd T80 t_5 t_7).2.2.1 21 108).bind fun r3 =>
 if ¬ (r3 = true) then
 some false
 else (impl_InRange k (rd T80 t_5 t_7).2.2.2.1 1 4).bind fun r4 =>
 if ¬ (r4 = true) then
 some false
 else if (0 : Int) < t_7 then
 if 0 ≤ (IntKind.wrap .i64 (t_7 - 1)) then
 if (IntKind.wrap .i64 (t_7 - 1)) < ((List.length l_0 : Nat) : Int) then
 (impl_eventOrder k (rd T80 l_0 (IntKind.wrap .i64 (t_7 - 1))) (rd T80 t_5 t_7)).bind fun r5 =>
 if (0 : Int) ≤ r5 then
 some false
 else impl_IsScore.l0 k m l_0 t_5 t_6 (IntKind.wrap .i64 (t_7 + 1)) else none else none
 else impl_IsScore.l0 k m l_0 t_5 t_6 (IntKind.wrap .i64 (t_7 + 1)) else none else none
 else some (decide ((((List.length l_0 : Nat) : Int) : Int) ≤ 40)) := by kernel_rfl
theorem impl_IsMeter_eq (k : Nat) (m_0 : DT23) : impl_IsMeter (k + 1) m_0 =
 (impl_InRange k m_0.1 1 12).bind fun r1 =>
 if r1 = true then
 if (m_0.2.1 : Int) = 1 then
 some true
 else if (m_0.2.1 : Int) = 2 then
 some true
 else if (m_0.2.1 : Int) = 4 then
 some true
 else some (decide ((m_0.2.1 : Int) = 8))
 else some false := by kernel_rfl
theorem impl_IsTempo_eq (k : Nat) (l_0 : (List DT23)) : impl_IsTempo (k + 1) l_0 =
 impl_IsTempo.l0 k k l_0 l_0 ((List.length l_0 : Nat) : Int) 0 := by kernel_rfl
theorem impl_IsTempo.l0_eq (k m : Nat) (l_0 : (List DT23)) (t_5 : (List DT23)) (t_6 : Int) (t_7 : Int) : impl_IsTempo.l0 k (m + 1) l_0 t_5 t_6 t_7 =
 if (t_7 : Int) < t_6 then
 if 0 ≤ t_7 then
 if t_7 < ((List.length t_5 : Nat) : Int) then
 if (t_7 : Int) = 0 then
 if Ne (α := Int) (rd T23 t_5 t_7).1 0 then
 some false
 else if (0 : Int) < t_7 then
 if 0 ≤ (IntKind.wrap .i64 (t_7 - 1)) then
 if (IntKind.wrap .i64 (t_7 - 1)) < ((List.length l_0 : Nat) : Int) then
 if LE.le (α := Int) (rd T23 t_5 t_7).1 (rd T23 l_0 (IntKind.wrap .i64 (t_7 - 1))).1 then
 some false
 else if LT.lt (α := Int) 2000 (rd T23 t_5 t_7).1 then
 some false
 else (impl_InRange k (rd T23 t_5 t_7).2.1 20 300).bind fun r1 =>
 if ¬ (r1 = true) then
 some false
 else impl_IsTempo.l0 k m l_0 t_5 t_6 (IntKind.wrap .i64 (t_7 + 1)) else none else none
 else if LT.lt (α := Int) 2000 (rd T23 t_5 t_7).1 then
 some false
 else (impl_InRange k (rd T23 t_5 t_7).2.1 20 300).bind fun r2 =>
 if ¬ (r2 = true) then
 some false
 else impl_IsTempo.l0 k m l_0 t_5 t_6 (IntKind.wrap .i64 (t_7 + 1))
 else if (0 : Int) < t_7 then
 if 0 ≤ (IntKind.wrap .i64 (t_7 - 1)) then
 if (IntKind.wrap .i64 (t_7 - 1)) < ((List.length l_0 : Nat) : Int) then
 if LE.le (α := Int) (rd T23 t_5 t_7).1 (rd T23 l_0 (IntKind.wrap .i64 (t_7 - 1))).1 then
 some false
 else if LT.lt (α := Int) 2000 (rd T23 t_5 t_7).1 then
 some false
 else (impl_InRange k (rd T23 t_5 t_7).2.1 20 300).bind fun r3 =>
 if ¬ (r3 = true) then
 some false
 else impl_IsTempo.l0 k m l_0 t_5 t_6 (IntKind.wrap .i64 (t_7 + 1)) else none else none
 else if LT.lt (α := Int) 2000 (rd T23 t_5 t_7).1 then
 some false
 else (impl_InRange k (rd T23 t_5 t_7).2.1 20 300).bind fun r4 =>
 if ¬ (r4 = true) then
 some false
 else impl_IsTempo.l0 k m l_0 t_5 t_6 (IntKind.wrap .i64 (t_7 + 1)) else none else none
 else (impl_InRange k ((List.length l_0 : Nat) : Int) 1 8).bind fun r5 =>
 some (decide (r5 = true)) := by kernel_rfl
theorem impl_AreMarks_eq (k : Nat) (l_0 : (List DT91)) : impl_AreMarks (k + 1) l_0 =
 impl_AreMarks.l0 k k l_0 l_0 ((List.length l_0 : Nat) : Int) 0 := by kernel_rfl
theorem impl_AreMarks.l0_eq (k m : Nat) (l_0 : (List DT91)) (t_5 : (List DT91)) (t_6 : Int) (t_7 : Int) : impl_AreMarks.l0 k (m + 1) l_0 t_5 t_6 t_7 =
 if (t_7 : Int) < t_6 then
 if 0 ≤ t_7 then
 if t_7 < ((List.length t_5 : Nat) : Int) then
 (impl_InRange k (rd T91 t_5 t_7).1 1 100).bind fun r1 =>
 if ¬ (r1 = true) then
 some false
 else (impl_InRange k (rd T91 t_5 t_7).2.1 1 4).bind fun r2 =>
 if ¬ (r2 = true) then
 some false
 else (impl_InRange k (rd T91 t_5 t_7).2.2.1 0 9).bind fun r3 =>
 if ¬ (r3 = true) then
 some false
 else (impl_InRange k (rd T91 t_5 t_7).2.2.2.1 0 100000).bind fun r4 =>
 if ¬ (r4 = true) then
 some false
 else (impl_InRange k (rd T91 t_5 t_7).2.2.2.2.1 1 99).bind fun r5 =>
 if ¬ (r5 = true) then
 some false
 else if (0 : Int) < t_7 then
 if 0 ≤ (IntKind.wrap .i64 (t_7 - 1)) then
 if (IntKind.wrap .i64 (t_7 - 1)) < ((List.length l_0 : Nat) : Int) then
 (impl_markOrder k (rd T91 l_0 (IntKind.wrap .i64 (t_7 - 1))) (rd T91 t_5 t_7)).bind fun r6 =>
 if (0 : Int) ≤ r6 then
 some false
 else impl_AreMarks.l0 k m l_0 t_5 t_6 (IntKind.wrap .i64 (t_7 + 1)) else none else none
 else impl_AreMarks.l0 k m l_0 t_5 t_6 (IntKind.wrap .i64 (t_7 + 1)) else none else none
 else some (decide ((((List.length l_0 : Nat) : Int) : Int) ≤ 30)) := by kernel_rfl
theorem impl_AreLetters_eq (k : Nat) (l_0 : (List DT23)) : impl_AreLetters (k + 1) l_0 =
 impl_AreLetters.l0 k k l_0 l_0 ((List.length l_0 : Nat) : Int) 0 := by kernel_rfl
theorem impl_AreLetters.l0_eq (k m : Nat) (l_0 : (List DT23)) (t_5 : (List DT23)) (t_6 : Int) (t_7 : Int) : impl_AreLetters.l0 k (m + 1) l_0 t_5 t_6 t_7 =
 if (t_7 : Int) < t_6 then
 if 0 ≤ t_7 then
 if t_7 < ((List.length t_5 : Nat) : Int) then
 if Ne (α := Int) (rd T23 t_5 t_7).1 t_7 then
 some false
 else (impl_InRange k (rd T23 t_5 t_7).2.1 1 500).bind fun r1 =>
 if ¬ (r1 = true) then
 some false
 else if (0 : Int) < t_7 then
 if 0 ≤ (IntKind.wrap .i64 (t_7 - 1)) then
 if (IntKind.wrap .i64 (t_7 - 1)) < ((List.length l_0 : Nat) : Int) then
 if LE.le (α := Int) (rd T23 t_5 t_7).2.1 (rd T23 l_0 (IntKind.wrap .i64 (t_7 - 1))).2.1 then
 some false
 else impl_AreLetters.l0 k m l_0 t_5 t_6 (IntKind.wrap .i64 (t_7 + 1)) else none else none
 else impl_AreLetters.l0 k m l_0 t_5 t_6 (IntKind.wrap .i64 (t_7 + 1)) else none else none
 else some (decide ((((List.length l_0 : Nat) : Int) : Int) ≤ 26)) := by kernel_rfl
theorem impl_IsSeating_eq (k : Nat) (l_0 : (List DT67)) (score_1 : (List DT80)) (seats_2 : (List Int)) : impl_IsSeating (k + 1) l_0 score_1 seats_2 =
 (impl_ArePlayers k l_0).bind fun r1 =>
 if ¬ (r1 = true) then
 some false
 else (impl_IsScore k score_1).bind fun r2 =>
 if ¬ (r2 = true) then
 some false
 else if (4 : Int) < ((List.length seats_2 : Nat) : Int) then
 some false
 else impl_IsSeating.l0 k k l_0 seats_2 seats_2 ((List.length seats_2 : Nat) : Int) 0 score_1 := by kernel_rfl
theorem impl_IsSeating.l0_eq (k m : Nat) (l_0 : (List DT67)) (seats_2 : (List Int)) (t_22 : (List Int)) (t_23 : Int) (t_24 : Int) (b0_0 : (List DT80)) : impl_IsSeating.l0 k (m + 1) l_0 seats_2 t_22 t_23 t_24 b0_0 =
 if (t_24 : Int) < t_23 then
 if 0 ≤ t_24 then
 if t_24 < ((List.length t_22 : Nat) : Int) then
 if 0 ≤ t_24 then
 if t_24 ≤ ((List.length seats_2 : Nat) : Int) then
 (slices_Contains___int_int k (List.take ((Int.toNat t_24) - (Int.toNat 0)) (List.drop (Int.toNat 0) seats_2)) (rd (.int .i64) t_22 t_24)).bind fun r3 =>
 if r3 = true then
 some false
 else (slices_ContainsFunc_impl_Player_84 k l_0 (rd (.int .i64) t_22 t_24) b0_0 t_24).bind fun r4 =>
 if ¬ (r4 = true) then
 some false
 else impl_IsSeating.l0 k m l_0 seats_2 t_22 t_23 (IntKind.wrap .i64 (t_24 + 1)) b0_0 else none else none else none else none
 else some true := by kernel_rfl
theorem impl_InRange_eq (k : Nat) (n_0 : Int) (low_1 : Int) (high_2 : Int) : impl_InRange (k + 1) n_0 low_1 high_2 =
 if (low_1 : Int) ≤ n_0 then
 some (decide ((n_0 : Int) ≤ high_2))
 else some false := by kernel_rfl
theorem slices_ContainsFunc_impl_Event_58_eq (k : Nat) (s_0 : (List DT80)) (c1_0 : DT30) : slices_ContainsFunc_impl_Event_58 (k + 1) s_0 c1_0 =
 (slices_IndexFunc_impl_Event_58 k s_0 c1_0).bind fun r1 =>
 some (decide ((0 : Int) ≤ r1)) := by kernel_rfl
theorem slices_ContainsFunc_impl_Event_61_eq (k : Nat) (s_0 : (List DT80)) (c1_0 : DT30) : slices_ContainsFunc_impl_Event_61 (k + 1) s_0 c1_0 =
 (slices_IndexFunc_impl_Event_61 k s_0 c1_0).bind fun r1 =>
 some (decide ((0 : Int) ≤ r1)) := by kernel_rfl
theorem laws_eqEvent_eq (k : Nat) (a_0 : DT80) (b_1 : DT80) : laws_eqEvent (k + 1) a_0 b_1 =
 if (a_0.1 : Int) ≠ b_1.1 then
 some false
 else if (a_0.2.1 : Int) ≠ b_1.2.1 then
 some false
 else if (a_0.2.2.1 : Int) ≠ b_1.2.2.1 then
 some false
 else if (a_0.2.2.2.1 : Int) ≠ b_1.2.2.2.1 then
 some false
 else some true := by kernel_rfl
theorem laws_eqTempo_eq (k : Nat) (a_0 : DT23) (b_1 : DT23) : laws_eqTempo (k + 1) a_0 b_1 =
 if (a_0.1 : Int) ≠ b_1.1 then
 some false
 else if (a_0.2.1 : Int) ≠ b_1.2.1 then
 some false
 else some true := by kernel_rfl
theorem laws_eqPlayer_eq (k : Nat) (a_0 : DT67) (b_1 : DT67) : laws_eqPlayer (k + 1) a_0 b_1 =
 if (a_0.1 : Int) ≠ b_1.1 then
 some false
 else if (a_0.2.1 : Int) ≠ b_1.2.1 then
 some false
 else if (a_0.2.2.1 : Int) ≠ b_1.2.2.1 then
 some false
 else (laws_eqIntS k a_0.2.2.2.1 b_1.2.2.2.1).bind fun r1 =>
 if ¬ (r1 = true) then
 some false
 else some true := by kernel_rfl
theorem laws_eqMark_eq (k : Nat) (a_0 : DT91) (b_1 : DT91) : laws_eqMark (k + 1) a_0 b_1 =
 if (a_0.1 : Int) ≠ b_1.1 then
 some false
 else if (a_0.2.1 : Int) ≠ b_1.2.1 then
 some false
 else if (a_0.2.2.1 : Int) ≠ b_1.2.2.1 then
 some false
 else if (a_0.2.2.2.1 : Int) ≠ b_1.2.2.2.1 then
 some false
 else if (a_0.2.2.2.2.1 : Int) ≠ b_1.2.2.2.2.1 then
 some false
 else some true := by kernel_rfl
theorem laws_eqLetter_eq (k : Nat) (a_0 : DT23) (b_1 : DT23) : laws_eqLetter (k + 1) a_0 b_1 =
 if (a_0.1 : Int) ≠ b_1.1 then
 some false
 else if (a_0.2.1 : Int) ≠ b_1.2.1 then
 some false
 else some true := by kernel_rfl
theorem spec_l8Ok_eq (k : Nat) (e_0 : DT80) : spec_l8Ok (k + 1) e_0 =
 (spec_l1In k e_0.1 0 2000).bind fun r1 =>
 if r1 = true then
 (spec_l1In k e_0.2.1 1 96).bind fun r2 =>
 if r2 = true then
 (spec_l1In k e_0.2.2.1 21 108).bind fun r3 =>
 if r3 = true then
 (spec_l1In k e_0.2.2.2.1 1 4).bind fun r4 =>
 some (decide (r4 = true))
 else some false
 else some false
 else some false := by kernel_rfl
theorem spec_l8Before_eq (k : Nat) (a_0 : DT80) (b_1 : DT80) : spec_l8Before (k + 1) a_0 b_1 =
 if (a_0.1 : Int) ≠ b_1.1 then
 some (decide ((a_0.1 : Int) < b_1.1))
 else if (a_0.2.2.2.1 : Int) ≠ b_1.2.2.2.1 then
 some (decide ((a_0.2.2.2.1 : Int) < b_1.2.2.2.1))
 else some (decide ((a_0.2.2.1 : Int) < b_1.2.2.1)) := by kernel_rfl
theorem spec_l25Before_eq (k : Nat) (a_0 : DT91) (b_1 : DT91) : spec_l25Before (k + 1) a_0 b_1 =
 if (a_0.1 : Int) < b_1.1 then
 some true
 else if (a_0.1 : Int) = b_1.1 then
 some (decide ((a_0.2.1 : Int) < b_1.2.1))
 else some false := by kernel_rfl
theorem spec_ArePlayers_eq (k : Nat) (l_0 : (List DT67)) : spec_ArePlayers (k + 1) l_0 =
 spec_ArePlayers.l0 k k l_0 0 := by kernel_rfl
theorem spec_ArePlayers.l0_eq (k m : Nat) (l_0 : (List DT67)) (i_3 : Int) : spec_ArePlayers.l0 k (m + 1) l_0 i_3 =
 if (i_3 : Int) < ((List.length l_0 : Nat) : Int) then
 if 0 ≤ i_3 then
 if i_3 < ((List.length l_0 : Nat) : Int) then
 (spec_l1In k (rd T67 l_0 i_3).1 1 99).bind fun r1 =>
 if ¬ (r1 = true) then
 some false
 else if LT.lt (α := Int) (rd T67 l_0 i_3).2.1 21 then
 some false
 else if LT.lt (α := Int) (rd T67 l_0 i_3).2.2.1 (rd T67 l_0 i_3).2.1 then
 some false
 else if LT.lt (α := Int) 108 (rd T67 l_0 i_3).2.2.1 then
 some false
 else if (0 : Int) < i_3 then
 if 0 ≤ (IntKind.wrap .i64 (i_3 - 1)) then
 if (IntKind.wrap .i64 (i_3 - 1)) < ((List.length l_0 : Nat) : Int) then
 if LE.le (α := Int) (rd T67 l_0 i_3).1 (rd T67 l_0 (IntKind.wrap .i64 (i_3 - 1))).1 then
 some false
 else spec_ArePlayers.l1 k k m l_0 i_3 0 (rd T67 l_0 i_3).1 (rd T67 l_0 i_3).2.1 (rd T67 l_0 i_3).2.2.1 (rd T67 l_0 i_3).2.2.2.1 else none else none
 else spec_ArePlayers.l1 k k m l_0 i_3 0 (rd T67 l_0 i_3).1 (rd T67 l_0 i_3).2.1 (rd T67 l_0 i_3).2.2.1 (rd T67 l_0 i_3).2.2.2.1 else none else none
 else some (decide ((((List.length l_0 : Nat) : Int) : Int) ≤ 8)) := by kernel_rfl
theorem spec_ArePlayers.l1_eq (k m m1 : Nat) (l_0 : (List DT67)) (i_3 : Int) (k_5 : Int) (b0_0 : Int) (b0_1 : Int) (b0_2 : Int) (b0_3 : (List Int)) : spec_ArePlayers.l1 k (m + 1) m1 l_0 i_3 k_5 b0_0 b0_1 b0_2 b0_3 =
 if (k_5 : Int) < ((List.length b0_3 : Nat) : Int) then
 if 0 ≤ k_5 then
 if k_5 < ((List.length b0_3 : Nat) : Int) then
 (spec_l1In k (rd (.int .i64) b0_3 k_5) 1 4).bind fun r2 =>
 if ¬ (r2 = true) then
 some false
 else if (0 : Int) < k_5 then
 if 0 ≤ (IntKind.wrap .i64 (k_5 - 1)) then
 if (IntKind.wrap .i64 (k_5 - 1)) < ((List.length b0_3 : Nat) : Int) then
 if 0 ≤ k_5 then
 if k_5 < ((List.length b0_3 : Nat) : Int) then
 if LE.le (α := Int) (rd (.int .i64) b0_3 k_5) (rd (.int .i64) b0_3 (IntKind.wrap .i64 (k_5 - 1))) then
 some false
 else spec_ArePlayers.l1 k m m1 l_0 i_3 (IntKind.wrap .i64 (k_5 + 1)) b0_0 b0_1 b0_2 b0_3 else none else none else none else none
 else spec_ArePlayers.l1 k m m1 l_0 i_3 (IntKind.wrap .i64 (k_5 + 1)) b0_0 b0_1 b0_2 b0_3 else none else none
 else spec_ArePlayers.l0 k m1 l_0 (IntKind.wrap .i64 (i_3 + 1)) := by kernel_rfl
theorem spec_CanPlay_eq (k : Nat) (p_0 : DT67) (l_1 : (List DT80)) (voice_2 : Int) : spec_CanPlay (k + 1) p_0 l_1 voice_2 =
 (spec_l27Has k p_0.2.2.2.1 voice_2).bind fun r1 =>
 if r1 = true then
 (spec_IsScore k l_1).bind fun r2 =>
 if r2 = true then
 (spec_VoiceOf k l_1 voice_2).bind fun r3 =>
 (spec_FitsRange k r3 p_0.2.1 p_0.2.2.1).bind fun r4 =>
 some (decide (r4 = true))
 else some false
 else some false := by kernel_rfl
theorem spec_l27Has_eq (k : Nat) (l_0 : (List Int)) (n_1 : Int) : spec_l27Has (k + 1) l_0 n_1 =
 spec_l27Has.l0 k k l_0 n_1 0 := by kernel_rfl
theorem spec_l27Has.l0_eq (k m : Nat) (l_0 : (List Int)) (n_1 : Int) (i_5 : Int) : spec_l27Has.l0 k (m + 1) l_0 n_1 i_5 =
 if (i_5 : Int) < ((List.length l_0 : Nat) : Int) then
 if 0 ≤ i_5 then
 if i_5 < ((List.length l_0 : Nat) : Int) then
 if Eq (α := Int) (rd (.int .i64) l_0 i_5) n_1 then
 some true
 else spec_l27Has.l0 k m l_0 n_1 (IntKind.wrap .i64 (i_5 + 1)) else none else none
 else some false := by kernel_rfl
theorem spec_Min_eq (k : Nat) (a_0 : Int) (b_1 : Int) : spec_Min (k + 1) a_0 b_1 =
 if (b_1 : Int) < a_0 then
 some b_1
 else some a_0 := by kernel_rfl
theorem spec_MakeRatio_eq (k : Nat) (n_0 : Int) (d_1 : Int) : spec_MakeRatio (k + 1) n_0 d_1 =
 (spec_l1In k n_0 (IntKind.wrap .i64 (-1000000000000000)) 1000000000000000).bind fun r1 =>
 if ¬ (r1 = true) then
 some ((0, (0, ())), (false, ()))
 else (spec_l1In k d_1 (IntKind.wrap .i64 (-1000000000000000)) 1000000000000000).bind fun r2 =>
 if ¬ (r2 = true) then
 some ((0, (0, ())), (false, ()))
 else if (d_1 : Int) = 0 then
 some ((0, (0, ())), (false, ()))
 else if (d_1 : Int) < 0 then
 (spec_l4Abs k (IntKind.wrap .i64 (-n_0))).bind fun r3 =>
 (spec_l4Gcd k r3 (IntKind.wrap .i64 (-d_1))).bind fun r4 =>
 if r4 = (0 : Int) then
 none
 else if r4 = (0 : Int) then
 none
 else (spec_IsRatio k (IntKind.wrap .i64 (Int.tdiv (IntKind.wrap .i64 (-n_0)) r4), (IntKind.wrap .i64 (Int.tdiv (IntKind.wrap .i64 (-d_1)) r4), ()))).bind fun r5 =>
 if ¬ (r5 = true) then
 some ((0, (0, ())), (false, ()))
 else some ((IntKind.wrap .i64 (Int.tdiv (IntKind.wrap .i64 (-n_0)) r4), (IntKind.wrap .i64 (Int.tdiv (IntKind.wrap .i64 (-d_1)) r4), ())), (true, ()))
 else (spec_l4Abs k n_0).bind fun r6 =>
 (spec_l4Gcd k r6 d_1).bind fun r7 =>
 if r7 = (0 : Int) then
 none
 else if r7 = (0 : Int) then
 none
 else (spec_IsRatio k (IntKind.wrap .i64 (Int.tdiv n_0 r7), (IntKind.wrap .i64 (Int.tdiv d_1 r7), ()))).bind fun r8 =>
 if ¬ (r8 = true) then
 some ((0, (0, ())), (false, ()))
 else some ((IntKind.wrap .i64 (Int.tdiv n_0 r7), (IntKind.wrap .i64 (Int.tdiv d_1 r7), ())), (true, ())) := by kernel_rfl
theorem spec_AddRatio_eq (k : Nat) (a_0 : DT23) (b_1 : DT23) : spec_AddRatio (k + 1) a_0 b_1 =
 (spec_IsRatio k a_0).bind fun r1 =>
 if ¬ (r1 = true) then
 some ((0, (0, ())), (false, ()))
 else (spec_IsRatio k b_1).bind fun r2 =>
 if ¬ (r2 = true) then
 some ((0, (0, ())), (false, ()))
 else (spec_l4Gcd k a_0.2.1 b_1.2.1).bind fun r3 =>
 if r3 = (0 : Int) then
 none
 else if r3 = (0 : Int) then
 none
 else if r3 = (0 : Int) then
 none
 else (spec_l4Abs k (IntKind.wrap .i64 ((IntKind.wrap .i64 (a_0.1 * (IntKind.wrap .i64 (Int.tdiv b_1.2.1 r3)))) + (IntKind.wrap .i64 (b_1.1 * (IntKind.wrap .i64 (Int.tdiv a_0.2.1 r3))))))).bind fun r4 =>
 (spec_l4Gcd k r4 (IntKind.wrap .i64 ((IntKind.wrap .i64 (Int.tdiv a_0.2.1 r3)) * b_1.2.1))).bind fun r5 =>
 if r5 = (0 : Int) then
 none
 else if r5 = (0 : Int) then
 none
 else (spec_IsRatio k (IntKind.wrap .i64 (Int.tdiv (IntKind.wrap .i64 ((IntKind.wrap .i64 (a_0.1 * (IntKind.wrap .i64 (Int.tdiv b_1.2.1 r3)))) + (IntKind.wrap .i64 (b_1.1 * (IntKind.wrap .i64 (Int.tdiv a_0.2.1 r3)))))) r5), (IntKind.wrap .i64 (Int.tdiv (IntKind.wrap .i64 ((IntKind.wrap .i64 (Int.tdiv a_0.2.1 r3)) * b_1.2.1)) r5), ()))).bind fun r6 =>
 if ¬ (r6 = true) then
 some ((0, (0, ())), (false, ()))
 else some ((IntKind.wrap .i64 (Int.tdiv (IntKind.wrap .i64 ((IntKind.wrap .i64 (a_0.1 * (IntKind.wrap .i64 (Int.tdiv b_1.2.1 r3)))) + (IntKind.wrap .i64 (b_1.1 * (IntKind.wrap .i64 (Int.tdiv a_0.2.1 r3)))))) r5), (IntKind.wrap .i64 (Int.tdiv (IntKind.wrap .i64 ((IntKind.wrap .i64 (Int.tdiv a_0.2.1 r3)) * b_1.2.1)) r5), ())), (true, ())) := by kernel_rfl
theorem spec_IsRatio_eq (k : Nat) (r_0 : DT23) : spec_IsRatio (k + 1) r_0 =
 (spec_l1In k r_0.2.1 1 1000000).bind fun r1 =>
 if r1 = true then
 (spec_l1In k r_0.1 (-1000000000) 1000000000).bind fun r2 =>
 if r2 = true then
 (spec_l4Abs k r_0.1).bind fun r3 =>
 (spec_l4Gcd k r3 r_0.2.1).bind fun r4 =>
 some (decide ((r4 : Int) = 1))
 else some false
 else some false := by kernel_rfl
theorem spec_LessRatio_eq (k : Nat) (a_0 : DT23) (b_1 : DT23) : spec_LessRatio (k + 1) a_0 b_1 =
 (spec_IsRatio k a_0).bind fun r1 =>
 if r1 = true then
 (spec_IsRatio k b_1).bind fun r2 =>
 if r2 = true then
 some (decide (((IntKind.wrap .i64 (a_0.1 * b_1.2.1)) : Int) < (IntKind.wrap .i64 (b_1.1 * a_0.2.1))))
 else some false
 else some false := by kernel_rfl
theorem spec_MulRatio_eq (k : Nat) (a_0 : DT23) (b_1 : DT23) : spec_MulRatio (k + 1) a_0 b_1 =
 (spec_IsRatio k a_0).bind fun r1 =>
 if ¬ (r1 = true) then
 some ((0, (0, ())), (false, ()))
 else (spec_IsRatio k b_1).bind fun r2 =>
 if ¬ (r2 = true) then
 some ((0, (0, ())), (false, ()))
 else (spec_l4Abs k a_0.1).bind fun r3 =>
 (spec_l4Gcd k r3 b_1.2.1).bind fun r4 =>
 (spec_l4Abs k b_1.1).bind fun r5 =>
 (spec_l4Gcd k r5 a_0.2.1).bind fun r6 =>
 if r4 = (0 : Int) then
 none
 else if r6 = (0 : Int) then
 none
 else if r6 = (0 : Int) then
 none
 else if r4 = (0 : Int) then
 none
 else (spec_IsRatio k (IntKind.wrap .i64 ((IntKind.wrap .i64 (Int.tdiv a_0.1 r4)) * (IntKind.wrap .i64 (Int.tdiv b_1.1 r6))), (IntKind.wrap .i64 ((IntKind.wrap .i64 (Int.tdiv a_0.2.1 r6)) * (IntKind.wrap .i64 (Int.tdiv b_1.2.1 r4))), ()))).bind fun r7 =>
 if ¬ (r7 = true) then
 some ((0, (0, ())), (false, ()))
 else some ((IntKind.wrap .i64 ((IntKind.wrap .i64 (Int.tdiv a_0.1 r4)) * (IntKind.wrap .i64 (Int.tdiv b_1.1 r6))), (IntKind.wrap .i64 ((IntKind.wrap .i64 (Int.tdiv a_0.2.1 r6)) * (IntKind.wrap .i64 (Int.tdiv b_1.2.1 r4))), ())), (true, ())) := by kernel_rfl
theorem impl_eventOrder_eq (k : Nat) (a_0 : DT80) (b_1 : DT80) : impl_eventOrder (k + 1) a_0 b_1 =
 (cmp_Compare_int k a_0.1 b_1.1).bind fun r1 =>
 (cmp_Compare_int k a_0.2.2.2.1 b_1.2.2.2.1).bind fun r2 =>
 (cmp_Compare_int k a_0.2.2.1 b_1.2.2.1).bind fun r3 =>
 (cmp_Or_int k ([r1, r2, r3])).bind fun r4 =>
 some r4 := by kernel_rfl
theorem impl_markOrder_eq (k : Nat) (a_0 : DT91) (b_1 : DT91) : impl_markOrder (k + 1) a_0 b_1 =
 (cmp_Compare_int k a_0.1 b_1.1).bind fun r1 =>
 (cmp_Compare_int k a_0.2.1 b_1.2.1).bind fun r2 =>
 (cmp_Or_int k ([r1, r2])).bind fun r3 =>
 some r3 := by kernel_rfl
theorem impl_ArePlayers_eq (k : Nat) (l_0 : (List DT67)) : impl_ArePlayers (k + 1) l_0 =
 impl_ArePlayers.l0 k k l_0 l_0 ((List.length l_0 : Nat) : Int) 0 [] := by kernel_rfl
theorem impl_ArePlayers.l0_eq (k m : Nat) (l_0 : (List DT67)) (t_7 : (List DT67)) (t_8 : Int) (t_9 : Int) (s0 : (List Int)) : impl_ArePlayers.l0 k (m + 1) l_0 t_7 t_8 t_9 s0 =
 if (t_9 : Int) < t_8 then
 if 0 ≤ t_9 then
 if t_9 < ((List.length t_7 : Nat) : Int) then
 (impl_InRange k (rd T67 t_7 t_9).2.1 21 (rd T67 t_7 t_9).2.2.1).bind fun r1 =>
 if ¬ (r1 = true) then
 some false
 else if LT.lt (α := Int) 108 (rd T67 t_7 t_9).2.2.1 then
 some false
 else (impl_ascending k (rd T67 t_7 t_9).2.2.2.1 1 4).bind fun r2 =>
 if ¬ (r2 = true) then
 some false
 else if (List.length s0 + List.length ([(rd T67 t_7 t_9).1])) * 8 ≤ 211106232532992 then
 impl_ArePlayers.l0 k m l_0 t_7 t_8 (IntKind.wrap .i64 (t_9 + 1)) (s0 ++ [(rd T67 t_7 t_9).1]) else none else none else none
 else if (((List.length l_0 : Nat) : Int) : Int) ≤ 8 then
 (impl_ascending k s0 1 99).bind fun r3 =>
 some (decide (r3 = true))
 else some false := by kernel_rfl
theorem slices_Contains___int_int_eq (k : Nat) (s_0 : (List Int)) (v_1 : Int) : slices_Contains___int_int (k + 1) s_0 v_1 =
 (slices_Index___int_int k s_0 v_1).bind fun r1 =>
 some (decide ((0 : Int) ≤ r1)) := by kernel_rfl
theorem slices_ContainsFunc_impl_Player_84_eq (k : Nat) (s_0 : (List DT67)) (c1_0 : Int) (c1_1 : (List DT80)) (c1_2 : Int) : slices_ContainsFunc_impl_Player_84 (k + 1) s_0 c1_0 c1_1 c1_2 =
 (slices_IndexFunc_impl_Player_84 k s_0 c1_0 c1_1 c1_2).bind fun r1 =>
 some (decide ((0 : Int) ≤ r1)) := by kernel_rfl
theorem slices_IndexFunc_impl_Event_58_eq (k : Nat) (s_0 : (List DT80)) (c1_0 : DT30) : slices_IndexFunc_impl_Event_58 (k + 1) s_0 c1_0 =
 slices_IndexFunc_impl_Event_58.l0 k k s_0 c1_0 ((List.length s_0 : Nat) : Int) 0 := by kernel_rfl
theorem slices_IndexFunc_impl_Event_58.l0_eq (k m : Nat) (s_0 : (List DT80)) (f_1_c : DT30) (t_7 : Int) (t_8 : Int) : slices_IndexFunc_impl_Event_58.l0 k (m + 1) s_0 f_1_c t_7 t_8 =
 if (t_8 : Int) < t_7 then
 if 0 ≤ t_8 then
 if t_8 < ((List.length s_0 : Nat) : Int) then
 (impl_IsExact_1 k (rd T80 s_0 t_8) f_1_c).bind fun r1 =>
 if r1 = true then
 some t_8
 else slices_IndexFunc_impl_Event_58.l0 k m s_0 f_1_c t_7 (IntKind.wrap .i64 (t_8 + 1)) else none else none
 else some (-1) := by kernel_rfl
theorem slices_IndexFunc_impl_Event_61_eq (k : Nat) (s_0 : (List DT80)) (c1_0 : DT30) : slices_IndexFunc_impl_Event_61 (k + 1) s_0 c1_0 =
 slices_IndexFunc_impl_Event_61.l0 k k s_0 c1_0 ((List.length s_0 : Nat) : Int) 0 := by kernel_rfl
theorem slices_IndexFunc_impl_Event_61.l0_eq (k m : Nat) (s_0 : (List DT80)) (f_1_c : DT30) (t_7 : Int) (t_8 : Int) : slices_IndexFunc_impl_Event_61.l0 k (m + 1) s_0 f_1_c t_7 t_8 =
 if (t_8 : Int) < t_7 then
 if 0 ≤ t_8 then
 if t_8 < ((List.length s_0 : Nat) : Int) then
 (impl_AreSeated_1 k (rd T80 s_0 t_8) f_1_c).bind fun r1 =>
 if r1 = true then
 some t_8
 else slices_IndexFunc_impl_Event_61.l0 k m s_0 f_1_c t_7 (IntKind.wrap .i64 (t_8 + 1)) else none else none
 else some (-1) := by kernel_rfl
theorem spec_VoiceOf_eq (k : Nat) (l_0 : (List DT80)) (voice_1 : Int) : spec_VoiceOf (k + 1) l_0 voice_1 =
 spec_VoiceOf.l0 k k l_0 voice_1 0 [] := by kernel_rfl
theorem spec_VoiceOf.l0_eq (k m : Nat) (l_0 : (List DT80)) (voice_1 : Int) (i_6 : Int) (s0 : (List DT80)) : spec_VoiceOf.l0 k (m + 1) l_0 voice_1 i_6 s0 =
 if (i_6 : Int) < ((List.length l_0 : Nat) : Int) then
 if 0 ≤ i_6 then
 if i_6 < ((List.length l_0 : Nat) : Int) then
 if Eq (α := Int) (rd T80 l_0 i_6).2.2.2.1 voice_1 then
 if 0 ≤ i_6 then
 if i_6 < ((List.length l_0 : Nat) : Int) then
 if (List.length s0 + List.length ([(rd T80 l_0 i_6)])) * 32 ≤ 211106232532992 then
 spec_VoiceOf.l0 k m l_0 voice_1 (IntKind.wrap .i64 (i_6 + 1)) (s0 ++ [(rd T80 l_0 i_6)]) else none else none else none
 else spec_VoiceOf.l0 k m l_0 voice_1 (IntKind.wrap .i64 (i_6 + 1)) s0 else none else none
 else some s0 := by kernel_rfl
theorem spec_FitsRange_eq (k : Nat) (l_0 : (List DT80)) (low_1 : Int) (high_2 : Int) : spec_FitsRange (k + 1) l_0 low_1 high_2 =
 spec_FitsRange.l0 k k l_0 low_1 high_2 0 := by kernel_rfl
theorem spec_FitsRange.l0_eq (k m : Nat) (l_0 : (List DT80)) (low_1 : Int) (high_2 : Int) (i_7 : Int) : spec_FitsRange.l0 k (m + 1) l_0 low_1 high_2 i_7 =
 if (i_7 : Int) < ((List.length l_0 : Nat) : Int) then
 if 0 ≤ i_7 then
 if i_7 < ((List.length l_0 : Nat) : Int) then
 (spec_l1In k (rd T80 l_0 i_7).2.2.1 low_1 high_2).bind fun r1 =>
 if ¬ (r1 = true) then
 some false
 else spec_FitsRange.l0 k m l_0 low_1 high_2 (IntKind.wrap .i64 (i_7 + 1)) else none else none
 else (spec_IsScore k l_0).bind fun r2 =>
 some (decide (r2 = true)) := by kernel_rfl
theorem spec_l4Abs_eq (k : Nat) (n_0 : Int) : spec_l4Abs (k + 1) n_0 =
 if (n_0 : Int) < 0 then
 some (IntKind.wrap .i64 (-n_0))
 else some n_0 := by kernel_rfl
theorem spec_l4Gcd_eq (k : Nat) (a_0 : Int) (b_1 : Int) : spec_l4Gcd (k + 1) a_0 b_1 =
 spec_l4Gcd.l0 k k a_0 b_1 := by kernel_rfl
theorem spec_l4Gcd.l0_eq (k m : Nat) (a_0 : Int) (b_1 : Int) : spec_l4Gcd.l0 k (m + 1) a_0 b_1 =
 if (b_1 : Int) ≠ 0 then
 if b_1 = (0 : Int) then
 none
 else spec_l4Gcd.l0 k m b_1 (Int.tmod a_0 b_1)
 else some a_0 := by kernel_rfl
theorem cmp_Compare_int_eq (k : Nat) (x_0 : Int) (y_1 : Int) : cmp_Compare_int (k + 1) x_0 y_1 =
 (cmp_isNaN_int k x_0).bind fun r1 =>
 (cmp_isNaN_int k y_1).bind fun r2 =>
 if r1 = true then
 if r2 = true then
 some 0
 else some (-1)
 else if r2 = true then
 some 1
 else if (x_0 : Int) < y_1 then
 some (-1)
 else if (y_1 : Int) < x_0 then
 some 1
 else some 0 := by kernel_rfl
theorem cmp_Or_int_eq (k : Nat) (vals_0 : (List Int)) : cmp_Or_int (k + 1) vals_0 =
 cmp_Or_int.l0 k k 0 vals_0 ((List.length vals_0 : Nat) : Int) 0 := by kernel_rfl
theorem cmp_Or_int.l0_eq (k m : Nat) (zero_3 : Int) (t_6 : (List Int)) (t_7 : Int) (t_8 : Int) : cmp_Or_int.l0 k (m + 1) zero_3 t_6 t_7 t_8 =
 if (t_8 : Int) < t_7 then
 if 0 ≤ t_8 then
 if t_8 < ((List.length t_6 : Nat) : Int) then
 if Ne (α := Int) (rd (.int .i64) t_6 t_8) zero_3 then
 some (rd (.int .i64) t_6 t_8)
 else cmp_Or_int.l0 k m zero_3 t_6 t_7 (IntKind.wrap .i64 (t_8 + 1)) else none else none
 else some zero_3 := by kernel_rfl
theorem impl_ascending_eq (k : Nat) (l_0 : (List Int)) (low_1 : Int) (high_2 : Int) : impl_ascending (k + 1) l_0 low_1 high_2 =
 impl_ascending.l0 k k l_0 low_1 high_2 l_0 ((List.length l_0 : Nat) : Int) 0 := by kernel_rfl
theorem impl_ascending.l0_eq (k m : Nat) (l_0 : (List Int)) (low_1 : Int) (high_2 : Int) (t_9 : (List Int)) (t_10 : Int) (t_11 : Int) : impl_ascending.l0 k (m + 1) l_0 low_1 high_2 t_9 t_10 t_11 =
 if (t_11 : Int) < t_10 then
 if 0 ≤ t_11 then
 if t_11 < ((List.length t_9 : Nat) : Int) then
 (impl_InRange k (rd (.int .i64) t_9 t_11) low_1 high_2).bind fun r1 =>
 if ¬ (r1 = true) then
 some false
 else if (0 : Int) < t_11 then
 if 0 ≤ (IntKind.wrap .i64 (t_11 - 1)) then
 if (IntKind.wrap .i64 (t_11 - 1)) < ((List.length l_0 : Nat) : Int) then
 if LE.le (α := Int) (rd (.int .i64) t_9 t_11) (rd (.int .i64) l_0 (IntKind.wrap .i64 (t_11 - 1))) then
 some false
 else impl_ascending.l0 k m l_0 low_1 high_2 t_9 t_10 (IntKind.wrap .i64 (t_11 + 1)) else none else none
 else impl_ascending.l0 k m l_0 low_1 high_2 t_9 t_10 (IntKind.wrap .i64 (t_11 + 1)) else none else none
 else some true := by kernel_rfl
theorem slices_Index___int_int_eq (k : Nat) (s_0 : (List Int)) (v_1 : Int) : slices_Index___int_int (k + 1) s_0 v_1 =
 slices_Index___int_int.l0 k k s_0 v_1 ((List.length s_0 : Nat) : Int) 0 := by kernel_rfl
theorem slices_Index___int_int.l0_eq (k m : Nat) (s_0 : (List Int)) (v_1 : Int) (t_7 : Int) (t_8 : Int) : slices_Index___int_int.l0 k (m + 1) s_0 v_1 t_7 t_8 =
 if (t_8 : Int) < t_7 then
 if 0 ≤ t_8 then
 if t_8 < ((List.length s_0 : Nat) : Int) then
 if Eq (α := Int) v_1 (rd (.int .i64) s_0 t_8) then
 some t_8
 else slices_Index___int_int.l0 k m s_0 v_1 t_7 (IntKind.wrap .i64 (t_8 + 1)) else none else none
 else some (-1) := by kernel_rfl
theorem slices_IndexFunc_impl_Player_84_eq (k : Nat) (s_0 : (List DT67)) (c1_0 : Int) (c1_1 : (List DT80)) (c1_2 : Int) : slices_IndexFunc_impl_Player_84 (k + 1) s_0 c1_0 c1_1 c1_2 =
 slices_IndexFunc_impl_Player_84.l0 k k s_0 c1_0 c1_1 c1_2 ((List.length s_0 : Nat) : Int) 0 := by kernel_rfl
theorem slices_IndexFunc_impl_Player_84.l0_eq (k m : Nat) (s_0 : (List DT67)) (f_1_c : Int) (f_1_c_1 : (List DT80)) (f_1_c_2 : Int) (t_7 : Int) (t_8 : Int) : slices_IndexFunc_impl_Player_84.l0 k (m + 1) s_0 f_1_c f_1_c_1 f_1_c_2 t_7 t_8 =
 if (t_8 : Int) < t_7 then
 if 0 ≤ t_8 then
 if t_8 < ((List.length s_0 : Nat) : Int) then
 (impl_IsSeating_1 k (rd T67 s_0 t_8) f_1_c f_1_c_1 f_1_c_2).bind fun r1 =>
 if r1 = true then
 some t_8
 else slices_IndexFunc_impl_Player_84.l0 k m s_0 f_1_c f_1_c_1 f_1_c_2 t_7 (IntKind.wrap .i64 (t_8 + 1)) else none else none
 else some (-1) := by kernel_rfl
theorem impl_IsExact_1_eq (k : Nat) (e_0 : DT80) (a_1 : DT30) : impl_IsExact_1 (k + 1) e_0 a_1 =
 (impl_TimeOf k a_1.2.2.1 e_0.1).bind fun r1 =>
 (impl_TickAt k a_1.2.2.1 r1.1).bind fun r2 =>
 if ¬ (r1.2.1 = true) then
 some true
 else if ¬ (r2.2.1 = true) then
 some true
 else some (decide (¬ (((r2.1.1 : Int) = e_0.1) ∧ ((r2.1.2.1 : Int) = 1)))) := by kernel_rfl
theorem impl_AreSeated_1_eq (k : Nat) (e_0 : DT80) (a_1 : DT30) : impl_AreSeated_1 (k + 1) e_0 a_1 =
 some (decide ((((List.length a_1.2.2.2.2.1 : Nat) : Int) : Int) < e_0.2.2.2.1)) := by kernel_rfl
theorem cmp_isNaN_int_eq (k : Nat) (x_0 : Int) : cmp_isNaN_int (k + 1) x_0 =
 some (decide ((x_0 : Int) ≠ x_0)) := by kernel_rfl
theorem impl_IsSeating_1_eq (k : Nat) (p_0 : DT67) (a_1 : Int) (a_2 : (List DT80)) (a_3 : Int) : impl_IsSeating_1 (k + 1) p_0 a_1 a_2 a_3 =
 if (p_0.1 : Int) = a_1 then
 (impl_CanPlay k p_0 a_2 (IntKind.wrap .i64 (a_3 + 1))).bind fun r1 =>
 some (decide (r1 = true))
 else some false := by kernel_rfl
theorem impl_TimeOf_eq (k : Nat) (l_0 : (List DT23)) (tick_1 : Int) : impl_TimeOf (k + 1) l_0 tick_1 =
 (impl_IsTempo k l_0).bind fun r1 =>
 if ¬ (r1 = true) then
 some ((0, (0, ())), (false, ()))
 else (impl_InRange k tick_1 0 2000).bind fun r2 =>
 if ¬ (r2 = true) then
 some ((0, (0, ())), (false, ()))
 else impl_TimeOf.l0 k k l_0 tick_1 l_0 ((List.length l_0 : Nat) : Int) 0 0 0 0 1 := by kernel_rfl
theorem impl_TimeOf.l0_eq (k m : Nat) (l_0 : (List DT23)) (tick_1 : Int) (t_24 : (List DT23)) (t_25 : Int) (t_26 : Int) (b0_0 : Int) (b0_1 : Int) (b1_0 : Int) (b1_1 : Int) : impl_TimeOf.l0 k (m + 1) l_0 tick_1 t_24 t_25 t_26 b0_0 b0_1 b1_0 b1_1 =
 if (t_26 : Int) < t_25 then
 if 0 ≤ t_26 then
 if t_26 < ((List.length t_24 : Nat) : Int) then
 if ((IntKind.wrap .i64 (t_26 + 1)) : Int) < ((List.length l_0 : Nat) : Int) then
 if 0 ≤ (IntKind.wrap .i64 (t_26 + 1)) then
 if (IntKind.wrap .i64 (t_26 + 1)) < ((List.length l_0 : Nat) : Int) then
 if LE.le (α := Int) (min tick_1 (rd T23 l_0 (IntKind.wrap .i64 (t_26 + 1))).1 : Int) (rd T23 t_24 t_26).1 then
 some ((b1_0, (b1_1, ())), (true, ()))
 else (impl_MakeRatio k (IntKind.wrap .i64 ((IntKind.wrap .i64 ((min tick_1 (rd T23 l_0 (IntKind.wrap .i64 (t_26 + 1))).1 : Int) - (rd T23 t_24 t_26).1)) * 5000)) (rd T23 t_24 t_26).2.1).bind fun r3 =>
 (impl_AddRatio k (b1_0, (b1_1, ())) r3.1).bind fun r4 =>
 if ¬ (r3.2.1 = true) then
 some ((0, (0, ())), (false, ()))
 else if ¬ (r4.2.1 = true) then
 some ((0, (0, ())), (false, ()))
 else impl_TimeOf.l0 k m l_0 tick_1 t_24 t_25 (IntKind.wrap .i64 (t_26 + 1)) b0_0 b0_1 r4.1.1 r4.1.2.1 else none else none
 else if LE.le (α := Int) tick_1 (rd T23 t_24 t_26).1 then
 some ((b1_0, (b1_1, ())), (true, ()))
 else (impl_MakeRatio k (IntKind.wrap .i64 ((IntKind.wrap .i64 (tick_1 - (rd T23 t_24 t_26).1)) * 5000)) (rd T23 t_24 t_26).2.1).bind fun r5 =>
 (impl_AddRatio k (b1_0, (b1_1, ())) r5.1).bind fun r6 =>
 if ¬ (r5.2.1 = true) then
 some ((0, (0, ())), (false, ()))
 else if ¬ (r6.2.1 = true) then
 some ((0, (0, ())), (false, ()))
 else impl_TimeOf.l0 k m l_0 tick_1 t_24 t_25 (IntKind.wrap .i64 (t_26 + 1)) b0_0 b0_1 r6.1.1 r6.1.2.1 else none else none
 else some ((b1_0, (b1_1, ())), (true, ())) := by kernel_rfl
theorem impl_TickAt_eq (k : Nat) (l_0 : (List DT23)) (ms_1 : DT23) : impl_TickAt (k + 1) l_0 ms_1 =
 (impl_IsTempo k l_0).bind fun r1 =>
 if ¬ (r1 = true) then
 some ((0, (0, ())), (false, ()))
 else (impl_IsRatio k ms_1).bind fun r2 =>
 if ¬ (r2 = true) then
 some ((0, (0, ())), (false, ()))
 else if (ms_1.1 : Int) < 0 then
 some ((0, (0, ())), (false, ()))
 else if 0 ≤ 0 then
 if 0 < ((List.length l_0 : Nat) : Int) then
 if 0 ≤ 1 then
 if 1 ≤ ((List.length l_0 : Nat) : Int) then
 impl_TickAt.l0 k k l_0 (List.take ((Int.toNat ((List.length l_0 : Nat) : Int)) - (Int.toNat 1)) (List.drop (Int.toNat 1) l_0)) ((List.length (List.take ((Int.toNat ((List.length l_0 : Nat) : Int)) - (Int.toNat 1)) (List.drop (Int.toNat 1) l_0)) : Nat) : Int) 0 ms_1.1 ms_1.2.1 0 0 (rd T23 l_0 0).1 (rd T23 l_0 0).2.1 0 1 else none else none else none else none := by kernel_rfl
theorem impl_TickAt.l0_eq (k m : Nat) (l_0 : (List DT23)) (t_39 : (List DT23)) (t_40 : Int) (t_41 : Int) (b0_0 : Int) (b0_1 : Int) (b1_0 : Int) (b1_1 : Int) (b2_0 : Int) (b2_1 : Int) (b3_0 : Int) (b3_1 : Int) : impl_TickAt.l0 k (m + 1) l_0 t_39 t_40 t_41 b0_0 b0_1 b1_0 b1_1 b2_0 b2_1 b3_0 b3_1 =
 if (t_41 : Int) < t_40 then
 if 0 ≤ t_41 then
 if t_41 < ((List.length t_39 : Nat) : Int) then
 (impl_TimeOf k l_0 (rd T23 t_39 t_41).1).bind fun r3 =>
 if ¬ (r3.2.1 = true) then
 some ((0, (0, ())), (false, ()))
 else (impl_LessRatio k (b0_0, (b0_1, ())) r3.1).bind fun r4 =>
 if r4 = true then
 (impl_AddRatio k (b0_0, (b0_1, ())) (IntKind.wrap .i64 (-b3_0), (b3_1, ()))).bind fun r5 =>
 (impl_MakeRatio k b2_1 5000).bind fun r6 =>
 (impl_MulRatio k r5.1 r6.1).bind fun r7 =>
 (impl_AddRatio k (b2_0, (1, ())) r7.1).bind fun r8 =>
 if ¬ (r5.2.1 = true) then
 some ((0, (0, ())), (false, ()))
 else if ¬ (r6.2.1 = true) then
 some ((0, (0, ())), (false, ()))
 else if ¬ (r7.2.1 = true) then
 some ((0, (0, ())), (false, ()))
 else if ¬ (r8.2.1 = true) then
 some ((0, (0, ())), (false, ()))
 else some (r8.1, (true, ()))
 else impl_TickAt.l0 k m l_0 t_39 t_40 (IntKind.wrap .i64 (t_41 + 1)) b0_0 b0_1 b1_0 b1_1 (rd T23 t_39 t_41).1 (rd T23 t_39 t_41).2.1 r3.1.1 r3.1.2.1 else none else none
 else (impl_AddRatio k (b0_0, (b0_1, ())) (IntKind.wrap .i64 (-b3_0), (b3_1, ()))).bind fun r9 =>
 (impl_MakeRatio k b2_1 5000).bind fun r10 =>
 (impl_MulRatio k r9.1 r10.1).bind fun r11 =>
 (impl_AddRatio k (b2_0, (1, ())) r11.1).bind fun r12 =>
 if ¬ (r9.2.1 = true) then
 some ((0, (0, ())), (false, ()))
 else if ¬ (r10.2.1 = true) then
 some ((0, (0, ())), (false, ()))
 else if ¬ (r11.2.1 = true) then
 some ((0, (0, ())), (false, ()))
 else if ¬ (r12.2.1 = true) then
 some ((0, (0, ())), (false, ()))
 else some (r12.1, (true, ())) := by kernel_rfl
theorem impl_CanPlay_eq (k : Nat) (p_0 : DT67) (l_1 : (List DT80)) (voice_2 : Int) : impl_CanPlay (k + 1) p_0 l_1 voice_2 =
 (slices_Contains___int_int k p_0.2.2.2.1 voice_2).bind fun r1 =>
 if r1 = true then
 (impl_IsScore k l_1).bind fun r2 =>
 if r2 = true then
 (impl_VoiceOf k l_1 voice_2).bind fun r3 =>
 (impl_FitsRange k r3 p_0.2.1 p_0.2.2.1).bind fun r4 =>
 some (decide (r4 = true))
 else some false
 else some false := by kernel_rfl
theorem impl_MakeRatio_eq (k : Nat) (n_0 : Int) (d_1 : Int) : impl_MakeRatio (k + 1) n_0 d_1 =
 (impl_InRange k n_0 (-1000000000000000) 1000000000000000).bind fun r1 =>
 if ¬ (r1 = true) then
 some ((0, (0, ())), (false, ()))
 else (impl_InRange k d_1 (-1000000000000000) 1000000000000000).bind fun r2 =>
 if ¬ (r2 = true) then
 some ((0, (0, ())), (false, ()))
 else (impl_lowest k n_0 d_1).bind fun r3 =>
 some (r3.1, (decide (r3.2.1 = true), ())) := by kernel_rfl
theorem impl_AddRatio_eq (k : Nat) (a_0 : DT23) (b_1 : DT23) : impl_AddRatio (k + 1) a_0 b_1 =
 (impl_IsRatio k a_0).bind fun r1 =>
 if ¬ (r1 = true) then
 some ((0, (0, ())), (false, ()))
 else (impl_IsRatio k b_1).bind fun r2 =>
 if ¬ (r2 = true) then
 some ((0, (0, ())), (false, ()))
 else (impl_lowest k (IntKind.wrap .i64 ((IntKind.wrap .i64 (a_0.1 * b_1.2.1)) + (IntKind.wrap .i64 (b_1.1 * a_0.2.1)))) (IntKind.wrap .i64 (a_0.2.1 * b_1.2.1))).bind fun r3 =>
 some (r3.1, (decide (r3.2.1 = true), ())) := by kernel_rfl
theorem impl_IsRatio_eq (k : Nat) (r_0 : DT23) : impl_IsRatio (k + 1) r_0 =
 (impl_InRange k r_0.2.1 1 1000000).bind fun r1 =>
 if r1 = true then
 (impl_InRange k r_0.1 (-1000000000) 1000000000).bind fun r2 =>
 if r2 = true then
 (impl_divisor k (max r_0.1 (IntKind.wrap .i64 (-r_0.1)) : Int) r_0.2.1).bind fun r3 =>
 some (decide ((r3 : Int) = 1))
 else some false
 else some false := by kernel_rfl
theorem impl_LessRatio_eq (k : Nat) (a_0 : DT23) (b_1 : DT23) : impl_LessRatio (k + 1) a_0 b_1 =
 (impl_IsRatio k a_0).bind fun r1 =>
 if r1 = true then
 (impl_IsRatio k b_1).bind fun r2 =>
 if r2 = true then
 some (decide (((IntKind.wrap .i64 (a_0.1 * b_1.2.1)) : Int) < (IntKind.wrap .i64 (b_1.1 * a_0.2.1))))
 else some false
 else some false := by kernel_rfl
theorem impl_MulRatio_eq (k : Nat) (a_0 : DT23) (b_1 : DT23) : impl_MulRatio (k + 1) a_0 b_1 =
 (impl_IsRatio k a_0).bind fun r1 =>
 if ¬ (r1 = true) then
 some ((0, (0, ())), (false, ()))
 else (impl_IsRatio k b_1).bind fun r2 =>
 if ¬ (r2 = true) then
 some ((0, (0, ())), (false, ()))
 else (impl_lowest k (IntKind.wrap .i64 (a_0.1 * b_1.1)) (IntKind.wrap .i64 (a_0.2.1 * b_1.2.1))).bind fun r3 =>
 some (r3.1, (decide (r3.2.1 = true), ())) := by kernel_rfl
theorem impl_VoiceOf_eq (k : Nat) (l_0 : (List DT80)) (voice_1 : Int) : impl_VoiceOf (k + 1) l_0 voice_1 =
 (impl_clone_impl_Event k l_0).bind fun r1 =>
 (slices_DeleteFunc_impl_Event_108 k r1 voice_1).bind fun r2 =>
 some r2 := by kernel_rfl
theorem impl_FitsRange_eq (k : Nat) (l_0 : (List DT80)) (low_1 : Int) (high_2 : Int) : impl_FitsRange (k + 1) l_0 low_1 high_2 =
 impl_FitsRange.l0 k k l_0 low_1 high_2 l_0 ((List.length l_0 : Nat) : Int) 0 := by kernel_rfl
theorem impl_FitsRange.l0_eq (k m : Nat) (l_0 : (List DT80)) (low_1 : Int) (high_2 : Int) (t_9 : (List DT80)) (t_10 : Int) (t_11 : Int) : impl_FitsRange.l0 k (m + 1) l_0 low_1 high_2 t_9 t_10 t_11 =
 if (t_11 : Int) < t_10 then
 if 0 ≤ t_11 then
 if t_11 < ((List.length t_9 : Nat) : Int) then
 (impl_InRange k (rd T80 t_9 t_11).2.2.1 low_1 high_2).bind fun r1 =>
 if ¬ (r1 = true) then
 some false
 else impl_FitsRange.l0 k m l_0 low_1 high_2 t_9 t_10 (IntKind.wrap .i64 (t_11 + 1)) else none else none
 else (impl_IsScore k l_0).bind fun r2 =>
 some (decide (r2 = true)) := by kernel_rfl
theorem impl_lowest_eq (k : Nat) (n_0 : Int) (d_1 : Int) : impl_lowest (k + 1) n_0 d_1 =
 if (d_1 : Int) < 0 then
 if ((IntKind.wrap .i64 (-d_1)) : Int) = 0 then
 some ((0, (0, ())), (false, ()))
 else (impl_divisor k (max (IntKind.wrap .i64 (-n_0)) (IntKind.wrap .i64 (-(IntKind.wrap .i64 (-n_0)))) : Int) (IntKind.wrap .i64 (-d_1))).bind fun r1 =>
 if r1 = (0 : Int) then
 none
 else if r1 = (0 : Int) then
 none
 else (impl_IsRatio k (IntKind.wrap .i64 (Int.tdiv (IntKind.wrap .i64 (-n_0)) r1), (IntKind.wrap .i64 (Int.tdiv (IntKind.wrap .i64 (-d_1)) r1), ()))).bind fun r2 =>
 if ¬ (r2 = true) then
 some ((0, (0, ())), (false, ()))
 else some ((IntKind.wrap .i64 (Int.tdiv (IntKind.wrap .i64 (-n_0)) r1), (IntKind.wrap .i64 (Int.tdiv (IntKind.wrap .i64 (-d_1)) r1), ())), (true, ()))
 else if (d_1 : Int) = 0 then
 some ((0, (0, ())), (false, ()))
 else (impl_divisor k (max n_0 (IntKind.wrap .i64 (-n_0)) : Int) d_1).bind fun r3 =>
 if r3 = (0 : Int) then
 none
 else if r3 = (0 : Int) then
 none
 else (impl_IsRatio k (IntKind.wrap .i64 (Int.tdiv n_0 r3), (IntKind.wrap .i64 (Int.tdiv d_1 r3), ()))).bind fun r4 =>
 if ¬ (r4 = true) then
 some ((0, (0, ())), (false, ()))
 else some ((IntKind.wrap .i64 (Int.tdiv n_0 r3), (IntKind.wrap .i64 (Int.tdiv d_1 r3), ())), (true, ())) := by kernel_rfl
theorem impl_divisor_eq (k : Nat) (a_0 : Int) (b_1 : Int) : impl_divisor (k + 1) a_0 b_1 =
 impl_divisor.l0 k k a_0 b_1 := by kernel_rfl
theorem impl_divisor.l0_eq (k m : Nat) (a_0 : Int) (b_1 : Int) : impl_divisor.l0 k (m + 1) a_0 b_1 =
 if (b_1 : Int) ≠ 0 then
 if b_1 = (0 : Int) then
 none
 else impl_divisor.l0 k m b_1 (Int.tmod a_0 b_1)
 else some a_0 := by kernel_rfl
theorem impl_clone_impl_Event_eq (k : Nat) (l_0 : (List DT80)) : impl_clone_impl_Event (k + 1) l_0 =
 if (List.length ([] : (List DT80)) + List.length l_0) * 32 ≤ 211106232532992 then
 some (([] : (List DT80)) ++ l_0) else none := by kernel_rfl
theorem slices_DeleteFunc_impl_Event_108_eq (k : Nat) (s_0 : (List DT80)) (c1_0 : Int) : slices_DeleteFunc_impl_Event_108 (k + 1) s_0 c1_0 =
 (slices_IndexFunc_impl_Event_108 k s_0 c1_0).bind fun r1 =>
 if (r1 : Int) = (-1) then
 some s_0
 else slices_DeleteFunc_impl_Event_108.l0 k k c1_0 r1 (IntKind.wrap .i64 (r1 + 1)) s_0 := by kernel_rfl
theorem slices_DeleteFunc_impl_Event_108.l0_eq (k m : Nat) (del_1_c : Int) (i_5 : Int) (j_6 : Int) (s0 : (List DT80)) : slices_DeleteFunc_impl_Event_108.l0 k (m + 1) del_1_c i_5 j_6 s0 =
 if (j_6 : Int) < ((List.length s0 : Nat) : Int) then
 if 0 ≤ j_6 then
 if j_6 < ((List.length s0 : Nat) : Int) then
 (impl_VoiceOf_1 k (rd T80 s0 j_6) del_1_c).bind fun r2 =>
 if ¬ (r2 = true) then
 if 0 ≤ i_5 then
 if i_5 < ((List.length s0 : Nat) : Int) then
 slices_DeleteFunc_impl_Event_108.l0 k m del_1_c (IntKind.wrap .i64 (i_5 + 1)) (IntKind.wrap .i64 (j_6 + 1)) (List.set s0 (Int.toNat i_5) (rd T80 s0 j_6)) else none else none
 else slices_DeleteFunc_impl_Event_108.l0 k m del_1_c i_5 (IntKind.wrap .i64 (j_6 + 1)) s0 else none else none
 else if 0 ≤ i_5 then
 if i_5 ≤ ((List.length s0 : Nat) : Int) then
 if 0 ≤ i_5 then
 if i_5 ≤ ((List.length (List.take (Int.toNat i_5) s0 ++ List.replicate ((Int.toNat ((List.length s0 : Nat) : Int)) - (Int.toNat i_5)) (Ty.dflt T80) ++ List.drop ((Int.toNat i_5) + ((Int.toNat ((List.length s0 : Nat) : Int)) - (Int.toNat i_5))) s0) : Nat) : Int) then
 some (List.take ((Int.toNat i_5) - (Int.toNat 0)) (List.drop (Int.toNat 0) (List.take (Int.toNat i_5) s0 ++ List.replicate ((Int.toNat ((List.length s0 : Nat) : Int)) - (Int.toNat i_5)) (Ty.dflt T80) ++ List.drop ((Int.toNat i_5) + ((Int.toNat ((List.length s0 : Nat) : Int)) - (Int.toNat i_5))) s0))) else none else none else none else none := by kernel_rfl
theorem slices_IndexFunc_impl_Event_108_eq (k : Nat) (s_0 : (List DT80)) (c1_0 : Int) : slices_IndexFunc_impl_Event_108 (k + 1) s_0 c1_0 =
 slices_IndexFunc_impl_Event_108.l0 k k s_0 c1_0 ((List.length s_0 : Nat) : Int) 0 := by kernel_rfl
theorem slices_IndexFunc_impl_Event_108.l0_eq (k m : Nat) (s_0 : (List DT80)) (f_1_c : Int) (t_7 : Int) (t_8 : Int) : slices_IndexFunc_impl_Event_108.l0 k (m + 1) s_0 f_1_c t_7 t_8 =
 if (t_8 : Int) < t_7 then
 if 0 ≤ t_8 then
 if t_8 < ((List.length s_0 : Nat) : Int) then
 (impl_VoiceOf_1 k (rd T80 s_0 t_8) f_1_c).bind fun r1 =>
 if r1 = true then
 some t_8
 else slices_IndexFunc_impl_Event_108.l0 k m s_0 f_1_c t_7 (IntKind.wrap .i64 (t_8 + 1)) else none else none
 else some (-1) := by kernel_rfl
theorem impl_VoiceOf_1_eq (k : Nat) (e_0 : DT80) (a_1 : Int) : impl_VoiceOf_1 (k + 1) e_0 a_1 =
 some (decide ((e_0.2.2.2.1 : Int) ≠ a_1)) := by kernel_rfl
end Go.QFnExactFaultOf
