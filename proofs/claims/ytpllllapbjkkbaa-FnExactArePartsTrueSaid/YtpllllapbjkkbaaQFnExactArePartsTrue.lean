/- The functions that the law FnExactArePartsTrue reaches, as equations; printed by pe.py. No condition. -/
import Derived.Test.YtpllllapbjkkbaaPrim
import Derived.Test.YtpllllapbjkkbaaIns
import Derived.Test.YtpllllapbjkkbaaSortF
import Derived.Test.YtpllllapbjkkbaaProg
import Derived.KernelRfl
set_option linter.unusedVariables false
open Go Go.Flat
namespace Go.QFnExactArePartsTrue
abbrev T23 : Ty := .pair (.int .i64) (.pair (.int .i64) .unit)
abbrev DT23 := Int × (Int × Unit)
abbrev T127 : Ty := .pair (.int .i64) T23
abbrev DT127 := Int × DT23
abbrev T100 : Ty := .pair (.int .i64) T127
abbrev DT100 := Int × DT127
abbrev T90 : Ty := .pair (.int .i64) (.pair (.int .i64) (.pair (.int .i64) (.pair (.list (.int .i64)) .unit)))
abbrev DT90 := Int × (Int × (Int × ((List Int) × Unit)))
abbrev T110 : Ty := .pair (.int .i64) T100
abbrev DT110 := Int × DT100
abbrev T30 : Ty := .pair (.list T100) (.pair T23 (.pair (.list T23) (.pair (.dlist T90) (.pair (.list (.int .i64)) (.pair (.list T110) (.pair (.list T23) T23))))))
abbrev DT30 := (List DT100) × (DT23 × ((List DT23) × ((List DT90) × ((List Int) × ((List DT110) × ((List DT23) × DT23))))))
abbrev T123 : Ty := .pair (.list (.int .u8)) T23
abbrev DT123 := (List Int) × DT23
noncomputable def C : Cfg := {
  P := Go.Proofs.Try.prog,
  tt := [(1, none), (2, some (.int .i64)), (3, some (.int .i64)), (4, some .bool), (5, some (.int .u8)), (6, some (.int .u8)), (9, some .str), (10, some .str), (11, some .str), (12, some (.int .u64)), (15, none), (16, none), (17, none), (21, some (.int .i32)), (22, some (.list T100)), (23, some T23), (24, some T23), (25, some (.list T23)), (26, some (.dlist T90)), (27, some (.list (.int .i64))), (28, some (.list T110)), (29, some (.list T23)), (30, some T30), (31, some T30), (32, none), (33, none), (34, some (.list T100)), (35, some T23), (36, some (.list T23)), (37, some (.dlist T90)), (38, some (.list T110)), (39, some (.list T23)), (40, some T30), (41, some T30), (42, none), (43, none), (44, none), (45, some (.list (.int .u8))), (46, none), (47, some (.dlist (.list (.int .i64)))), (49, none), (51, none), (52, none), (53, none), (54, none), (55, none), (56, none), (57, none), (58, none), (59, none), (60, none), (61, some (.dlist (.list T127))), (63, none), (64, none), (65, none), (66, none), (67, none), (68, none), (69, none), (70, none), (71, none), (72, none), (73, none), (74, none), (75, none), (76, none), (77, none), (78, none), (79, none), (80, none), (81, none), (82, none), (83, none), (84, none), (85, none), (86, none), (87, none), (88, none), (89, none), (90, some T90), (91, some T90), (92, none), (93, some (.list T127)), (95, none), (96, none), (98, none), (99, none), (100, some T100), (101, some T100), (102, none), (103, some T100), (104, some T23), (105, some T23), (106, none), (107, some T23), (108, some T90), (109, none), (110, some T110), (111, some T110), (112, none), (113, some T110), (114, some T23), (115, some T23), (116, none), (117, some T23), (118, none), (119, none), (120, none), (121, none), (122, none), (123, some T123), (124, some T123), (125, none), (126, none), (127, some T127), (128, some T127), (129, none), (130, none), (131, none), (132, none), (133, none), (134, none), (135, none), (136, some (.int .u64)), (137, none), (138, none), (139, none), (140, none), (141, none), (142, none), (143, some (.int .i64)), (145, none), (146, none), (147, none), (149, none), (150, none), (151, some (.int .u32)), (152, none), (153, some (.int .u64)), (154, some (.int .u64)), (155, none), (156, none), (157, none), (158, none), (159, none), (160, none), (162, none), (163, none), (169, none), (170, some (.int .u8)), (171, some (.int .u8)), (172, none), (173, none), (174, some (.int .i32)), (175, some (.int .i32)), (178, none)],
  vars := [(19, [0, 1, 5]), (23, [0, 1, 6, 7]), (25, [0, 3, 4]), (27, [0, 3, 4]), (28, [0, 3, 4]), (29, [0, 3, 4]), (30, [0, 3, 4]), (31, [0, 3, 4]), (32, [0, 1, 6, 7]), (34, [0, 1, 5]), (36, [0, 1, 5]), (37, [0, 1, 5]), (38, [0, 1, 5]), (39, [0, 1, 5]), (40, [0, 1, 5]), (55, [0, 3]), (56, [0, 2, 8, 9, 10, 11]), (57, [0, 3, 4]), (58, [0, 4, 5, 6, 7]), (59, [0, 1, 5]), (60, [0, 1, 5, 6]), (66, [0, 5, 6, 7]), (67, [2, 8, 9, 23, 24, 25]), (68, [3, 8, 9, 10]), (69, [4, 12, 13, 14]), (70, [0, 1, 12, 13]), (80, [0, 1, 5, 6]), (82, [0, 3, 4]), (83, [0, 1, 5, 6]), (84, [0, 3, 5]), (87, [0, 3, 7, 8, 9]), (88, [1, 5, 11, 12, 13]), (90, [0, 1, 5, 6]), (93, [3, 6, 7, 8]), (98, [0, 1, 7, 8])],
  sigs := [(89, { lend := some 0 }), (90, { io := [0] })],
  prim := fun f => bif Nat.beq f 89 then some (primSortF 85 T100 evCmp) else none,
  ptrs := [15, 16, 17, 79, 158, 160, 173],
  gives := [108] }
noncomputable def laws_FnExactArePartsTrue (k : Nat) (aO_0 : DT30) : Option Bool := run C k 3 .bool [.val T30 aO_0]
noncomputable def laws_szOrchestra (k : Nat) (a_0 : DT30) (left_1 : Int) : Option Int := run C k 5 (.int .i64) [.val T30 a_0, .val (.int .i64) left_1]
noncomputable def laws_toOrchestra (k : Nat) (a_0 : DT30) : Option DT30 := run C k 7 T30 [.val T30 a_0]
noncomputable def spec_ArePartsTrue (k : Nat) (o_0 : DT30) : Option Bool := run C k 6 .bool [.val T30 o_0]
noncomputable def impl_ArePartsTrue (k : Nat) (o_0 : DT30) : Option Bool := run C k 8 .bool [.val T30 o_0]
noncomputable def laws_eqOrchestra (k : Nat) (a_0 : DT30) (b_1 : DT30) : Option Bool := run C k 9 .bool [.val T30 a_0, .val T30 b_1]
noncomputable def laws_szEventS (k : Nat) (a_0 : (List DT100)) (left_1 : Int) : Option Int := run C k 17 (.int .i64) [.val (.list T100) a_0, .val (.int .i64) left_1]
noncomputable def laws_szTempoS (k : Nat) (a_0 : (List DT23)) (left_1 : Int) : Option Int := run C k 18 (.int .i64) [.val (.list T23) a_0, .val (.int .i64) left_1]
noncomputable def laws_szPlayerS (k : Nat) (a_0 : (List DT90)) (left_1 : Int) : Option Int := run C k 19 (.int .i64) [.val (.dlist T90) a_0, .val (.int .i64) left_1]
noncomputable def laws_szPlayerS.l0 (k m : Nat) (a_0 : (List DT90)) (left_1 : Int) (i_5 : Int) : Option Int := loopRun C k 19 (.int .i64) [0, 0] [.r, .r, .r, .l, .r, .b] [] [0, 1, 5] m ⟨[.one (.cell (.list false T90 a_0)), .one (.cell (.int .i64 left_1)), .one (.cell (.int .i64 i_5))], []⟩
noncomputable def laws_szIntS (k : Nat) (a_0 : (List Int)) (left_1 : Int) : Option Int := run C k 20 (.int .i64) [.val (.list (.int .i64)) a_0, .val (.int .i64) left_1]
noncomputable def laws_szMarkS (k : Nat) (a_0 : (List DT110)) (left_1 : Int) : Option Int := run C k 21 (.int .i64) [.val (.list T110) a_0, .val (.int .i64) left_1]
noncomputable def laws_szLetterS (k : Nat) (a_0 : (List DT23)) (left_1 : Int) : Option Int := run C k 22 (.int .i64) [.val (.list T23) a_0, .val (.int .i64) left_1]
noncomputable def laws_toEventS (k : Nat) (a_0 : (List DT100)) : Option (List DT100) := run C k 25 (.list T100) [.val (.list T100) a_0]
noncomputable def laws_toEventS.l0 (k m : Nat) (a_0 : (List DT100)) (i_4 : Int) (s0 : (List DT100)) : Option (List DT100) := loopRun C k 25 (.list T100) [0] [.r, .r, .l, .r, .b] [] [0, 3, 4] m ⟨[.one (.cell (.list false T100 a_0)), .one (.cell (.ref 1)), .one (.cell (.int .i64 i_4))], [.arr T100 s0 .open]⟩
noncomputable def laws_toMeter (k : Nat) (a_0 : DT23) : Option DT23 := run C k 26 T23 [.val T23 a_0]
noncomputable def laws_toTempoS (k : Nat) (a_0 : (List DT23)) : Option (List DT23) := run C k 27 (.list T23) [.val (.list T23) a_0]
noncomputable def laws_toTempoS.l0 (k m : Nat) (a_0 : (List DT23)) (i_4 : Int) (s0 : (List DT23)) : Option (List DT23) := loopRun C k 27 (.list T23) [0] [.r, .r, .l, .r, .b] [] [0, 3, 4] m ⟨[.one (.cell (.list false T23 a_0)), .one (.cell (.ref 1)), .one (.cell (.int .i64 i_4))], [.arr T23 s0 .open]⟩
noncomputable def laws_toPlayerS (k : Nat) (a_0 : (List DT90)) : Option (List DT90) := run C k 28 (.dlist T90) [.val (.dlist T90) a_0]
noncomputable def laws_toPlayerS.l0 (k m : Nat) (a_0 : (List DT90)) (i_4 : Int) (s0 : (List DT90)) : Option (List DT90) := loopRun C k 28 (.dlist T90) [0] [.r, .r, .l, .r, .b] [] [0, 3, 4] m ⟨[.one (.cell (.list false T90 a_0)), .one (.cell (.dref 1)), .one (.cell (.int .i64 i_4))], [.deep T90 s0 none]⟩
noncomputable def laws_toIntS (k : Nat) (a_0 : (List Int)) : Option (List Int) := run C k 29 (.list (.int .i64)) [.val (.list (.int .i64)) a_0]
noncomputable def laws_toIntS.l0 (k m : Nat) (a_0 : (List Int)) (i_4 : Int) (s0 : (List Int)) : Option (List Int) := loopRun C k 29 (.list (.int .i64)) [0] [.r, .r, .l, .r, .b] [] [0, 3, 4] m ⟨[.one (.cell (.list false (.int .i64) a_0)), .one (.cell (.ref 1)), .one (.cell (.int .i64 i_4))], [.arr (.int .i64) s0 .open]⟩
noncomputable def laws_toMarkS (k : Nat) (a_0 : (List DT110)) : Option (List DT110) := run C k 30 (.list T110) [.val (.list T110) a_0]
noncomputable def laws_toMarkS.l0 (k m : Nat) (a_0 : (List DT110)) (i_4 : Int) (s0 : (List DT110)) : Option (List DT110) := loopRun C k 30 (.list T110) [0] [.r, .r, .l, .r, .b] [] [0, 3, 4] m ⟨[.one (.cell (.list false T110 a_0)), .one (.cell (.ref 1)), .one (.cell (.int .i64 i_4))], [.arr T110 s0 .open]⟩
noncomputable def laws_toLetterS (k : Nat) (a_0 : (List DT23)) : Option (List DT23) := run C k 31 (.list T23) [.val (.list T23) a_0]
noncomputable def laws_toLetterS.l0 (k m : Nat) (a_0 : (List DT23)) (i_4 : Int) (s0 : (List DT23)) : Option (List DT23) := loopRun C k 31 (.list T23) [0] [.r, .r, .l, .r, .b] [] [0, 3, 4] m ⟨[.one (.cell (.list false T23 a_0)), .one (.cell (.ref 1)), .one (.cell (.int .i64 i_4))], [.arr T23 s0 .open]⟩
noncomputable def spec_CopyParts (k : Nat) (l_0 : (List DT100)) (voices_1 : Int) : Option ((List (List DT127)) × (Bool × Unit)) := run C k 23 (.pair (.dlist (.list T127)) (.pair .bool .unit)) [.val (.list T100) l_0, .val (.int .i64) voices_1]
noncomputable def spec_CopyParts.l0 (k m : Nat) (l_0 : (List DT100)) (voices_1 : Int) (v_7 : Int) (s0 : (List (List DT127))) : Option ((List (List DT127)) × (Bool × Unit)) := loopRun C k 23 (.pair (.dlist (.list T127)) (.pair .bool .unit)) [0, 0] [.r, .r, .r, .l, .r, .b] [] [0, 1, 6, 7] m ⟨[.one (.cell (.list false T100 l_0)), .one (.cell (.int .i64 voices_1)), .one (.cell (.dref 1)), .one (.cell (.int .i64 v_7))], [.deep (.list T127) s0 none]⟩
noncomputable def spec_PartsAgree (k : Nat) (l_0 : (List DT100)) (parts_1 : (List (List DT127))) : Option Bool := run C k 24 .bool [.val (.list T100) l_0, .val (.dlist (.list T127)) parts_1]
noncomputable def impl_CopyParts (k : Nat) (l_0 : (List DT100)) (voices_1 : Int) : Option ((List (List DT127)) × (Bool × Unit)) := run C k 32 (.pair (.dlist (.list T127)) (.pair .bool .unit)) [.val (.list T100) l_0, .val (.int .i64) voices_1]
noncomputable def impl_CopyParts.l0 (k m : Nat) (l_0 : (List DT100)) (voices_1 : Int) (voice_7 : Int) (s0 : (List (List DT127))) : Option ((List (List DT127)) × (Bool × Unit)) := loopRun C k 32 (.pair (.dlist (.list T127)) (.pair .bool .unit)) [0, 0] [.r, .r, .r, .l, .r, .b] [] [0, 1, 6, 7] m ⟨[.one (.cell (.list false T100 l_0)), .one (.cell (.int .i64 voices_1)), .one (.cell (.dref 1)), .one (.cell (.int .i64 voice_7))], [.deep (.list T127) s0 none]⟩
noncomputable def impl_PartsAgree (k : Nat) (l_0 : (List DT100)) (parts_1 : (List (List DT127))) : Option Bool := run C k 33 .bool [.val (.list T100) l_0, .val (.dlist (.list T127)) parts_1]
noncomputable def laws_eqEventS (k : Nat) (a_0 : (List DT100)) (b_1 : (List DT100)) : Option Bool := run C k 34 .bool [.val (.list T100) a_0, .val (.list T100) b_1]
noncomputable def laws_eqEventS.l0 (k m : Nat) (a_0 : (List DT100)) (b_1 : (List DT100)) (i_5 : Int) : Option Bool := loopRun C k 34 .bool [0, 0] [.r, .r, .l, .r, .b] [] [0, 1, 5] m ⟨[.one (.cell (.list false T100 a_0)), .one (.cell (.list false T100 b_1)), .one (.cell (.int .i64 i_5))], []⟩
noncomputable def laws_eqMeter (k : Nat) (a_0 : DT23) (b_1 : DT23) : Option Bool := run C k 35 .bool [.val T23 a_0, .val T23 b_1]
noncomputable def laws_eqTempoS (k : Nat) (a_0 : (List DT23)) (b_1 : (List DT23)) : Option Bool := run C k 36 .bool [.val (.list T23) a_0, .val (.list T23) b_1]
noncomputable def laws_eqTempoS.l0 (k m : Nat) (a_0 : (List DT23)) (b_1 : (List DT23)) (i_5 : Int) : Option Bool := loopRun C k 36 .bool [0, 0] [.r, .r, .l, .r, .b] [] [0, 1, 5] m ⟨[.one (.cell (.list false T23 a_0)), .one (.cell (.list false T23 b_1)), .one (.cell (.int .i64 i_5))], []⟩
noncomputable def laws_eqPlayerS (k : Nat) (a_0 : (List DT90)) (b_1 : (List DT90)) : Option Bool := run C k 37 .bool [.val (.dlist T90) a_0, .val (.dlist T90) b_1]
noncomputable def laws_eqPlayerS.l0 (k m : Nat) (a_0 : (List DT90)) (b_1 : (List DT90)) (i_5 : Int) : Option Bool := loopRun C k 37 .bool [0, 0] [.r, .r, .l, .r, .b] [] [0, 1, 5] m ⟨[.one (.cell (.list false T90 a_0)), .one (.cell (.list false T90 b_1)), .one (.cell (.int .i64 i_5))], []⟩
noncomputable def laws_eqIntS (k : Nat) (a_0 : (List Int)) (b_1 : (List Int)) : Option Bool := run C k 38 .bool [.val (.list (.int .i64)) a_0, .val (.list (.int .i64)) b_1]
noncomputable def laws_eqIntS.l0 (k m : Nat) (a_0 : (List Int)) (b_1 : (List Int)) (i_5 : Int) : Option Bool := loopRun C k 38 .bool [0, 0] [.r, .r, .l, .r, .b] [] [0, 1, 5] m ⟨[.one (.cell (.list false (.int .i64) a_0)), .one (.cell (.list false (.int .i64) b_1)), .one (.cell (.int .i64 i_5))], []⟩
noncomputable def laws_eqMarkS (k : Nat) (a_0 : (List DT110)) (b_1 : (List DT110)) : Option Bool := run C k 39 .bool [.val (.list T110) a_0, .val (.list T110) b_1]
noncomputable def laws_eqMarkS.l0 (k m : Nat) (a_0 : (List DT110)) (b_1 : (List DT110)) (i_5 : Int) : Option Bool := loopRun C k 39 .bool [0, 0] [.r, .r, .l, .r, .b] [] [0, 1, 5] m ⟨[.one (.cell (.list false T110 a_0)), .one (.cell (.list false T110 b_1)), .one (.cell (.int .i64 i_5))], []⟩
noncomputable def laws_eqLetterS (k : Nat) (a_0 : (List DT23)) (b_1 : (List DT23)) : Option Bool := run C k 40 .bool [.val (.list T23) a_0, .val (.list T23) b_1]
noncomputable def laws_eqLetterS.l0 (k m : Nat) (a_0 : (List DT23)) (b_1 : (List DT23)) (i_5 : Int) : Option Bool := loopRun C k 40 .bool [0, 0] [.r, .r, .l, .r, .b] [] [0, 1, 5] m ⟨[.one (.cell (.list false T23 a_0)), .one (.cell (.list false T23 b_1)), .one (.cell (.int .i64 i_5))], []⟩
noncomputable def laws_szPlayer (k : Nat) (a_0 : DT90) (left_1 : Int) : Option Int := run C k 54 (.int .i64) [.val T90 a_0, .val (.int .i64) left_1]
noncomputable def laws_toEvent (k : Nat) (a_0 : DT100) : Option DT100 := run C k 61 T100 [.val T100 a_0]
noncomputable def laws_toTempo (k : Nat) (a_0 : DT23) : Option DT23 := run C k 62 T23 [.val T23 a_0]
noncomputable def laws_toPlayer (k : Nat) (a_0 : DT90) : Option DT90 := run C k 63 T90 [.val T90 a_0]
noncomputable def laws_toMark (k : Nat) (a_0 : DT110) : Option DT110 := run C k 64 T110 [.val T110 a_0]
noncomputable def laws_toLetter (k : Nat) (a_0 : DT23) : Option DT23 := run C k 65 T23 [.val T23 a_0]
noncomputable def spec_IsScore (k : Nat) (l_0 : (List DT100)) : Option Bool := run C k 55 .bool [.val (.list T100) l_0]
noncomputable def spec_IsScore.l0 (k m : Nat) (l_0 : (List DT100)) (i_3 : Int) : Option Bool := loopRun C k 55 .bool [0] [.r, .l, .r, .b] [] [0, 3] m ⟨[.one (.cell (.list false T100 l_0)), .one (.cell (.int .i64 i_3))], []⟩
noncomputable def spec_l1In (k : Nat) (x_0 : Int) (least_1 : Int) (most_2 : Int) : Option Bool := run C k 50 .bool [.val (.int .i64) x_0, .val (.int .i64) least_1, .val (.int .i64) most_2]
noncomputable def spec_EndOf (k : Nat) (l_0 : (List DT100)) : Option Int := run C k 57 (.int .i64) [.val (.list T100) l_0]
noncomputable def spec_EndOf.l0 (k m : Nat) (l_0 : (List DT100)) (n_3 : Int) (i_4 : Int) : Option Int := loopRun C k 57 (.int .i64) [0] [.r, .r, .l, .r, .b] [] [0, 3, 4] m ⟨[.one (.cell (.list false T100 l_0)), .one (.cell (.int .i64 n_3)), .one (.cell (.int .i64 i_4))], []⟩
noncomputable def spec_PartFrom (k : Nat) (l_0 : (List DT100)) (voice_1 : Int) (end_2 : Int) : Option ((List DT127) × (Bool × Unit)) := run C k 56 (.pair (.list T127) (.pair .bool .unit)) [.val (.list T100) l_0, .val (.int .i64) voice_1, .val (.int .i64) end_2]
noncomputable def spec_PartFrom.l0 (k m : Nat) (l_0 : (List DT100)) (end_2 : Int) (at_10 : Int) (i_11 : Int) (s0 : (List DT127)) (s1 : (List DT100)) : Option ((List DT127) × (Bool × Unit)) := loopRun C k 56 (.pair (.list T127) (.pair .bool .unit)) [0, 0, 0] [.r, .r, .r, .r, .l, .r, .b] [] [0, 2, 8, 9, 10, 11] m ⟨[.one (.cell (.list false T100 l_0)), .one (.cell (.int .i64 end_2)), .one (.cell (.ref 1)), .one (.cell (.ref 5)), .one (.cell (.int .i64 at_10)), .one (.cell (.int .i64 i_11))], [.arr T127 s0 .open, .arr T100 s1 .open]⟩
noncomputable def spec_JoinParts (k : Nat) (parts_0 : (List (List DT127))) : Option ((List DT100) × (Bool × Unit)) := run C k 58 (.pair (.list T100) (.pair .bool .unit)) [.val (.dlist (.list T127)) parts_0]
noncomputable def spec_JoinParts.l0 (k m : Nat) (parts_0 : (List (List DT127))) (i_5 : Int) (s0 : (List DT100)) : Option ((List DT100) × (Bool × Unit)) := loopRun C k 58 (.pair (.list T100) (.pair .bool .unit)) [0] [.r, .r, .r, .l, .r, .b] [] [0, 4, 5] m ⟨[.one (.cell (.list false (.list T127) parts_0)), .one (.cell (.ref 1)), .one (.cell (.int .i64 i_5))], [.arr T100 s0 .open]⟩
noncomputable def spec_JoinParts.l1 (k m m1 : Nat) (parts_0 : (List (List DT127))) (i_5 : Int) (k_7 : Int) (s0 : (List DT100)) (s1 : (List DT100)) : Option ((List DT100) × (Bool × Unit)) := loopRun C k 58 (.pair (.list T100) (.pair .bool .unit)) [0] [.r, .r, .r, .l, .r, .b, .p, .r, .l, .b, .r, .r, .r, .b] [⟨[0, 4, 5], m1⟩] [0, 4, 5, 6, 7] m ⟨[.one (.cell (.list false (.list T127) parts_0)), .one (.cell (.ref 1)), .one (.cell (.int .i64 i_5)), .one (.cell (.ref 5)), .one (.cell (.int .i64 k_7))], [.arr T100 s0 .open, .arr T100 s1 .open]⟩
noncomputable def spec_l28Some (k : Nat) (l_0 : (List DT100)) (voices_1 : Int) : Option (List DT100) := run C k 60 (.list T100) [.val (.list T100) l_0, .val (.int .i64) voices_1]
noncomputable def spec_l28Some.l0 (k m : Nat) (l_0 : (List DT100)) (voices_1 : Int) (i_6 : Int) (s0 : (List DT100)) : Option (List DT100) := loopRun C k 60 (.list T100) [0, 0] [.r, .r, .l, .r, .b] [] [0, 1, 5, 6] m ⟨[.one (.cell (.list false T100 l_0)), .one (.cell (.int .i64 voices_1)), .one (.cell (.ref 1)), .one (.cell (.int .i64 i_6))], [.arr T100 s0 .open]⟩
noncomputable def spec_EqualScores (k : Nat) (a_0 : (List DT100)) (b_1 : (List DT100)) : Option Bool := run C k 59 .bool [.val (.list T100) a_0, .val (.list T100) b_1]
noncomputable def spec_EqualScores.l0 (k m : Nat) (a_0 : (List DT100)) (b_1 : (List DT100)) (i_5 : Int) : Option Bool := loopRun C k 59 .bool [0, 0] [.r, .r, .l, .r, .b] [] [0, 1, 5] m ⟨[.one (.cell (.list false T100 a_0)), .one (.cell (.list false T100 b_1)), .one (.cell (.int .i64 i_5))], []⟩
noncomputable def impl_IsScore (k : Nat) (l_0 : (List DT100)) : Option Bool := run C k 66 .bool [.val (.list T100) l_0]
noncomputable def impl_IsScore.l0 (k m : Nat) (l_0 : (List DT100)) (t_5 : (List DT100)) (t_6 : Int) (t_7 : Int) : Option Bool := loopRun C k 66 .bool [0] [.r, .l, .r, .b] [] [0, 5, 6, 7] m ⟨[.one (.cell (.list false T100 l_0)), .one (.cell (.list false T100 t_5)), .one (.cell (.int .i64 t_6)), .one (.cell (.int .i64 t_7))], []⟩
noncomputable def impl_InRange (k : Nat) (n_0 : Int) (low_1 : Int) (high_2 : Int) : Option Bool := run C k 47 .bool [.val (.int .i64) n_0, .val (.int .i64) low_1, .val (.int .i64) high_2]
noncomputable def impl_EndOf (k : Nat) (l_0 : (List DT100)) : Option Int := run C k 68 (.int .i64) [.val (.list T100) l_0]
noncomputable def impl_EndOf.l0 (k m : Nat) (end_3 : Int) (t_8 : (List DT100)) (t_9 : Int) (t_10 : Int) : Option Int := loopRun C k 68 (.int .i64) [0] [.r, .r, .l, .r, .t, .r, .b] [] [3, 8, 9, 10] m ⟨[.one (.cell (.int .i64 end_3)), .one (.cell (.list false T100 t_8)), .one (.cell (.int .i64 t_9)), .one (.cell (.int .i64 t_10))], []⟩
noncomputable def impl_PartFrom (k : Nat) (l_0 : (List DT100)) (voice_1 : Int) (end_2 : Int) : Option ((List DT127) × (Bool × Unit)) := run C k 67 (.pair (.list T127) (.pair .bool .unit)) [.val (.list T100) l_0, .val (.int .i64) voice_1, .val (.int .i64) end_2]
noncomputable def impl_PartFrom.l0 (k m : Nat) (end_2 : Int) (at_9 : Int) (t_24 : Int) (t_25 : Int) (s0 : (List DT127)) (s1 : (List DT100)) : Option ((List DT127) × (Bool × Unit)) := loopRun C k 67 (.pair (.list T127) (.pair .bool .unit)) [0, 0, 0] [.r, .r, .r, .l, .r, .b] [] [2, 8, 9, 23, 24, 25] m ⟨[.one (.cell (.int .i64 end_2)), .one (.cell (.ref 1)), .one (.cell (.int .i64 at_9)), .one (.cell (.ref 5)), .one (.cell (.int .i64 t_24)), .one (.cell (.int .i64 t_25))], [.arr T127 s0 .open, .arr T100 s1 .open]⟩
noncomputable def impl_JoinParts (k : Nat) (parts_0 : (List (List DT127))) : Option ((List DT100) × (Bool × Unit)) := run C k 69 (.pair (.list T100) (.pair .bool .unit)) [.val (.dlist (.list T127)) parts_0]
noncomputable def impl_JoinParts.l0 (k m : Nat) (t_12 : (List (List DT127))) (t_13 : Int) (t_14 : Int) (s0 : (List DT100)) : Option ((List DT100) × (Bool × Unit)) := loopRun C k 69 (.pair (.list T100) (.pair .bool .unit)) [0] [.r, .r, .r, .l, .r, .b] [] [4, 12, 13, 14] m ⟨[.one (.cell (.ref 1)), .one (.cell (.list false (.list T127) t_12)), .one (.cell (.int .i64 t_13)), .one (.cell (.int .i64 t_14))], [.arr T100 s0 .open]⟩
noncomputable def impl_upTo (k : Nat) (l_0 : (List DT100)) (voices_1 : Int) : Option (List DT100) := run C k 71 (.list T100) [.val (.list T100) l_0, .val (.int .i64) voices_1]
noncomputable def slices_Equal_impl_Event (k : Nat) (s1_0 : (List DT100)) (s2_1 : (List DT100)) : Option Bool := run C k 70 .bool [.val (.list T100) s1_0, .val (.list T100) s2_1]
noncomputable def slices_Equal_impl_Event.l0 (k m : Nat) (s1_0 : (List DT100)) (s2_1 : (List DT100)) (t_12 : Int) (t_13 : Int) : Option Bool := loopRun C k 70 .bool [0, 0] [.r, .r, .l, .r, .b] [] [0, 1, 12, 13] m ⟨[.one (.cell (.list false T100 s1_0)), .one (.cell (.list false T100 s2_1)), .one (.cell (.int .i64 t_12)), .one (.cell (.int .i64 t_13))], []⟩
noncomputable def laws_eqEvent (k : Nat) (a_0 : DT100) (b_1 : DT100) : Option Bool := run C k 72 .bool [.val T100 a_0, .val T100 b_1]
noncomputable def laws_eqTempo (k : Nat) (a_0 : DT23) (b_1 : DT23) : Option Bool := run C k 73 .bool [.val T23 a_0, .val T23 b_1]
noncomputable def laws_eqPlayer (k : Nat) (a_0 : DT90) (b_1 : DT90) : Option Bool := run C k 74 .bool [.val T90 a_0, .val T90 b_1]
noncomputable def laws_eqMark (k : Nat) (a_0 : DT110) (b_1 : DT110) : Option Bool := run C k 75 .bool [.val T110 a_0, .val T110 b_1]
noncomputable def laws_eqLetter (k : Nat) (a_0 : DT23) (b_1 : DT23) : Option Bool := run C k 76 .bool [.val T23 a_0, .val T23 b_1]
noncomputable def spec_l8Ok (k : Nat) (e_0 : DT100) : Option Bool := run C k 78 .bool [.val T100 e_0]
noncomputable def spec_l8Before (k : Nat) (a_0 : DT100) (b_1 : DT100) : Option Bool := run C k 79 .bool [.val T100 a_0, .val T100 b_1]
noncomputable def spec_Max (k : Nat) (a_0 : Int) (b_1 : Int) : Option Int := run C k 81 (.int .i64) [.val (.int .i64) a_0, .val (.int .i64) b_1]
noncomputable def spec_VoiceOf (k : Nat) (l_0 : (List DT100)) (voice_1 : Int) : Option (List DT100) := run C k 80 (.list T100) [.val (.list T100) l_0, .val (.int .i64) voice_1]
noncomputable def spec_VoiceOf.l0 (k m : Nat) (l_0 : (List DT100)) (voice_1 : Int) (i_6 : Int) (s0 : (List DT100)) : Option (List DT100) := loopRun C k 80 (.list T100) [0, 0] [.r, .r, .l, .r, .b] [] [0, 1, 5, 6] m ⟨[.one (.cell (.list false T100 l_0)), .one (.cell (.int .i64 voice_1)), .one (.cell (.ref 1)), .one (.cell (.int .i64 i_6))], [.arr T100 s0 .open]⟩
noncomputable def spec_IsPart (k : Nat) (p_0 : (List DT127)) : Option Bool := run C k 82 .bool [.val (.list T127) p_0]
noncomputable def spec_IsPart.l0 (k m : Nat) (p_0 : (List DT127)) (at_3 : Int) (i_4 : Int) : Option Bool := loopRun C k 82 .bool [0] [.r, .r, .l, .r, .b] [] [0, 3, 4] m ⟨[.one (.cell (.list false T127 p_0)), .one (.cell (.int .i64 at_3)), .one (.cell (.int .i64 i_4))], []⟩
noncomputable def spec_EventsOf (k : Nat) (p_0 : (List DT127)) (voice_1 : Int) : Option (List DT100) := run C k 83 (.list T100) [.val (.list T127) p_0, .val (.int .i64) voice_1]
noncomputable def spec_EventsOf.l0 (k m : Nat) (p_0 : (List DT127)) (voice_1 : Int) (i_6 : Int) (s0 : (List DT100)) : Option (List DT100) := loopRun C k 83 (.list T100) [0, 0] [.r, .r, .l, .r, .b] [] [0, 1, 5, 6] m ⟨[.one (.cell (.list false T127 p_0)), .one (.cell (.int .i64 voice_1)), .one (.cell (.ref 1)), .one (.cell (.int .i64 i_6))], [.arr T100 s0 .open]⟩
noncomputable def spec_l8Put (k : Nat) (l_0 : (List DT100)) (e_1 : DT100) : Option (List DT100) := run C k 84 (.list T100) [.val (.list T100) l_0, .val T100 e_1]
noncomputable def spec_l8Put.l0 (k m : Nat) (l_0 : (List DT100)) (k_5 : Int) (b0_0 : Int) (b0_1 : Int) (b0_2 : Int) (b0_3 : Int) : Option (List DT100) := loopRun C k 84 (.list T100) [0, 0] [.r, .r, .l, .b] [] [0, 3, 5] m ⟨[.one (.cell (.list false T100 l_0)), .one (.cell (.ptr 1 0)), .one (.cell (.int .i64 k_5))], [.box (some T100) [.int .i64 b0_0, .int .i64 b0_1, .int .i64 b0_2, .int .i64 b0_3]]⟩
noncomputable def impl_eventOrder (k : Nat) (a_0 : DT100) (b_1 : DT100) : Option Int := run C k 85 (.int .i64) [.val T100 a_0, .val T100 b_1]
noncomputable def impl_VoiceOf (k : Nat) (l_0 : (List DT100)) (voice_1 : Int) : Option (List DT100) := run C k 86 (.list T100) [.val (.list T100) l_0, .val (.int .i64) voice_1]
noncomputable def impl_IsPart (k : Nat) (p_0 : (List DT127)) : Option Bool := run C k 87 .bool [.val (.list T127) p_0]
noncomputable def impl_IsPart.l0 (k m : Nat) (p_0 : (List DT127)) (at_3 : Int) (t_7 : (List DT127)) (t_8 : Int) (t_9 : Int) : Option Bool := loopRun C k 87 .bool [0] [.r, .r, .l, .r, .b] [] [0, 3, 7, 8, 9] m ⟨[.one (.cell (.list false T127 p_0)), .one (.cell (.int .i64 at_3)), .one (.cell (.list false T127 t_7)), .one (.cell (.int .i64 t_8)), .one (.cell (.int .i64 t_9))], []⟩
noncomputable def impl_EventsOf (k : Nat) (p_0 : (List DT127)) (voice_1 : Int) : Option (List DT100) := run C k 88 (.list T100) [.val (.list T127) p_0, .val (.int .i64) voice_1]
noncomputable def impl_EventsOf.l0 (k m : Nat) (voice_1 : Int) (t_11 : (List DT127)) (t_12 : Int) (t_13 : Int) (s0 : (List DT100)) : Option (List DT100) := loopRun C k 88 (.list T100) [0, 0] [.r, .r, .l, .r, .t, .r, .b] [] [1, 5, 11, 12, 13] m ⟨[.one (.cell (.int .i64 voice_1)), .one (.cell (.ref 1)), .one (.cell (.list false T127 t_11)), .one (.cell (.int .i64 t_12)), .one (.cell (.int .i64 t_13))], [.arr T100 s0 .open]⟩
noncomputable def slices_SortFunc_impl_Event_85 (k : Nat) (x_0 : (List DT100)) : Option (Unit × (List DT100)) := run C k 89 (.pair .unit (.list T100)) [.lend (.list T100) x_0, .clo 85 []]
noncomputable def impl_clone_impl_Event (k : Nat) (l_0 : (List DT100)) : Option (List DT100) := run C k 91 (.list T100) [.val (.list T100) l_0]
noncomputable def slices_DeleteFunc_impl_Event_92 (k : Nat) (s_0 : (List DT100)) (c1_0 : Int) : Option (List DT100) := run C k 90 (.list T100) [.give (.list T100) s_0, .clo 92 [.ro (.int .i64) c1_0]]
noncomputable def slices_DeleteFunc_impl_Event_92.l0 (k m : Nat) (del_1_c : Int) (i_5 : Int) (j_6 : Int) (s0 : (List DT100)) : Option (List DT100) := loopRun C k 90 (.list T100) [0, 0] [.r, .r, .r, .l, .r, .b] [] [0, 1, 5, 6] m ⟨[.one (.cell (.ref 1)), .one (.cell (.clo 92 [.ro (.int .i64) del_1_c])), .one (.cell (.int .i64 i_5)), .one (.cell (.int .i64 j_6))], [.arr T100 s0 .open]⟩
noncomputable def cmp_Compare_int (k : Nat) (x_0 : Int) (y_1 : Int) : Option Int := run C k 94 (.int .i64) [.val (.int .i64) x_0, .val (.int .i64) y_1]
noncomputable def cmp_Or_int (k : Nat) (vals_0 : (List Int)) : Option Int := run C k 93 (.int .i64) [.val (.list (.int .i64)) vals_0]
noncomputable def cmp_Or_int.l0 (k m : Nat) (zero_3 : Int) (t_6 : (List Int)) (t_7 : Int) (t_8 : Int) : Option Int := loopRun C k 93 (.int .i64) [0] [.r, .r, .l, .r, .b] [] [3, 6, 7, 8] m ⟨[.one (.cell (.int .i64 zero_3)), .one (.cell (.list false (.int .i64) t_6)), .one (.cell (.int .i64 t_7)), .one (.cell (.int .i64 t_8))], []⟩
noncomputable def slices_DeleteFunc_impl_Event_95 (k : Nat) (s_0 : (List DT100)) (c1_0 : Int) : Option (List DT100) := run C k 90 (.list T100) [.give (.list T100) s_0, .clo 95 [.ro (.int .i64) c1_0]]
noncomputable def slices_DeleteFunc_impl_Event_95.l0 (k m : Nat) (del_1_c : Int) (i_5 : Int) (j_6 : Int) (s0 : (List DT100)) : Option (List DT100) := loopRun C k 90 (.list T100) [0, 0] [.r, .r, .r, .l, .r, .b] [] [0, 1, 5, 6] m ⟨[.one (.cell (.ref 1)), .one (.cell (.clo 95 [.ro (.int .i64) del_1_c])), .one (.cell (.int .i64 i_5)), .one (.cell (.int .i64 j_6))], [.arr T100 s0 .open]⟩
noncomputable def slices_IndexFunc_impl_Event_92 (k : Nat) (s_0 : (List DT100)) (c1_0 : Int) : Option Int := run C k 98 (.int .i64) [.val (.list T100) s_0, .clo 92 [.ro (.int .i64) c1_0]]
noncomputable def slices_IndexFunc_impl_Event_92.l0 (k m : Nat) (s_0 : (List DT100)) (f_1_c : Int) (t_7 : Int) (t_8 : Int) : Option Int := loopRun C k 98 (.int .i64) [0, 0] [.r, .l, .r, .b] [] [0, 1, 7, 8] m ⟨[.one (.cell (.list false T100 s_0)), .one (.cell (.clo 92 [.ro (.int .i64) f_1_c])), .one (.cell (.int .i64 t_7)), .one (.cell (.int .i64 t_8))], []⟩
noncomputable def impl_upTo_1 (k : Nat) (e_0 : DT100) (a_1 : Int) : Option Bool := run C k 92 .bool [.val T100 e_0, .rp (.int .i64) a_1]
noncomputable def cmp_isNaN_int (k : Nat) (x_0 : Int) : Option Bool := run C k 99 .bool [.val (.int .i64) x_0]
noncomputable def slices_IndexFunc_impl_Event_95 (k : Nat) (s_0 : (List DT100)) (c1_0 : Int) : Option Int := run C k 98 (.int .i64) [.val (.list T100) s_0, .clo 95 [.ro (.int .i64) c1_0]]
noncomputable def slices_IndexFunc_impl_Event_95.l0 (k m : Nat) (s_0 : (List DT100)) (f_1_c : Int) (t_7 : Int) (t_8 : Int) : Option Int := loopRun C k 98 (.int .i64) [0, 0] [.r, .l, .r, .b] [] [0, 1, 7, 8] m ⟨[.one (.cell (.list false T100 s_0)), .one (.cell (.clo 95 [.ro (.int .i64) f_1_c])), .one (.cell (.int .i64 t_7)), .one (.cell (.int .i64 t_8))], []⟩
noncomputable def impl_VoiceOf_1 (k : Nat) (e_0 : DT100) (a_1 : Int) : Option Bool := run C k 95 .bool [.val T100 e_0, .rp (.int .i64) a_1]
theorem laws_FnExactArePartsTrue_eq (k : Nat) (aO_0 : DT30) : laws_FnExactArePartsTrue (k + 1) aO_0 =
 (laws_szOrchestra k aO_0 1048576).bind fun r1 =>
 if (r1 : Int) < 0 then
 some true
 else (laws_toOrchestra k aO_0).bind fun r2 =>
 (spec_ArePartsTrue k r2).bind fun r3 =>
 (laws_toOrchestra k aO_0).bind fun r4 =>
 (impl_ArePartsTrue k r4).bind fun r5 =>
 if ¬ ((decide (r5 = true)) = (decide (r3 = true))) then
 some false
 else (laws_toOrchestra k aO_0).bind fun r6 =>
 (laws_eqOrchestra k r4 r6).bind fun r7 =>
 if ¬ (r7 = true) then
 some false
 else some true := by kernel_rfl
theorem laws_szOrchestra_eq (k : Nat) (a_0 : DT30) (left_1 : Int) : laws_szOrchestra (k + 1) a_0 left_1 =
 (laws_szEventS k a_0.1 left_1).bind fun r1 =>
 if (r1 : Int) < 0 then
 some (-1)
 else (laws_szTempoS k a_0.2.2.1 r1).bind fun r2 =>
 if (r2 : Int) < 0 then
 some (-1)
 else (laws_szPlayerS k a_0.2.2.2.1 r2).bind fun r3 =>
 if (r3 : Int) < 0 then
 some (-1)
 else (laws_szIntS k a_0.2.2.2.2.1 r3).bind fun r4 =>
 if (r4 : Int) < 0 then
 some (-1)
 else (laws_szMarkS k a_0.2.2.2.2.2.1 r4).bind fun r5 =>
 if (r5 : Int) < 0 then
 some (-1)
 else (laws_szLetterS k a_0.2.2.2.2.2.2.1 r5).bind fun r6 =>
 if (r6 : Int) < 0 then
 some (-1)
 else some r6 := by kernel_rfl
theorem laws_toOrchestra_eq (k : Nat) (a_0 : DT30) : laws_toOrchestra (k + 1) a_0 =
 (laws_toEventS k a_0.1).bind fun r1 =>
 (laws_toMeter k a_0.2.1).bind fun r2 =>
 (laws_toTempoS k a_0.2.2.1).bind fun r3 =>
 (laws_toPlayerS k a_0.2.2.2.1).bind fun r4 =>
 (laws_toIntS k a_0.2.2.2.2.1).bind fun r5 =>
 (laws_toMarkS k a_0.2.2.2.2.2.1).bind fun r6 =>
 (laws_toLetterS k a_0.2.2.2.2.2.2.1).bind fun r7 =>
 some (r1, (r2, (r3, (r4, (r5, (r6, (r7, a_0.2.2.2.2.2.2.2))))))) := by kernel_rfl
theorem spec_ArePartsTrue_eq (k : Nat) (o_0 : DT30) : spec_ArePartsTrue (k + 1) o_0 =
 if (((List.length o_0.2.2.2.2.1 : Nat) : Int) : Int) = 0 then
 some true
 else (spec_CopyParts k o_0.1 ((List.length o_0.2.2.2.2.1 : Nat) : Int)).bind fun r1 =>
 if r1.2.1 = true then
 (spec_PartsAgree k o_0.1 r1.1).bind fun r2 =>
 some (decide (r2 = true))
 else some false := by kernel_rfl
theorem impl_ArePartsTrue_eq (k : Nat) (o_0 : DT30) : impl_ArePartsTrue (k + 1) o_0 =
 if (((List.length o_0.2.2.2.2.1 : Nat) : Int) : Int) = 0 then
 some true
 else (impl_CopyParts k o_0.1 ((List.length o_0.2.2.2.2.1 : Nat) : Int)).bind fun r1 =>
 if r1.2.1 = true then
 (impl_PartsAgree k o_0.1 r1.1).bind fun r2 =>
 some (decide (r2 = true))
 else some false := by kernel_rfl
theorem laws_eqOrchestra_eq (k : Nat) (a_0 : DT30) (b_1 : DT30) : laws_eqOrchestra (k + 1) a_0 b_1 =
 (laws_eqEventS k a_0.1 b_1.1).bind fun r1 =>
 if ¬ (r1 = true) then
 some false
 else (laws_eqMeter k a_0.2.1 b_1.2.1).bind fun r2 =>
 if ¬ (r2 = true) then
 some false
 else (laws_eqTempoS k a_0.2.2.1 b_1.2.2.1).bind fun r3 =>
 if ¬ (r3 = true) then
 some false
 else (laws_eqPlayerS k a_0.2.2.2.1 b_1.2.2.2.1).bind fun r4 =>
 if ¬ (r4 = true) then
 some false
 else (laws_eqIntS k a_0.2.2.2.2.1 b_1.2.2.2.2.1).bind fun r5 =>
 if ¬ (r5 = true) then
 some false
 else (laws_eqMarkS k a_0.2.2.2.2.2.1 b_1.2.2.2.2.2.1).bind fun r6 =>
 if ¬ (r6 = true) then
 some false
 else (laws_eqLetterS k a_0.2.2.2.2.2.2.1 b_1.2.2.2.2.2.2.1).bind fun r7 =>
 if ¬ (r7 = true) then
 some false
 else if (a_0.2.2.2.2.2.2.2.1 : Int) ≠ b_1.2.2.2.2.2.2.2.1 then
 some false
 else if (a_0.2.2.2.2.2.2.2.2.1 : Int) ≠ b_1.2.2.2.2.2.2.2.2.1 then
 some false
 else some true := by kernel_rfl
theorem laws_szEventS_eq (k : Nat) (a_0 : (List DT100)) (left_1 : Int) : laws_szEventS (k + 1) a_0 left_1 =
 if ((IntKind.wrap .i64 (left_1 - ((List.length a_0 : Nat) : Int))) : Int) < 0 then
 some (-1)
 else some (IntKind.wrap .i64 (left_1 - ((List.length a_0 : Nat) : Int))) := by kernel_rfl
theorem laws_szTempoS_eq (k : Nat) (a_0 : (List DT23)) (left_1 : Int) : laws_szTempoS (k + 1) a_0 left_1 =
 if ((IntKind.wrap .i64 (left_1 - ((List.length a_0 : Nat) : Int))) : Int) < 0 then
 some (-1)
 else some (IntKind.wrap .i64 (left_1 - ((List.length a_0 : Nat) : Int))) := by kernel_rfl
theorem laws_szPlayerS_eq (k : Nat) (a_0 : (List DT90)) (left_1 : Int) : laws_szPlayerS (k + 1) a_0 left_1 =
 if ((IntKind.wrap .i64 (left_1 - ((List.length a_0 : Nat) : Int))) : Int) < 0 then
 some (-1)
 else laws_szPlayerS.l0 k k a_0 (IntKind.wrap .i64 (left_1 - ((List.length a_0 : Nat) : Int))) 0 := by kernel_rfl
theorem laws_szPlayerS.l0_eq (k m : Nat) (a_0 : (List DT90)) (left_1 : Int) (i_5 : Int) : laws_szPlayerS.l0 k (m + 1) a_0 left_1 i_5 =
 if (i_5 : Int) < ((List.length a_0 : Nat) : Int) then
 if 0 ≤ i_5 then
 if i_5 < ((List.length a_0 : Nat) : Int) then
 (laws_szPlayer k (rd T90 a_0 i_5) left_1).bind fun r1 =>
 if (r1 : Int) < 0 then
 some (-1)
 else laws_szPlayerS.l0 k m a_0 r1 (IntKind.wrap .i64 (i_5 + 1)) else none else none
 else some left_1 := by kernel_rfl
theorem laws_szIntS_eq (k : Nat) (a_0 : (List Int)) (left_1 : Int) : laws_szIntS (k + 1) a_0 left_1 =
 if ((IntKind.wrap .i64 (left_1 - ((List.length a_0 : Nat) : Int))) : Int) < 0 then
 some (-1)
 else some (IntKind.wrap .i64 (left_1 - ((List.length a_0 : Nat) : Int))) := by kernel_rfl
theorem laws_szMarkS_eq (k : Nat) (a_0 : (List DT110)) (left_1 : Int) : laws_szMarkS (k + 1) a_0 left_1 =
 if ((IntKind.wrap .i64 (left_1 - ((List.length a_0 : Nat) : Int))) : Int) < 0 then
 some (-1)
 else some (IntKind.wrap .i64 (left_1 - ((List.length a_0 : Nat) : Int))) := by kernel_rfl
theorem laws_szLetterS_eq (k : Nat) (a_0 : (List DT23)) (left_1 : Int) : laws_szLetterS (k + 1) a_0 left_1 =
 if ((IntKind.wrap .i64 (left_1 - ((List.length a_0 : Nat) : Int))) : Int) < 0 then
 some (-1)
 else some (IntKind.wrap .i64 (left_1 - ((List.length a_0 : Nat) : Int))) := by kernel_rfl
theorem laws_toEventS_eq (k : Nat) (a_0 : (List DT100)) : laws_toEventS (k + 1) a_0 =
 if 0 ≤ ((List.length a_0 : Nat) : Int) then
 if ((List.length a_0 : Nat) : Int) ≤ ((List.length a_0 : Nat) : Int) then
 if ((List.length a_0 : Nat) : Int) * 32 ≤ 211106232532992 then
 laws_toEventS.l0 k k a_0 0 (List.replicate (Int.toNat ((List.length a_0 : Nat) : Int)) (Ty.dflt T100)) else none else none else none := by kernel_rfl
theorem laws_toEventS.l0_eq (k m : Nat) (a_0 : (List DT100)) (i_4 : Int) (s0 : (List DT100)) : laws_toEventS.l0 k (m + 1) a_0 i_4 s0 =
 if (i_4 : Int) < ((List.length a_0 : Nat) : Int) then
 if 0 ≤ i_4 then
 if i_4 < ((List.length a_0 : Nat) : Int) then
 (laws_toEvent k (rd T100 a_0 i_4)).bind fun r1 =>
 if 0 ≤ i_4 then
 if i_4 < ((List.length s0 : Nat) : Int) then
 laws_toEventS.l0 k m a_0 (IntKind.wrap .i64 (i_4 + 1)) (List.set s0 (Int.toNat i_4) r1) else none else none else none else none
 else some s0 := by kernel_rfl
theorem laws_toMeter_eq (k : Nat) (a_0 : DT23) : laws_toMeter (k + 1) a_0 =
 some a_0 := by kernel_rfl
theorem laws_toTempoS_eq (k : Nat) (a_0 : (List DT23)) : laws_toTempoS (k + 1) a_0 =
 if 0 ≤ ((List.length a_0 : Nat) : Int) then
 if ((List.length a_0 : Nat) : Int) ≤ ((List.length a_0 : Nat) : Int) then
 if ((List.length a_0 : Nat) : Int) * 16 ≤ 211106232532992 then
 laws_toTempoS.l0 k k a_0 0 (List.replicate (Int.toNat ((List.length a_0 : Nat) : Int)) (Ty.dflt T23)) else none else none else none := by kernel_rfl
theorem laws_toTempoS.l0_eq (k m : Nat) (a_0 : (List DT23)) (i_4 : Int) (s0 : (List DT23)) : laws_toTempoS.l0 k (m + 1) a_0 i_4 s0 =
 if (i_4 : Int) < ((List.length a_0 : Nat) : Int) then
 if 0 ≤ i_4 then
 if i_4 < ((List.length a_0 : Nat) : Int) then
 (laws_toTempo k (rd T23 a_0 i_4)).bind fun r1 =>
 if 0 ≤ i_4 then
 if i_4 < ((List.length s0 : Nat) : Int) then
 laws_toTempoS.l0 k m a_0 (IntKind.wrap .i64 (i_4 + 1)) (List.set s0 (Int.toNat i_4) r1) else none else none else none else none
 else some s0 := by kernel_rfl
theorem laws_toPlayerS_eq (k : Nat) (a_0 : (List DT90)) : laws_toPlayerS (k + 1) a_0 =
 if 0 ≤ ((List.length a_0 : Nat) : Int) then
 if ((List.length a_0 : Nat) : Int) ≤ ((List.length a_0 : Nat) : Int) then
 if ((List.length a_0 : Nat) : Int) * 48 ≤ 211106232532992 then
 laws_toPlayerS.l0 k k a_0 0 (List.replicate (Int.toNat ((List.length a_0 : Nat) : Int)) (Ty.dflt T90)) else none else none else none := by kernel_rfl
theorem laws_toPlayerS.l0_eq (k m : Nat) (a_0 : (List DT90)) (i_4 : Int) (s0 : (List DT90)) : laws_toPlayerS.l0 k (m + 1) a_0 i_4 s0 =
 if (i_4 : Int) < ((List.length a_0 : Nat) : Int) then
 if 0 ≤ i_4 then
 if i_4 < ((List.length a_0 : Nat) : Int) then
 (laws_toPlayer k (rd T90 a_0 i_4)).bind fun r1 =>
 if 0 ≤ i_4 then
 if i_4 < ((List.length s0 : Nat) : Int) then
 laws_toPlayerS.l0 k m a_0 (IntKind.wrap .i64 (i_4 + 1)) (List.set s0 (Int.toNat i_4) r1) else none else none else none else none
 else some s0 := by kernel_rfl
theorem laws_toIntS_eq (k : Nat) (a_0 : (List Int)) : laws_toIntS (k + 1) a_0 =
 if 0 ≤ ((List.length a_0 : Nat) : Int) then
 if ((List.length a_0 : Nat) : Int) ≤ ((List.length a_0 : Nat) : Int) then
 if ((List.length a_0 : Nat) : Int) * 8 ≤ 211106232532992 then
 laws_toIntS.l0 k k a_0 0 (List.replicate (Int.toNat ((List.length a_0 : Nat) : Int)) (Ty.dflt (.int .i64))) else none else none else none := by kernel_rfl
theorem laws_toIntS.l0_eq (k m : Nat) (a_0 : (List Int)) (i_4 : Int) (s0 : (List Int)) : laws_toIntS.l0 k (m + 1) a_0 i_4 s0 =
 if (i_4 : Int) < ((List.length a_0 : Nat) : Int) then
 if 0 ≤ i_4 then
 if i_4 < ((List.length a_0 : Nat) : Int) then
 if 0 ≤ i_4 then
 if i_4 < ((List.length s0 : Nat) : Int) then
 laws_toIntS.l0 k m a_0 (IntKind.wrap .i64 (i_4 + 1)) (List.set s0 (Int.toNat i_4) (rd (.int .i64) a_0 i_4)) else none else none else none else none
 else some s0 := by kernel_rfl
theorem laws_toMarkS_eq (k : Nat) (a_0 : (List DT110)) : laws_toMarkS (k + 1) a_0 =
 if 0 ≤ ((List.length a_0 : Nat) : Int) then
 if ((List.length a_0 : Nat) : Int) ≤ ((List.length a_0 : Nat) : Int) then
 if ((List.length a_0 : Nat) : Int) * 40 ≤ 211106232532992 then
 laws_toMarkS.l0 k k a_0 0 (List.replicate (Int.toNat ((List.length a_0 : Nat) : Int)) (Ty.dflt T110)) else none else none else none := by kernel_rfl
theorem laws_toMarkS.l0_eq (k m : Nat) (a_0 : (List DT110)) (i_4 : Int) (s0 : (List DT110)) : laws_toMarkS.l0 k (m + 1) a_0 i_4 s0 =
 if (i_4 : Int) < ((List.length a_0 : Nat) : Int) then
 if 0 ≤ i_4 then
 if i_4 < ((List.length a_0 : Nat) : Int) then
 (laws_toMark k (rd T110 a_0 i_4)).bind fun r1 =>
 if 0 ≤ i_4 then
 if i_4 < ((List.length s0 : Nat) : Int) then
 laws_toMarkS.l0 k m a_0 (IntKind.wrap .i64 (i_4 + 1)) (List.set s0 (Int.toNat i_4) r1) else none else none else none else none
 else some s0 := by kernel_rfl
theorem laws_toLetterS_eq (k : Nat) (a_0 : (List DT23)) : laws_toLetterS (k + 1) a_0 =
 if 0 ≤ ((List.length a_0 : Nat) : Int) then
 if ((List.length a_0 : Nat) : Int) ≤ ((List.length a_0 : Nat) : Int) then
 if ((List.length a_0 : Nat) : Int) * 16 ≤ 211106232532992 then
 laws_toLetterS.l0 k k a_0 0 (List.replicate (Int.toNat ((List.length a_0 : Nat) : Int)) (Ty.dflt T23)) else none else none else none := by kernel_rfl
theorem laws_toLetterS.l0_eq (k m : Nat) (a_0 : (List DT23)) (i_4 : Int) (s0 : (List DT23)) : laws_toLetterS.l0 k (m + 1) a_0 i_4 s0 =
 if (i_4 : Int) < ((List.length a_0 : Nat) : Int) then
 if 0 ≤ i_4 then
 if i_4 < ((List.length a_0 : Nat) : Int) then
 (laws_toLetter k (rd T23 a_0 i_4)).bind fun r1 =>
 if 0 ≤ i_4 then
 if i_4 < ((List.length s0 : Nat) : Int) then
 laws_toLetterS.l0 k m a_0 (IntKind.wrap .i64 (i_4 + 1)) (List.set s0 (Int.toNat i_4) r1) else none else none else none else none
 else some s0 := by kernel_rfl
theorem spec_CopyParts_eq (k : Nat) (l_0 : (List DT100)) (voices_1 : Int) : spec_CopyParts (k + 1) l_0 voices_1 =
 (spec_IsScore k l_0).bind fun r1 =>
 if ¬ (r1 = true) then
 some ([], (false, ()))
 else (spec_l1In k voices_1 1 4).bind fun r2 =>
 if ¬ (r2 = true) then
 some ([], (false, ()))
 else spec_CopyParts.l0 k k l_0 voices_1 1 [] := by kernel_rfl
theorem spec_CopyParts.l0_eq (k m : Nat) (l_0 : (List DT100)) (voices_1 : Int) (v_7 : Int) (s0 : (List (List DT127))) : spec_CopyParts.l0 k (m + 1) l_0 voices_1 v_7 s0 =
 if (v_7 : Int) ≤ voices_1 then
 (spec_EndOf k l_0).bind fun r3 =>
 (spec_PartFrom k l_0 v_7 r3).bind fun r4 =>
 if ¬ (r4.2.1 = true) then
 some ([], (false, ()))
 else if (List.length s0 + List.length ([r4.1] : (List (List DT127)))) * 24 ≤ 211106232532992 then
 spec_CopyParts.l0 k m l_0 voices_1 (IntKind.wrap .i64 (v_7 + 1)) (s0 ++ ([r4.1] : (List (List DT127)))) else none
 else some (s0, (true, ())) := by kernel_rfl
theorem spec_PartsAgree_eq (k : Nat) (l_0 : (List DT100)) (parts_1 : (List (List DT127))) : spec_PartsAgree (k + 1) l_0 parts_1 =
 (spec_JoinParts k parts_1).bind fun r1 =>
 if r1.2.1 = true then
 (spec_l28Some k l_0 ((List.length parts_1 : Nat) : Int)).bind fun r2 =>
 (spec_EqualScores k r1.1 r2).bind fun r3 =>
 some (decide (r3 = true))
 else some false := by kernel_rfl
theorem impl_CopyParts_eq (k : Nat) (l_0 : (List DT100)) (voices_1 : Int) : impl_CopyParts (k + 1) l_0 voices_1 =
 (impl_IsScore k l_0).bind fun r1 =>
 if ¬ (r1 = true) then
 some ([], (false, ()))
 else (impl_InRange k voices_1 1 4).bind fun r2 =>
 if ¬ (r2 = true) then
 some ([], (false, ()))
 else impl_CopyParts.l0 k k l_0 voices_1 1 [] := by kernel_rfl
theorem impl_CopyParts.l0_eq (k m : Nat) (l_0 : (List DT100)) (voices_1 : Int) (voice_7 : Int) (s0 : (List (List DT127))) : impl_CopyParts.l0 k (m + 1) l_0 voices_1 voice_7 s0 =
 if (voice_7 : Int) ≤ voices_1 then
 (impl_EndOf k l_0).bind fun r3 =>
 (impl_PartFrom k l_0 voice_7 r3).bind fun r4 =>
 if ¬ (r4.2.1 = true) then
 some ([], (false, ()))
 else if (List.length s0 + List.length ([r4.1] : (List (List DT127)))) * 24 ≤ 211106232532992 then
 impl_CopyParts.l0 k m l_0 voices_1 (IntKind.wrap .i64 (voice_7 + 1)) (s0 ++ ([r4.1] : (List (List DT127)))) else none
 else some (s0, (true, ())) := by kernel_rfl
theorem impl_PartsAgree_eq (k : Nat) (l_0 : (List DT100)) (parts_1 : (List (List DT127))) : impl_PartsAgree (k + 1) l_0 parts_1 =
 (impl_JoinParts k parts_1).bind fun r1 =>
 if r1.2.1 = true then
 (impl_upTo k l_0 ((List.length parts_1 : Nat) : Int)).bind fun r2 =>
 (slices_Equal_impl_Event k r1.1 r2).bind fun r3 =>
 some (decide (r3 = true))
 else some false := by kernel_rfl
theorem laws_eqEventS_eq (k : Nat) (a_0 : (List DT100)) (b_1 : (List DT100)) : laws_eqEventS (k + 1) a_0 b_1 =
 if (((List.length a_0 : Nat) : Int) : Int) ≠ ((List.length b_1 : Nat) : Int) then
 some false
 else laws_eqEventS.l0 k k a_0 b_1 0 := by kernel_rfl
theorem laws_eqEventS.l0_eq (k m : Nat) (a_0 : (List DT100)) (b_1 : (List DT100)) (i_5 : Int) : laws_eqEventS.l0 k (m + 1) a_0 b_1 i_5 =
 if (i_5 : Int) < ((List.length a_0 : Nat) : Int) then
 if 0 ≤ i_5 then
 if i_5 < ((List.length a_0 : Nat) : Int) then
 if 0 ≤ i_5 then
 if i_5 < ((List.length b_1 : Nat) : Int) then
 (laws_eqEvent k (rd T100 a_0 i_5) (rd T100 b_1 i_5)).bind fun r1 =>
 if ¬ (r1 = true) then
 some false
 else laws_eqEventS.l0 k m a_0 b_1 (IntKind.wrap .i64 (i_5 + 1)) else none else none else none else none
 else some true := by kernel_rfl
theorem laws_eqMeter_eq (k : Nat) (a_0 : DT23) (b_1 : DT23) : laws_eqMeter (k + 1) a_0 b_1 =
 if (a_0.1 : Int) ≠ b_1.1 then
 some false
 else if (a_0.2.1 : Int) ≠ b_1.2.1 then
 some false
 else some true := by kernel_rfl
theorem laws_eqTempoS_eq (k : Nat) (a_0 : (List DT23)) (b_1 : (List DT23)) : laws_eqTempoS (k + 1) a_0 b_1 =
 if (((List.length a_0 : Nat) : Int) : Int) ≠ ((List.length b_1 : Nat) : Int) then
 some false
 else laws_eqTempoS.l0 k k a_0 b_1 0 := by kernel_rfl
theorem laws_eqTempoS.l0_eq (k m : Nat) (a_0 : (List DT23)) (b_1 : (List DT23)) (i_5 : Int) : laws_eqTempoS.l0 k (m + 1) a_0 b_1 i_5 =
 if (i_5 : Int) < ((List.length a_0 : Nat) : Int) then
 if 0 ≤ i_5 then
 if i_5 < ((List.length a_0 : Nat) : Int) then
 if 0 ≤ i_5 then
 if i_5 < ((List.length b_1 : Nat) : Int) then
 (laws_eqTempo k (rd T23 a_0 i_5) (rd T23 b_1 i_5)).bind fun r1 =>
 if ¬ (r1 = true) then
 some false
 else laws_eqTempoS.l0 k m a_0 b_1 (IntKind.wrap .i64 (i_5 + 1)) else none else none else none else none
 else some true := by kernel_rfl
theorem laws_eqPlayerS_eq (k : Nat) (a_0 : (List DT90)) (b_1 : (List DT90)) : laws_eqPlayerS (k + 1) a_0 b_1 =
 if (((List.length a_0 : Nat) : Int) : Int) ≠ ((List.length b_1 : Nat) : Int) then
 some false
 else laws_eqPlayerS.l0 k k a_0 b_1 0 := by kernel_rfl
theorem laws_eqPlayerS.l0_eq (k m : Nat) (a_0 : (List DT90)) (b_1 : (List DT90)) (i_5 : Int) : laws_eqPlayerS.l0 k (m + 1) a_0 b_1 i_5 =
 if (i_5 : Int) < ((List.length a_0 : Nat) : Int) then
 if 0 ≤ i_5 then
 if i_5 < ((List.length a_0 : Nat) : Int) then
 if 0 ≤ i_5 then
 if i_5 < ((List.length b_1 : Nat) : Int) then
 (laws_eqPlayer k (rd T90 a_0 i_5) (rd T90 b_1 i_5)).bind fun r1 =>
 if ¬ (r1 = true) then
 some false
 else laws_eqPlayerS.l0 k m a_0 b_1 (IntKind.wrap .i64 (i_5 + 1)) else none else none else none else none
 else some true := by kernel_rfl
theorem laws_eqIntS_eq (k : Nat) (a_0 : (List Int)) (b_1 : (List Int)) : laws_eqIntS (k + 1) a_0 b_1 =
 if (((List.length a_0 : Nat) : Int) : Int) ≠ ((List.length b_1 : Nat) : Int) then
 some false
 else laws_eqIntS.l0 k k a_0 b_1 0 := by kernel_rfl
theorem laws_eqIntS.l0_eq (k m : Nat) (a_0 : (List Int)) (b_1 : (List Int)) (i_5 : Int) : laws_eqIntS.l0 k (m + 1) a_0 b_1 i_5 =
 if (i_5 : Int) < ((List.length a_0 : Nat) : Int) then
 if 0 ≤ i_5 then
 if i_5 < ((List.length a_0 : Nat) : Int) then
 if 0 ≤ i_5 then
 if i_5 < ((List.length b_1 : Nat) : Int) then
 if Ne (α := Int) (rd (.int .i64) a_0 i_5) (rd (.int .i64) b_1 i_5) then
 some false
 else laws_eqIntS.l0 k m a_0 b_1 (IntKind.wrap .i64 (i_5 + 1)) else none else none else none else none
 else some true := by kernel_rfl
theorem laws_eqMarkS_eq (k : Nat) (a_0 : (List DT110)) (b_1 : (List DT110)) : laws_eqMarkS (k + 1) a_0 b_1 =
 if (((List.length a_0 : Nat) : Int) : Int) ≠ ((List.length b_1 : Nat) : Int) then
 some false
 else laws_eqMarkS.l0 k k a_0 b_1 0 := by kernel_rfl
theorem laws_eqMarkS.l0_eq (k m : Nat) (a_0 : (List DT110)) (b_1 : (List DT110)) (i_5 : Int) : laws_eqMarkS.l0 k (m + 1) a_0 b_1 i_5 =
 if (i_5 : Int) < ((List.length a_0 : Nat) : Int) then
 if 0 ≤ i_5 then
 if i_5 < ((List.length a_0 : Nat) : Int) then
 if 0 ≤ i_5 then
 if i_5 < ((List.length b_1 : Nat) : Int) then
 (laws_eqMark k (rd T110 a_0 i_5) (rd T110 b_1 i_5)).bind fun r1 =>
 if ¬ (r1 = true) then
 some false
 else laws_eqMarkS.l0 k m a_0 b_1 (IntKind.wrap .i64 (i_5 + 1)) else none else none else none else none
 else some true := by kernel_rfl
theorem laws_eqLetterS_eq (k : Nat) (a_0 : (List DT23)) (b_1 : (List DT23)) : laws_eqLetterS (k + 1) a_0 b_1 =
 if (((List.length a_0 : Nat) : Int) : Int) ≠ ((List.length b_1 : Nat) : Int) then
 some false
 else laws_eqLetterS.l0 k k a_0 b_1 0 := by kernel_rfl
theorem laws_eqLetterS.l0_eq (k m : Nat) (a_0 : (List DT23)) (b_1 : (List DT23)) (i_5 : Int) : laws_eqLetterS.l0 k (m + 1) a_0 b_1 i_5 =
 if (i_5 : Int) < ((List.length a_0 : Nat) : Int) then
 if 0 ≤ i_5 then
 if i_5 < ((List.length a_0 : Nat) : Int) then
 if 0 ≤ i_5 then
 if i_5 < ((List.length b_1 : Nat) : Int) then
 (laws_eqLetter k (rd T23 a_0 i_5) (rd T23 b_1 i_5)).bind fun r1 =>
 if ¬ (r1 = true) then
 some false
 else laws_eqLetterS.l0 k m a_0 b_1 (IntKind.wrap .i64 (i_5 + 1)) else none else none else none else none
 else some true := by kernel_rfl
theorem laws_szPlayer_eq (k : Nat) (a_0 : DT90) (left_1 : Int) : laws_szPlayer (k + 1) a_0 left_1 =
 (laws_szIntS k a_0.2.2.2.1 left_1).bind fun r1 =>
 if (r1 : Int) < 0 then
 some (-1)
 else some r1 := by kernel_rfl
theorem laws_toEvent_eq (k : Nat) (a_0 : DT100) : laws_toEvent (k + 1) a_0 =
 some a_0 := by kernel_rfl
theorem laws_toTempo_eq (k : Nat) (a_0 : DT23) : laws_toTempo (k + 1) a_0 =
 some a_0 := by kernel_rfl
theorem laws_toPlayer_eq (k : Nat) (a_0 : DT90) : laws_toPlayer (k + 1) a_0 =
 (laws_toIntS k a_0.2.2.2.1).bind fun r1 =>
 some (a_0.1, (a_0.2.1, (a_0.2.2.1, (r1, ())))) := by kernel_rfl
theorem laws_toMark_eq (k : Nat) (a_0 : DT110) : laws_toMark (k + 1) a_0 =
 some a_0 := by kernel_rfl
theorem laws_toLetter_eq (k : Nat) (a_0 : DT23) : laws_toLetter (k + 1) a_0 =
 some a_0 := by kernel_rfl
theorem spec_IsScore_eq (k : Nat) (l_0 : (List DT100)) : spec_IsScore (k + 1) l_0 =
 spec_IsScore.l0 k k l_0 0 := by kernel_rfl
theorem spec_IsScore.l0_eq (k m : Nat) (l_0 : (List DT100)) (i_3 : Int) : spec_IsScore.l0 k (m + 1) l_0 i_3 =
 if (i_3 : Int) < ((List.length l_0 : Nat) : Int) then
 if 0 ≤ i_3 then
 if i_3 < ((List.length l_0 : Nat) : Int) then
 (spec_l8Ok k (rd T100 l_0 i_3)).bind fun r1 =>
 if ¬ (r1 = true) then
 some false
 else if (0 : Int) < i_3 then
 if 0 ≤ (IntKind.wrap .i64 (i_3 - 1)) then
 if (IntKind.wrap .i64 (i_3 - 1)) < ((List.length l_0 : Nat) : Int) then
 if 0 ≤ i_3 then
 if i_3 < ((List.length l_0 : Nat) : Int) then
 (spec_l8Before k (rd T100 l_0 (IntKind.wrap .i64 (i_3 - 1))) (rd T100 l_0 i_3)).bind fun r2 =>
 if ¬ (r2 = true) then
 some false
 else spec_IsScore.l0 k m l_0 (IntKind.wrap .i64 (i_3 + 1)) else none else none else none else none
 else spec_IsScore.l0 k m l_0 (IntKind.wrap .i64 (i_3 + 1)) else none else none
 else some (decide ((((List.length l_0 : Nat) : Int) : Int) ≤ 40)) := by kernel_rfl
theorem spec_l1In_eq (k : Nat) (x_0 : Int) (least_1 : Int) (most_2 : Int) : spec_l1In (k + 1) x_0 least_1 most_2 =
 if (least_1 : Int) ≤ x_0 then
 some (decide ((x_0 : Int) ≤ most_2))
 else some false := by kernel_rfl
theorem spec_EndOf_eq (k : Nat) (l_0 : (List DT100)) : spec_EndOf (k + 1) l_0 =
 spec_EndOf.l0 k k l_0 0 0 := by kernel_rfl
theorem spec_EndOf.l0_eq (k m : Nat) (l_0 : (List DT100)) (n_3 : Int) (i_4 : Int) : spec_EndOf.l0 k (m + 1) l_0 n_3 i_4 =
 if (i_4 : Int) < ((List.length l_0 : Nat) : Int) then
 (spec_IsScore k l_0).bind fun r1 =>
 if r1 = true then
 if 0 ≤ i_4 then
 if i_4 < ((List.length l_0 : Nat) : Int) then
 if 0 ≤ i_4 then
 if i_4 < ((List.length l_0 : Nat) : Int) then
 (spec_Max k n_3 (IntKind.wrap .i64 ((rd T100 l_0 i_4).1 + (rd T100 l_0 i_4).2.1))).bind fun r2 =>
 spec_EndOf.l0 k m l_0 r2 (IntKind.wrap .i64 (i_4 + 1)) else none else none else none else none
 else some n_3
 else some n_3 := by kernel_rfl
theorem spec_PartFrom_eq (k : Nat) (l_0 : (List DT100)) (voice_1 : Int) (end_2 : Int) : spec_PartFrom (k + 1) l_0 voice_1 end_2 =
 (spec_VoiceOf k l_0 voice_1).bind fun r1 =>
 spec_PartFrom.l0 k k l_0 end_2 0 0 [] r1 := by kernel_rfl
theorem spec_PartFrom.l0_eq (k m : Nat) (l_0 : (List DT100)) (end_2 : Int) (at_10 : Int) (i_11 : Int) (s0 : (List DT127)) (s1 : (List DT100)) : spec_PartFrom.l0 k (m + 1) l_0 end_2 at_10 i_11 s0 s1 =
 if (i_11 : Int) < ((List.length s1 : Nat) : Int) then
 (spec_IsScore k l_0).bind fun r2 =>
 if r2 = true then
 if 0 ≤ i_11 then
 if i_11 < ((List.length s1 : Nat) : Int) then
 if LT.lt (α := Int) (rd T100 s1 i_11).1 at_10 then
 some ([], (false, ()))
 else if 0 ≤ i_11 then
 if i_11 < ((List.length s1 : Nat) : Int) then
 if LT.lt (α := Int) at_10 (rd T100 s1 i_11).1 then
 if 0 ≤ i_11 then
 if i_11 < ((List.length s1 : Nat) : Int) then
 if (List.length s0 + List.length ([(at_10, (IntKind.wrap .i64 ((rd T100 s1 i_11).1 - at_10), (0, ())))] : (List DT127))) * 24 ≤ 211106232532992 then
 if 0 ≤ i_11 then
 if i_11 < ((List.length s1 : Nat) : Int) then
 if 0 ≤ i_11 then
 if i_11 < ((List.length s1 : Nat) : Int) then
 if 0 ≤ i_11 then
 if i_11 < ((List.length s1 : Nat) : Int) then
 if (List.length (s0 ++ ([(at_10, (IntKind.wrap .i64 ((rd T100 s1 i_11).1 - at_10), (0, ())))] : (List DT127))) + List.length ([((rd T100 s1 i_11).1, ((rd T100 s1 i_11).2.1, ((rd T100 s1 i_11).2.2.1, ())))] : (List DT127))) * 24 ≤ 211106232532992 then
 if 0 ≤ i_11 then
 if i_11 < ((List.length s1 : Nat) : Int) then
 if 0 ≤ i_11 then
 if i_11 < ((List.length s1 : Nat) : Int) then
 spec_PartFrom.l0 k m l_0 end_2 (IntKind.wrap .i64 ((rd T100 s1 i_11).1 + (rd T100 s1 i_11).2.1)) (IntKind.wrap .i64 (i_11 + 1)) ((s0 ++ ([(at_10, (IntKind.wrap .i64 ((rd T100 s1 i_11).1 - at_10), (0, ())))] : (List DT127))) ++ ([((rd T100 s1 i_11).1, ((rd T100 s1 i_11).2.1, ((rd T100 s1 i_11).2.2.1, ())))] : (List DT127))) s1 else none else none else none else none else none else none else none else none else none else none else none else none else none else none
 else if 0 ≤ i_11 then
 if i_11 < ((List.length s1 : Nat) : Int) then
 if 0 ≤ i_11 then
 if i_11 < ((List.length s1 : Nat) : Int) then
 if 0 ≤ i_11 then
 if i_11 < ((List.length s1 : Nat) : Int) then
 if (List.length s0 + List.length ([((rd T100 s1 i_11).1, ((rd T100 s1 i_11).2.1, ((rd T100 s1 i_11).2.2.1, ())))] : (List DT127))) * 24 ≤ 211106232532992 then
 if 0 ≤ i_11 then
 if i_11 < ((List.length s1 : Nat) : Int) then
 if 0 ≤ i_11 then
 if i_11 < ((List.length s1 : Nat) : Int) then
 spec_PartFrom.l0 k m l_0 end_2 (IntKind.wrap .i64 ((rd T100 s1 i_11).1 + (rd T100 s1 i_11).2.1)) (IntKind.wrap .i64 (i_11 + 1)) (s0 ++ ([((rd T100 s1 i_11).1, ((rd T100 s1 i_11).2.1, ((rd T100 s1 i_11).2.2.1, ())))] : (List DT127))) s1 else none else none else none else none else none else none else none else none else none else none else none else none else none else none else none
 else (spec_IsScore k l_0).bind fun r3 =>
 if ¬ (r3 = true) then
 some ([], (false, ()))
 else if (end_2 : Int) < at_10 then
 some ([], (false, ()))
 else if (2096 : Int) < end_2 then
 some ([], (false, ()))
 else if (at_10 : Int) < end_2 then
 if (List.length s0 + List.length ([(at_10, (IntKind.wrap .i64 (end_2 - at_10), (0, ())))] : (List DT127))) * 24 ≤ 211106232532992 then
 some ((s0 ++ ([(at_10, (IntKind.wrap .i64 (end_2 - at_10), (0, ())))] : (List DT127))), (true, ())) else none
 else some (s0, (true, ()))
 else (spec_IsScore k l_0).bind fun r4 =>
 if ¬ (r4 = true) then
 some ([], (false, ()))
 else if (end_2 : Int) < at_10 then
 some ([], (false, ()))
 else if (2096 : Int) < end_2 then
 some ([], (false, ()))
 else if (at_10 : Int) < end_2 then
 if (List.length s0 + List.length ([(at_10, (IntKind.wrap .i64 (end_2 - at_10), (0, ())))] : (List DT127))) * 24 ≤ 211106232532992 then
 some ((s0 ++ ([(at_10, (IntKind.wrap .i64 (end_2 - at_10), (0, ())))] : (List DT127))), (true, ())) else none
 else some (s0, (true, ())) := by kernel_rfl
theorem spec_JoinParts_eq (k : Nat) (parts_0 : (List (List DT127))) : spec_JoinParts (k + 1) parts_0 =
 if (4 : Int) < ((List.length parts_0 : Nat) : Int) then
 some ([], (false, ()))
 else spec_JoinParts.l0 k k parts_0 0 [] := by kernel_rfl
theorem spec_JoinParts.l0_eq (k m : Nat) (parts_0 : (List (List DT127))) (i_5 : Int) (s0 : (List DT100)) : spec_JoinParts.l0 k (m + 1) parts_0 i_5 s0 =
 if (i_5 : Int) < ((List.length parts_0 : Nat) : Int) then
 if 0 ≤ i_5 then
 if i_5 < ((List.length parts_0 : Nat) : Int) then
 (spec_IsPart k (rd (.list T127) parts_0 i_5)).bind fun r1 =>
 if ¬ (r1 = true) then
 some ([], (false, ()))
 else if 0 ≤ i_5 then
 if i_5 < ((List.length parts_0 : Nat) : Int) then
 (spec_EventsOf k (rd (.list T127) parts_0 i_5) (IntKind.wrap .i64 (i_5 + 1))).bind fun r2 =>
 spec_JoinParts.l1 k k m parts_0 i_5 0 s0 r2 else none else none else none else none
 else (spec_IsScore k s0).bind fun r3 =>
 if ¬ (r3 = true) then
 some ([], (false, ()))
 else some (s0, (true, ())) := by kernel_rfl
theorem spec_JoinParts.l1_eq (k m m1 : Nat) (parts_0 : (List (List DT127))) (i_5 : Int) (k_7 : Int) (s0 : (List DT100)) (s1 : (List DT100)) : spec_JoinParts.l1 k (m + 1) m1 parts_0 i_5 k_7 s0 s1 =
 if (k_7 : Int) < ((List.length s1 : Nat) : Int) then
 if 0 ≤ k_7 then
 if k_7 < ((List.length s1 : Nat) : Int) then
 (spec_l8Put k s0 (rd T100 s1 k_7)).bind fun r4 =>
 spec_JoinParts.l1 k m m1 parts_0 i_5 (IntKind.wrap .i64 (k_7 + 1)) r4 s1 else none else none
 else spec_JoinParts.l0 k m1 parts_0 (IntKind.wrap .i64 (i_5 + 1)) s0 := by kernel_rfl
theorem spec_l28Some_eq (k : Nat) (l_0 : (List DT100)) (voices_1 : Int) : spec_l28Some (k + 1) l_0 voices_1 =
 spec_l28Some.l0 k k l_0 voices_1 0 [] := by kernel_rfl
theorem spec_l28Some.l0_eq (k m : Nat) (l_0 : (List DT100)) (voices_1 : Int) (i_6 : Int) (s0 : (List DT100)) : spec_l28Some.l0 k (m + 1) l_0 voices_1 i_6 s0 =
 if (i_6 : Int) < ((List.length l_0 : Nat) : Int) then
 if 0 ≤ i_6 then
 if i_6 < ((List.length l_0 : Nat) : Int) then
 if LE.le (α := Int) (rd T100 l_0 i_6).2.2.2.1 voices_1 then
 if 0 ≤ i_6 then
 if i_6 < ((List.length l_0 : Nat) : Int) then
 if (List.length s0 + List.length ([(rd T100 l_0 i_6)] : (List DT100))) * 32 ≤ 211106232532992 then
 spec_l28Some.l0 k m l_0 voices_1 (IntKind.wrap .i64 (i_6 + 1)) (s0 ++ ([(rd T100 l_0 i_6)] : (List DT100))) else none else none else none
 else spec_l28Some.l0 k m l_0 voices_1 (IntKind.wrap .i64 (i_6 + 1)) s0 else none else none
 else some s0 := by kernel_rfl
theorem spec_EqualScores_eq (k : Nat) (a_0 : (List DT100)) (b_1 : (List DT100)) : spec_EqualScores (k + 1) a_0 b_1 =
 if (((List.length a_0 : Nat) : Int) : Int) ≠ ((List.length b_1 : Nat) : Int) then
 some false
 else spec_EqualScores.l0 k k a_0 b_1 0 := by kernel_rfl
theorem spec_EqualScores.l0_eq (k m : Nat) (a_0 : (List DT100)) (b_1 : (List DT100)) (i_5 : Int) : spec_EqualScores.l0 k (m + 1) a_0 b_1 i_5 =
 if (i_5 : Int) < ((List.length a_0 : Nat) : Int) then
 if 0 ≤ i_5 then
 if i_5 < ((List.length a_0 : Nat) : Int) then
 if 0 ≤ i_5 then
 if i_5 < ((List.length b_1 : Nat) : Int) then
 if ¬ ((((rd T100 a_0 i_5).1 : Int) = (rd T100 b_1 i_5).1) ∧ ((((rd T100 a_0 i_5).2.1 : Int) = (rd T100 b_1 i_5).2.1) ∧ ((((rd T100 a_0 i_5).2.2.1 : Int) = (rd T100 b_1 i_5).2.2.1) ∧ (((rd T100 a_0 i_5).2.2.2.1 : Int) = (rd T100 b_1 i_5).2.2.2.1)))) then
 some false
 else spec_EqualScores.l0 k m a_0 b_1 (IntKind.wrap .i64 (i_5 + 1)) else none else none else none else none
 else some true := by kernel_rfl
theorem impl_IsScore_eq (k : Nat) (l_0 : (List DT100)) : impl_IsScore (k + 1) l_0 =
 impl_IsScore.l0 k k l_0 l_0 ((List.length l_0 : Nat) : Int) 0 := by kernel_rfl
theorem impl_IsScore.l0_eq (k m : Nat) (l_0 : (List DT100)) (t_5 : (List DT100)) (t_6 : Int) (t_7 : Int) : impl_IsScore.l0 k (m + 1) l_0 t_5 t_6 t_7 =
 if (t_7 : Int) < t_6 then
 if 0 ≤ t_7 then
 if t_7 < ((List.length t_5 : Nat) : Int) then
 (impl_InRange k (rd T100 t_5 t_7).1 0 2000).bind fun r1 =>
 if ¬ (r1 = true) then
 some false
 else (impl_InRange k (rd T100 t_5 t_7).2.1 1 96).bind fun r2 =>
 if ¬ (r2 = true) then
 some false
 else (impl_InRange k (rd T100 t_5 t_7).2.2.1 21 108).bind fun r3 =>
 if ¬ (r3 = true) then
 some false
 else (impl_InRange k (rd T100 t_5 t_7).2.2.2.1 1 4).bind fun r4 =>
 if ¬ (r4 = true) then
 some false
 else if (0 : Int) < t_7 then
 if 0 ≤ (IntKind.wrap .i64 (t_7 - 1)) then
 if (IntKind.wrap .i64 (t_7 - 1)) < ((List.length l_0 : Nat) : Int) then
 (impl_eventOrder k (rd T100 l_0 (IntKind.wrap .i64 (t_7 - 1))) (rd T100 t_5 t_7)).bind fun r5 =>
 if (0 : Int) ≤ r5 then
 some false
 else impl_IsScore.l0 k m l_0 t_5 t_6 (IntKind.wrap .i64 (t_7 + 1)) else none else none
 else impl_IsScore.l0 k m l_0 t_5 t_6 (IntKind.wrap .i64 (t_7 + 1)) else none else none
 else some (decide ((((List.length l_0 : Nat) : Int) : Int) ≤ 40)) := by kernel_rfl
theorem impl_InRange_eq (k : Nat) (n_0 : Int) (low_1 : Int) (high_2 : Int) : impl_InRange (k + 1) n_0 low_1 high_2 =
 if (low_1 : Int) ≤ n_0 then
 some (decide ((n_0 : Int) ≤ high_2))
 else some false := by kernel_rfl
theorem impl_EndOf_eq (k : Nat) (l_0 : (List DT100)) : impl_EndOf (k + 1) l_0 =
 (impl_IsScore k l_0).bind fun r1 =>
 if r1 = true then
 impl_EndOf.l0 k k 0 l_0 ((List.length l_0 : Nat) : Int) 0
 else some 0 := by kernel_rfl
theorem impl_EndOf.l0_eq (k m : Nat) (end_3 : Int) (t_8 : (List DT100)) (t_9 : Int) (t_10 : Int) : impl_EndOf.l0 k (m + 1) end_3 t_8 t_9 t_10 =
 if (t_10 : Int) < t_9 then
 if 0 ≤ t_10 then
 if t_10 < ((List.length t_8 : Nat) : Int) then
 impl_EndOf.l0 k m (max end_3 (IntKind.wrap .i64 ((rd T100 t_8 t_10).1 + (rd T100 t_8 t_10).2.1)) : Int) t_8 t_9 (IntKind.wrap .i64 (t_10 + 1)) else none else none
 else some end_3 := by kernel_rfl
theorem impl_PartFrom_eq (k : Nat) (l_0 : (List DT100)) (voice_1 : Int) (end_2 : Int) : impl_PartFrom (k + 1) l_0 voice_1 end_2 =
 (impl_IsScore k l_0).bind fun r1 =>
 if ¬ (r1 = true) then
 some ([], (false, ()))
 else if (2096 : Int) < end_2 then
 some ([], (false, ()))
 else (impl_VoiceOf k l_0 voice_1).bind fun r2 =>
 impl_PartFrom.l0 k k end_2 0 ((List.length r2 : Nat) : Int) 0 [] r2 := by kernel_rfl
theorem impl_PartFrom.l0_eq (k m : Nat) (end_2 : Int) (at_9 : Int) (t_24 : Int) (t_25 : Int) (s0 : (List DT127)) (s1 : (List DT100)) : impl_PartFrom.l0 k (m + 1) end_2 at_9 t_24 t_25 s0 s1 =
 if (t_25 : Int) < t_24 then
 if 0 ≤ t_25 then
 if t_25 < ((List.length s1 : Nat) : Int) then
 if LT.lt (α := Int) (rd T100 s1 t_25).1 at_9 then
 some ([], (false, ()))
 else if LT.lt (α := Int) at_9 (rd T100 s1 t_25).1 then
 if (List.length s0 + List.length ([(at_9, (IntKind.wrap .i64 ((rd T100 s1 t_25).1 - at_9), (0, ())))] : (List DT127))) * 24 ≤ 211106232532992 then
 if (List.length (s0 ++ ([(at_9, (IntKind.wrap .i64 ((rd T100 s1 t_25).1 - at_9), (0, ())))] : (List DT127))) + List.length ([((rd T100 s1 t_25).1, ((rd T100 s1 t_25).2.1, ((rd T100 s1 t_25).2.2.1, ())))] : (List DT127))) * 24 ≤ 211106232532992 then
 impl_PartFrom.l0 k m end_2 (IntKind.wrap .i64 ((rd T100 s1 t_25).1 + (rd T100 s1 t_25).2.1)) t_24 (IntKind.wrap .i64 (t_25 + 1)) ((s0 ++ ([(at_9, (IntKind.wrap .i64 ((rd T100 s1 t_25).1 - at_9), (0, ())))] : (List DT127))) ++ ([((rd T100 s1 t_25).1, ((rd T100 s1 t_25).2.1, ((rd T100 s1 t_25).2.2.1, ())))] : (List DT127))) s1 else none else none
 else if (List.length s0 + List.length ([((rd T100 s1 t_25).1, ((rd T100 s1 t_25).2.1, ((rd T100 s1 t_25).2.2.1, ())))] : (List DT127))) * 24 ≤ 211106232532992 then
 impl_PartFrom.l0 k m end_2 (IntKind.wrap .i64 ((rd T100 s1 t_25).1 + (rd T100 s1 t_25).2.1)) t_24 (IntKind.wrap .i64 (t_25 + 1)) (s0 ++ ([((rd T100 s1 t_25).1, ((rd T100 s1 t_25).2.1, ((rd T100 s1 t_25).2.2.1, ())))] : (List DT127))) s1 else none else none else none
 else if (end_2 : Int) < at_9 then
 some ([], (false, ()))
 else if (at_9 : Int) < end_2 then
 if (List.length s0 + List.length ([(at_9, (IntKind.wrap .i64 (end_2 - at_9), (0, ())))] : (List DT127))) * 24 ≤ 211106232532992 then
 some ((s0 ++ ([(at_9, (IntKind.wrap .i64 (end_2 - at_9), (0, ())))] : (List DT127))), (true, ())) else none
 else some (s0, (true, ())) := by kernel_rfl
theorem impl_JoinParts_eq (k : Nat) (parts_0 : (List (List DT127))) : impl_JoinParts (k + 1) parts_0 =
 if (4 : Int) < ((List.length parts_0 : Nat) : Int) then
 some ([], (false, ()))
 else impl_JoinParts.l0 k k parts_0 ((List.length parts_0 : Nat) : Int) 0 [] := by kernel_rfl
theorem impl_JoinParts.l0_eq (k m : Nat) (t_12 : (List (List DT127))) (t_13 : Int) (t_14 : Int) (s0 : (List DT100)) : impl_JoinParts.l0 k (m + 1) t_12 t_13 t_14 s0 =
 if (t_14 : Int) < t_13 then
 if 0 ≤ t_14 then
 if t_14 < ((List.length t_12 : Nat) : Int) then
 (impl_IsPart k (rd (.list T127) t_12 t_14)).bind fun r1 =>
 if ¬ (r1 = true) then
 some ([], (false, ()))
 else (impl_EventsOf k (rd (.list T127) t_12 t_14) (IntKind.wrap .i64 (t_14 + 1))).bind fun r2 =>
 if (List.length s0 + List.length r2) * 32 ≤ 211106232532992 then
 impl_JoinParts.l0 k m t_12 t_13 (IntKind.wrap .i64 (t_14 + 1)) (s0 ++ r2) else none else none else none
 else (slices_SortFunc_impl_Event_85 k s0).bind fun r3 =>
 (impl_IsScore k r3.2).bind fun r4 =>
 if ¬ (r4 = true) then
 some ([], (false, ()))
 else some (r3.2, (true, ())) := by kernel_rfl
theorem impl_upTo_eq (k : Nat) (l_0 : (List DT100)) (voices_1 : Int) : impl_upTo (k + 1) l_0 voices_1 =
 (impl_clone_impl_Event k l_0).bind fun r1 =>
 (slices_DeleteFunc_impl_Event_92 k r1 voices_1).bind fun r2 =>
 some r2 := by kernel_rfl
theorem slices_Equal_impl_Event_eq (k : Nat) (s1_0 : (List DT100)) (s2_1 : (List DT100)) : slices_Equal_impl_Event (k + 1) s1_0 s2_1 =
 if (((List.length s1_0 : Nat) : Int) : Int) ≠ ((List.length s2_1 : Nat) : Int) then
 some false
 else slices_Equal_impl_Event.l0 k k s1_0 s2_1 ((List.length s1_0 : Nat) : Int) 0 := by kernel_rfl
theorem slices_Equal_impl_Event.l0_eq (k m : Nat) (s1_0 : (List DT100)) (s2_1 : (List DT100)) (t_12 : Int) (t_13 : Int) : slices_Equal_impl_Event.l0 k (m + 1) s1_0 s2_1 t_12 t_13 =
 if (t_13 : Int) < t_12 then
 if 0 ≤ t_13 then
 if t_13 < ((List.length s1_0 : Nat) : Int) then
 if 0 ≤ t_13 then
 if t_13 < ((List.length s2_1 : Nat) : Int) then
 if ¬ ((((rd T100 s1_0 t_13).1 : Int) = (rd T100 s2_1 t_13).1) ∧ ((((rd T100 s1_0 t_13).2.1 : Int) = (rd T100 s2_1 t_13).2.1) ∧ ((((rd T100 s1_0 t_13).2.2.1 : Int) = (rd T100 s2_1 t_13).2.2.1) ∧ (((rd T100 s1_0 t_13).2.2.2.1 : Int) = (rd T100 s2_1 t_13).2.2.2.1)))) then
 some false
 else slices_Equal_impl_Event.l0 k m s1_0 s2_1 t_12 (IntKind.wrap .i64 (t_13 + 1)) else none else none else none else none
 else some true := by kernel_rfl
theorem laws_eqEvent_eq (k : Nat) (a_0 : DT100) (b_1 : DT100) : laws_eqEvent (k + 1) a_0 b_1 =
 if (a_0.1 : Int) ≠ b_1.1 then
 some false
 else if (a_0.2.1 : Int) ≠ b_1.2.1 then
 some false
 else if (a_0.2.2.1 : Int) ≠ b_1.2.2.1 then
 some false
 else if (a_0.2.2.2.1 : Int) ≠ b_1.2.2.2.1 then
 some false
 else some true := by kernel_rfl
theorem laws_eqTempo_eq (k : Nat) (a_0 : DT23) (b_1 : DT23) : laws_eqTempo (k + 1) a_0 b_1 =
 if (a_0.1 : Int) ≠ b_1.1 then
 some false
 else if (a_0.2.1 : Int) ≠ b_1.2.1 then
 some false
 else some true := by kernel_rfl
theorem laws_eqPlayer_eq (k : Nat) (a_0 : DT90) (b_1 : DT90) : laws_eqPlayer (k + 1) a_0 b_1 =
 if (a_0.1 : Int) ≠ b_1.1 then
 some false
 else if (a_0.2.1 : Int) ≠ b_1.2.1 then
 some false
 else if (a_0.2.2.1 : Int) ≠ b_1.2.2.1 then
 some false
 else (laws_eqIntS k a_0.2.2.2.1 b_1.2.2.2.1).bind fun r1 =>
 if ¬ (r1 = true) then
 some false
 else some true := by kernel_rfl
theorem laws_eqMark_eq (k : Nat) (a_0 : DT110) (b_1 : DT110) : laws_eqMark (k + 1) a_0 b_1 =
 if (a_0.1 : Int) ≠ b_1.1 then
 some false
 else if (a_0.2.1 : Int) ≠ b_1.2.1 then
 some false
 else if (a_0.2.2.1 : Int) ≠ b_1.2.2.1 then
 some false
 else if (a_0.2.2.2.1 : Int) ≠ b_1.2.2.2.1 then
 some false
 else if (a_0.2.2.2.2.1 : Int) ≠ b_1.2.2.2.2.1 then
 some false
 else some true := by kernel_rfl
theorem laws_eqLetter_eq (k : Nat) (a_0 : DT23) (b_1 : DT23) : laws_eqLetter (k + 1) a_0 b_1 =
 if (a_0.1 : Int) ≠ b_1.1 then
 some false
 else if (a_0.2.1 : Int) ≠ b_1.2.1 then
 some false
 else some true := by kernel_rfl
theorem spec_l8Ok_eq (k : Nat) (e_0 : DT100) : spec_l8Ok (k + 1) e_0 =
 (spec_l1In k e_0.1 0 2000).bind fun r1 =>
 if r1 = true then
 (spec_l1In k e_0.2.1 1 96).bind fun r2 =>
 if r2 = true then
 (spec_l1In k e_0.2.2.1 21 108).bind fun r3 =>
 if r3 = true then
 (spec_l1In k e_0.2.2.2.1 1 4).bind fun r4 =>
 some (decide (r4 = true))
 else some false
 else some false
 else some false := by kernel_rfl
theorem spec_l8Before_eq (k : Nat) (a_0 : DT100) (b_1 : DT100) : spec_l8Before (k + 1) a_0 b_1 =
 if (a_0.1 : Int) ≠ b_1.1 then
 some (decide ((a_0.1 : Int) < b_1.1))
 else if (a_0.2.2.2.1 : Int) ≠ b_1.2.2.2.1 then
 some (decide ((a_0.2.2.2.1 : Int) < b_1.2.2.2.1))
 else some (decide ((a_0.2.2.1 : Int) < b_1.2.2.1)) := by kernel_rfl
theorem spec_Max_eq (k : Nat) (a_0 : Int) (b_1 : Int) : spec_Max (k + 1) a_0 b_1 =
 if (a_0 : Int) < b_1 then
 some b_1
 else some a_0 := by kernel_rfl
theorem spec_VoiceOf_eq (k : Nat) (l_0 : (List DT100)) (voice_1 : Int) : spec_VoiceOf (k + 1) l_0 voice_1 =
 spec_VoiceOf.l0 k k l_0 voice_1 0 [] := by kernel_rfl
theorem spec_VoiceOf.l0_eq (k m : Nat) (l_0 : (List DT100)) (voice_1 : Int) (i_6 : Int) (s0 : (List DT100)) : spec_VoiceOf.l0 k (m + 1) l_0 voice_1 i_6 s0 =
 if (i_6 : Int) < ((List.length l_0 : Nat) : Int) then
 if 0 ≤ i_6 then
 if i_6 < ((List.length l_0 : Nat) : Int) then
 if Eq (α := Int) (rd T100 l_0 i_6).2.2.2.1 voice_1 then
 if 0 ≤ i_6 then
 if i_6 < ((List.length l_0 : Nat) : Int) then
 if (List.length s0 + List.length ([(rd T100 l_0 i_6)] : (List DT100))) * 32 ≤ 211106232532992 then
 spec_VoiceOf.l0 k m l_0 voice_1 (IntKind.wrap .i64 (i_6 + 1)) (s0 ++ ([(rd T100 l_0 i_6)] : (List DT100))) else none else none else none
 else spec_VoiceOf.l0 k m l_0 voice_1 (IntKind.wrap .i64 (i_6 + 1)) s0 else none else none
 else some s0 := by kernel_rfl
theorem spec_IsPart_eq (k : Nat) (p_0 : (List DT127)) : spec_IsPart (k + 1) p_0 =
 spec_IsPart.l0 k k p_0 0 0 := by kernel_rfl
theorem spec_IsPart.l0_eq (k m : Nat) (p_0 : (List DT127)) (at_3 : Int) (i_4 : Int) : spec_IsPart.l0 k (m + 1) p_0 at_3 i_4 =
 if (i_4 : Int) < ((List.length p_0 : Nat) : Int) then
 if 0 ≤ i_4 then
 if i_4 < ((List.length p_0 : Nat) : Int) then
 if Ne (α := Int) (rd T127 p_0 i_4).1 at_3 then
 some false
 else (spec_l1In k (rd T127 p_0 i_4).2.1 1 3000).bind fun r1 =>
 if ¬ (r1 = true) then
 some false
 else if Ne (α := Int) (rd T127 p_0 i_4).2.2.1 0 then
 (spec_l1In k (rd T127 p_0 i_4).2.2.1 21 108).bind fun r2 =>
 if ¬ (r2 = true) then
 some false
 else if LT.lt (α := Int) 96 (rd T127 p_0 i_4).2.1 then
 some false
 else if (0 : Int) < i_4 then
 if Eq (α := Int) (rd T127 p_0 i_4).2.2.1 0 then
 if 0 ≤ (IntKind.wrap .i64 (i_4 - 1)) then
 if (IntKind.wrap .i64 (i_4 - 1)) < ((List.length p_0 : Nat) : Int) then
 if Eq (α := Int) (rd T127 p_0 (IntKind.wrap .i64 (i_4 - 1))).2.2.1 0 then
 some false
 else spec_IsPart.l0 k m p_0 (IntKind.wrap .i64 (at_3 + (rd T127 p_0 i_4).2.1)) (IntKind.wrap .i64 (i_4 + 1)) else none else none
 else spec_IsPart.l0 k m p_0 (IntKind.wrap .i64 (at_3 + (rd T127 p_0 i_4).2.1)) (IntKind.wrap .i64 (i_4 + 1))
 else spec_IsPart.l0 k m p_0 (IntKind.wrap .i64 (at_3 + (rd T127 p_0 i_4).2.1)) (IntKind.wrap .i64 (i_4 + 1))
 else if (0 : Int) < i_4 then
 if Eq (α := Int) (rd T127 p_0 i_4).2.2.1 0 then
 if 0 ≤ (IntKind.wrap .i64 (i_4 - 1)) then
 if (IntKind.wrap .i64 (i_4 - 1)) < ((List.length p_0 : Nat) : Int) then
 if Eq (α := Int) (rd T127 p_0 (IntKind.wrap .i64 (i_4 - 1))).2.2.1 0 then
 some false
 else spec_IsPart.l0 k m p_0 (IntKind.wrap .i64 (at_3 + (rd T127 p_0 i_4).2.1)) (IntKind.wrap .i64 (i_4 + 1)) else none else none
 else spec_IsPart.l0 k m p_0 (IntKind.wrap .i64 (at_3 + (rd T127 p_0 i_4).2.1)) (IntKind.wrap .i64 (i_4 + 1))
 else spec_IsPart.l0 k m p_0 (IntKind.wrap .i64 (at_3 + (rd T127 p_0 i_4).2.1)) (IntKind.wrap .i64 (i_4 + 1)) else none else none
 else some true := by kernel_rfl
theorem spec_EventsOf_eq (k : Nat) (p_0 : (List DT127)) (voice_1 : Int) : spec_EventsOf (k + 1) p_0 voice_1 =
 spec_EventsOf.l0 k k p_0 voice_1 0 [] := by kernel_rfl
theorem spec_EventsOf.l0_eq (k m : Nat) (p_0 : (List DT127)) (voice_1 : Int) (i_6 : Int) (s0 : (List DT100)) : spec_EventsOf.l0 k (m + 1) p_0 voice_1 i_6 s0 =
 if (i_6 : Int) < ((List.length p_0 : Nat) : Int) then
 (spec_IsPart k p_0).bind fun r1 =>
 if r1 = true then
 if 0 ≤ i_6 then
 if i_6 < ((List.length p_0 : Nat) : Int) then
 if Ne (α := Int) (rd T127 p_0 i_6).2.2.1 0 then
 if 0 ≤ i_6 then
 if i_6 < ((List.length p_0 : Nat) : Int) then
 if 0 ≤ i_6 then
 if i_6 < ((List.length p_0 : Nat) : Int) then
 if 0 ≤ i_6 then
 if i_6 < ((List.length p_0 : Nat) : Int) then
 if (List.length s0 + List.length ([((rd T127 p_0 i_6).1, ((rd T127 p_0 i_6).2.1, ((rd T127 p_0 i_6).2.2.1, (voice_1, ()))))] : (List DT100))) * 32 ≤ 211106232532992 then
 spec_EventsOf.l0 k m p_0 voice_1 (IntKind.wrap .i64 (i_6 + 1)) (s0 ++ ([((rd T127 p_0 i_6).1, ((rd T127 p_0 i_6).2.1, ((rd T127 p_0 i_6).2.2.1, (voice_1, ()))))] : (List DT100))) else none else none else none else none else none else none else none
 else spec_EventsOf.l0 k m p_0 voice_1 (IntKind.wrap .i64 (i_6 + 1)) s0 else none else none
 else some s0
 else some s0 := by kernel_rfl
theorem spec_l8Put_eq (k : Nat) (l_0 : (List DT100)) (e_1 : DT100) : spec_l8Put (k + 1) l_0 e_1 =
 spec_l8Put.l0 k k l_0 0 e_1.1 e_1.2.1 e_1.2.2.1 e_1.2.2.2.1 := by kernel_rfl
theorem spec_l8Put.l0_eq (k m : Nat) (l_0 : (List DT100)) (k_5 : Int) (b0_0 : Int) (b0_1 : Int) (b0_2 : Int) (b0_3 : Int) : spec_l8Put.l0 k (m + 1) l_0 k_5 b0_0 b0_1 b0_2 b0_3 =
 if (k_5 : Int) < ((List.length l_0 : Nat) : Int) then
 if 0 ≤ k_5 then
 if k_5 < ((List.length l_0 : Nat) : Int) then
 (spec_l8Before k (rd T100 l_0 k_5) (b0_0, (b0_1, (b0_2, (b0_3, ()))))).bind fun r1 =>
 if r1 = true then
 spec_l8Put.l0 k m l_0 (IntKind.wrap .i64 (k_5 + 1)) b0_0 b0_1 b0_2 b0_3
 else if 0 ≤ k_5 then
 if k_5 ≤ ((List.length l_0 : Nat) : Int) then
 if (List.length ([] : (List DT100)) + List.length (List.take ((Int.toNat k_5) - (Int.toNat 0)) (List.drop (Int.toNat 0) l_0))) * 32 ≤ 211106232532992 then
 if (List.length (([] : (List DT100)) ++ (List.take ((Int.toNat k_5) - (Int.toNat 0)) (List.drop (Int.toNat 0) l_0))) + List.length ([(b0_0, (b0_1, (b0_2, (b0_3, ()))))] : (List DT100))) * 32 ≤ 211106232532992 then
 if 0 ≤ k_5 then
 if k_5 ≤ ((List.length l_0 : Nat) : Int) then
 if (List.length ((([] : (List DT100)) ++ (List.take ((Int.toNat k_5) - (Int.toNat 0)) (List.drop (Int.toNat 0) l_0))) ++ ([(b0_0, (b0_1, (b0_2, (b0_3, ()))))] : (List DT100))) + List.length (List.take ((Int.toNat ((List.length l_0 : Nat) : Int)) - (Int.toNat k_5)) (List.drop (Int.toNat k_5) l_0))) * 32 ≤ 211106232532992 then
 some (((([] : (List DT100)) ++ (List.take ((Int.toNat k_5) - (Int.toNat 0)) (List.drop (Int.toNat 0) l_0))) ++ ([(b0_0, (b0_1, (b0_2, (b0_3, ()))))] : (List DT100))) ++ (List.take ((Int.toNat ((List.length l_0 : Nat) : Int)) - (Int.toNat k_5)) (List.drop (Int.toNat k_5) l_0))) else none else none else none else none else none else none else none else none else none
 else if 0 ≤ k_5 then
 if k_5 ≤ ((List.length l_0 : Nat) : Int) then
 if (List.length ([] : (List DT100)) + List.length (List.take ((Int.toNat k_5) - (Int.toNat 0)) (List.drop (Int.toNat 0) l_0))) * 32 ≤ 211106232532992 then
 if (List.length (([] : (List DT100)) ++ (List.take ((Int.toNat k_5) - (Int.toNat 0)) (List.drop (Int.toNat 0) l_0))) + List.length ([(b0_0, (b0_1, (b0_2, (b0_3, ()))))] : (List DT100))) * 32 ≤ 211106232532992 then
 if 0 ≤ k_5 then
 if k_5 ≤ ((List.length l_0 : Nat) : Int) then
 if (List.length ((([] : (List DT100)) ++ (List.take ((Int.toNat k_5) - (Int.toNat 0)) (List.drop (Int.toNat 0) l_0))) ++ ([(b0_0, (b0_1, (b0_2, (b0_3, ()))))] : (List DT100))) + List.length (List.take ((Int.toNat ((List.length l_0 : Nat) : Int)) - (Int.toNat k_5)) (List.drop (Int.toNat k_5) l_0))) * 32 ≤ 211106232532992 then
 some (((([] : (List DT100)) ++ (List.take ((Int.toNat k_5) - (Int.toNat 0)) (List.drop (Int.toNat 0) l_0))) ++ ([(b0_0, (b0_1, (b0_2, (b0_3, ()))))] : (List DT100))) ++ (List.take ((Int.toNat ((List.length l_0 : Nat) : Int)) - (Int.toNat k_5)) (List.drop (Int.toNat k_5) l_0))) else none else none else none else none else none else none else none := by kernel_rfl
theorem impl_eventOrder_eq (k : Nat) (a_0 : DT100) (b_1 : DT100) : impl_eventOrder (k + 1) a_0 b_1 =
 (cmp_Compare_int k a_0.1 b_1.1).bind fun r1 =>
 (cmp_Compare_int k a_0.2.2.2.1 b_1.2.2.2.1).bind fun r2 =>
 (cmp_Compare_int k a_0.2.2.1 b_1.2.2.1).bind fun r3 =>
 (cmp_Or_int k ([r1, r2, r3])).bind fun r4 =>
 some r4 := by kernel_rfl
theorem impl_VoiceOf_eq (k : Nat) (l_0 : (List DT100)) (voice_1 : Int) : impl_VoiceOf (k + 1) l_0 voice_1 =
 (impl_clone_impl_Event k l_0).bind fun r1 =>
 (slices_DeleteFunc_impl_Event_95 k r1 voice_1).bind fun r2 =>
 some r2 := by kernel_rfl
theorem impl_IsPart_eq (k : Nat) (p_0 : (List DT127)) : impl_IsPart (k + 1) p_0 =
 impl_IsPart.l0 k k p_0 0 p_0 ((List.length p_0 : Nat) : Int) 0 := by kernel_rfl
theorem impl_IsPart.l0_eq (k m : Nat) (p_0 : (List DT127)) (at_3 : Int) (t_7 : (List DT127)) (t_8 : Int) (t_9 : Int) : impl_IsPart.l0 k (m + 1) p_0 at_3 t_7 t_8 t_9 =
 if (t_9 : Int) < t_8 then
 if 0 ≤ t_9 then
 if t_9 < ((List.length t_7 : Nat) : Int) then
 if Ne (α := Int) (rd T127 t_7 t_9).1 at_3 then
 some false
 else (impl_InRange k (rd T127 t_7 t_9).2.1 1 3000).bind fun r1 =>
 if ¬ (r1 = true) then
 some false
 else if ¬ (Eq (α := Int) (rd T127 t_7 t_9).2.2.1 0) then
 (impl_InRange k (rd T127 t_7 t_9).2.2.1 21 108).bind fun r2 =>
 if ¬ (r2 = true) then
 some false
 else if LT.lt (α := Int) 96 (rd T127 t_7 t_9).2.1 then
 some false
 else if Eq (α := Int) (rd T127 t_7 t_9).2.2.1 0 then
 if (0 : Int) < t_9 then
 if 0 ≤ (IntKind.wrap .i64 (t_9 - 1)) then
 if (IntKind.wrap .i64 (t_9 - 1)) < ((List.length p_0 : Nat) : Int) then
 if Eq (α := Int) (rd T127 p_0 (IntKind.wrap .i64 (t_9 - 1))).2.2.1 0 then
 some false
 else impl_IsPart.l0 k m p_0 (IntKind.wrap .i64 (at_3 + (rd T127 t_7 t_9).2.1)) t_7 t_8 (IntKind.wrap .i64 (t_9 + 1)) else none else none
 else impl_IsPart.l0 k m p_0 (IntKind.wrap .i64 (at_3 + (rd T127 t_7 t_9).2.1)) t_7 t_8 (IntKind.wrap .i64 (t_9 + 1))
 else impl_IsPart.l0 k m p_0 (IntKind.wrap .i64 (at_3 + (rd T127 t_7 t_9).2.1)) t_7 t_8 (IntKind.wrap .i64 (t_9 + 1))
 else if Eq (α := Int) (rd T127 t_7 t_9).2.2.1 0 then
 if (0 : Int) < t_9 then
 if 0 ≤ (IntKind.wrap .i64 (t_9 - 1)) then
 if (IntKind.wrap .i64 (t_9 - 1)) < ((List.length p_0 : Nat) : Int) then
 if Eq (α := Int) (rd T127 p_0 (IntKind.wrap .i64 (t_9 - 1))).2.2.1 0 then
 some false
 else impl_IsPart.l0 k m p_0 (IntKind.wrap .i64 (at_3 + (rd T127 t_7 t_9).2.1)) t_7 t_8 (IntKind.wrap .i64 (t_9 + 1)) else none else none
 else impl_IsPart.l0 k m p_0 (IntKind.wrap .i64 (at_3 + (rd T127 t_7 t_9).2.1)) t_7 t_8 (IntKind.wrap .i64 (t_9 + 1))
 else impl_IsPart.l0 k m p_0 (IntKind.wrap .i64 (at_3 + (rd T127 t_7 t_9).2.1)) t_7 t_8 (IntKind.wrap .i64 (t_9 + 1)) else none else none
 else some true := by kernel_rfl
theorem impl_EventsOf_eq (k : Nat) (p_0 : (List DT127)) (voice_1 : Int) : impl_EventsOf (k + 1) p_0 voice_1 =
 (impl_IsPart k p_0).bind fun r1 =>
 if r1 = true then
 impl_EventsOf.l0 k k voice_1 p_0 ((List.length p_0 : Nat) : Int) 0 []
 else some [] := by kernel_rfl
theorem impl_EventsOf.l0_eq (k m : Nat) (voice_1 : Int) (t_11 : (List DT127)) (t_12 : Int) (t_13 : Int) (s0 : (List DT100)) : impl_EventsOf.l0 k (m + 1) voice_1 t_11 t_12 t_13 s0 =
 if (t_13 : Int) < t_12 then
 if 0 ≤ t_13 then
 if t_13 < ((List.length t_11 : Nat) : Int) then
 if Ne (α := Int) (rd T127 t_11 t_13).2.2.1 0 then
 if (List.length s0 + List.length ([((rd T127 t_11 t_13).1, ((rd T127 t_11 t_13).2.1, ((rd T127 t_11 t_13).2.2.1, (voice_1, ()))))] : (List DT100))) * 32 ≤ 211106232532992 then
 impl_EventsOf.l0 k m voice_1 t_11 t_12 (IntKind.wrap .i64 (t_13 + 1)) (s0 ++ ([((rd T127 t_11 t_13).1, ((rd T127 t_11 t_13).2.1, ((rd T127 t_11 t_13).2.2.1, (voice_1, ()))))] : (List DT100))) else none
 else impl_EventsOf.l0 k m voice_1 t_11 t_12 (IntKind.wrap .i64 (t_13 + 1)) s0 else none else none
 else some s0 := by kernel_rfl
theorem slices_SortFunc_impl_Event_85_eq (k : Nat) (x_0 : (List DT100)) : slices_SortFunc_impl_Event_85 (k + 1) x_0 = (primSortF 85 T100 evCmp) (.pair .unit (.list T100)) [.lend (.list T100) x_0, .clo 85 []] := by kernel_rfl
theorem impl_clone_impl_Event_eq (k : Nat) (l_0 : (List DT100)) : impl_clone_impl_Event (k + 1) l_0 =
 if (List.length ([] : (List DT100)) + List.length l_0) * 32 ≤ 211106232532992 then
 some (([] : (List DT100)) ++ l_0) else none := by kernel_rfl
theorem slices_DeleteFunc_impl_Event_92_eq (k : Nat) (s_0 : (List DT100)) (c1_0 : Int) : slices_DeleteFunc_impl_Event_92 (k + 1) s_0 c1_0 =
 (slices_IndexFunc_impl_Event_92 k s_0 c1_0).bind fun r1 =>
 if (r1 : Int) = (-1) then
 some s_0
 else slices_DeleteFunc_impl_Event_92.l0 k k c1_0 r1 (IntKind.wrap .i64 (r1 + 1)) s_0 := by kernel_rfl
theorem slices_DeleteFunc_impl_Event_92.l0_eq (k m : Nat) (del_1_c : Int) (i_5 : Int) (j_6 : Int) (s0 : (List DT100)) : slices_DeleteFunc_impl_Event_92.l0 k (m + 1) del_1_c i_5 j_6 s0 =
 if (j_6 : Int) < ((List.length s0 : Nat) : Int) then
 if 0 ≤ j_6 then
 if j_6 < ((List.length s0 : Nat) : Int) then
 (impl_upTo_1 k (rd T100 s0 j_6) del_1_c).bind fun r2 =>
 if ¬ (r2 = true) then
 if 0 ≤ i_5 then
 if i_5 < ((List.length s0 : Nat) : Int) then
 slices_DeleteFunc_impl_Event_92.l0 k m del_1_c (IntKind.wrap .i64 (i_5 + 1)) (IntKind.wrap .i64 (j_6 + 1)) (List.set s0 (Int.toNat i_5) (rd T100 s0 j_6)) else none else none
 else slices_DeleteFunc_impl_Event_92.l0 k m del_1_c i_5 (IntKind.wrap .i64 (j_6 + 1)) s0 else none else none
 else if 0 ≤ i_5 then
 if i_5 ≤ ((List.length s0 : Nat) : Int) then
 if 0 ≤ i_5 then
 if i_5 ≤ ((List.length (List.take (Int.toNat i_5) s0 ++ List.replicate ((Int.toNat ((List.length s0 : Nat) : Int)) - (Int.toNat i_5)) (Ty.dflt T100) ++ List.drop ((Int.toNat i_5) + ((Int.toNat ((List.length s0 : Nat) : Int)) - (Int.toNat i_5))) s0) : Nat) : Int) then
 some (List.take ((Int.toNat i_5) - (Int.toNat 0)) (List.drop (Int.toNat 0) (List.take (Int.toNat i_5) s0 ++ List.replicate ((Int.toNat ((List.length s0 : Nat) : Int)) - (Int.toNat i_5)) (Ty.dflt T100) ++ List.drop ((Int.toNat i_5) + ((Int.toNat ((List.length s0 : Nat) : Int)) - (Int.toNat i_5))) s0))) else none else none else none else none := by kernel_rfl
theorem cmp_Compare_int_eq (k : Nat) (x_0 : Int) (y_1 : Int) : cmp_Compare_int (k + 1) x_0 y_1 =
 (cmp_isNaN_int k x_0).bind fun r1 =>
 (cmp_isNaN_int k y_1).bind fun r2 =>
 if r1 = true then
 if r2 = true then
 some 0
 else some (-1)
 else if r2 = true then
 some 1
 else if (x_0 : Int) < y_1 then
 some (-1)
 else if (y_1 : Int) < x_0 then
 some 1
 else some 0 := by kernel_rfl
theorem cmp_Or_int_eq (k : Nat) (vals_0 : (List Int)) : cmp_Or_int (k + 1) vals_0 =
 cmp_Or_int.l0 k k 0 vals_0 ((List.length vals_0 : Nat) : Int) 0 := by kernel_rfl
theorem cmp_Or_int.l0_eq (k m : Nat) (zero_3 : Int) (t_6 : (List Int)) (t_7 : Int) (t_8 : Int) : cmp_Or_int.l0 k (m + 1) zero_3 t_6 t_7 t_8 =
 if (t_8 : Int) < t_7 then
 if 0 ≤ t_8 then
 if t_8 < ((List.length t_6 : Nat) : Int) then
 if Ne (α := Int) (rd (.int .i64) t_6 t_8) zero_3 then
 some (rd (.int .i64) t_6 t_8)
 else cmp_Or_int.l0 k m zero_3 t_6 t_7 (IntKind.wrap .i64 (t_8 + 1)) else none else none
 else some zero_3 := by kernel_rfl
theorem slices_DeleteFunc_impl_Event_95_eq (k : Nat) (s_0 : (List DT100)) (c1_0 : Int) : slices_DeleteFunc_impl_Event_95 (k + 1) s_0 c1_0 =
 (slices_IndexFunc_impl_Event_95 k s_0 c1_0).bind fun r1 =>
 if (r1 : Int) = (-1) then
 some s_0
 else slices_DeleteFunc_impl_Event_95.l0 k k c1_0 r1 (IntKind.wrap .i64 (r1 + 1)) s_0 := by kernel_rfl
theorem slices_DeleteFunc_impl_Event_95.l0_eq (k m : Nat) (del_1_c : Int) (i_5 : Int) (j_6 : Int) (s0 : (List DT100)) : slices_DeleteFunc_impl_Event_95.l0 k (m + 1) del_1_c i_5 j_6 s0 =
 if (j_6 : Int) < ((List.length s0 : Nat) : Int) then
 if 0 ≤ j_6 then
 if j_6 < ((List.length s0 : Nat) : Int) then
 (impl_VoiceOf_1 k (rd T100 s0 j_6) del_1_c).bind fun r2 =>
 if ¬ (r2 = true) then
 if 0 ≤ i_5 then
 if i_5 < ((List.length s0 : Nat) : Int) then
 slices_DeleteFunc_impl_Event_95.l0 k m del_1_c (IntKind.wrap .i64 (i_5 + 1)) (IntKind.wrap .i64 (j_6 + 1)) (List.set s0 (Int.toNat i_5) (rd T100 s0 j_6)) else none else none
 else slices_DeleteFunc_impl_Event_95.l0 k m del_1_c i_5 (IntKind.wrap .i64 (j_6 + 1)) s0 else none else none
 else if 0 ≤ i_5 then
 if i_5 ≤ ((List.length s0 : Nat) : Int) then
 if 0 ≤ i_5 then
 if i_5 ≤ ((List.length (List.take (Int.toNat i_5) s0 ++ List.replicate ((Int.toNat ((List.length s0 : Nat) : Int)) - (Int.toNat i_5)) (Ty.dflt T100) ++ List.drop ((Int.toNat i_5) + ((Int.toNat ((List.length s0 : Nat) : Int)) - (Int.toNat i_5))) s0) : Nat) : Int) then
 some (List.take ((Int.toNat i_5) - (Int.toNat 0)) (List.drop (Int.toNat 0) (List.take (Int.toNat i_5) s0 ++ List.replicate ((Int.toNat ((List.length s0 : Nat) : Int)) - (Int.toNat i_5)) (Ty.dflt T100) ++ List.drop ((Int.toNat i_5) + ((Int.toNat ((List.length s0 : Nat) : Int)) - (Int.toNat i_5))) s0))) else none else none else none else none := by kernel_rfl
theorem slices_IndexFunc_impl_Event_92_eq (k : Nat) (s_0 : (List DT100)) (c1_0 : Int) : slices_IndexFunc_impl_Event_92 (k + 1) s_0 c1_0 =
 slices_IndexFunc_impl_Event_92.l0 k k s_0 c1_0 ((List.length s_0 : Nat) : Int) 0 := by kernel_rfl
theorem slices_IndexFunc_impl_Event_92.l0_eq (k m : Nat) (s_0 : (List DT100)) (f_1_c : Int) (t_7 : Int) (t_8 : Int) : slices_IndexFunc_impl_Event_92.l0 k (m + 1) s_0 f_1_c t_7 t_8 =
 if (t_8 : Int) < t_7 then
 if 0 ≤ t_8 then
 if t_8 < ((List.length s_0 : Nat) : Int) then
 (impl_upTo_1 k (rd T100 s_0 t_8) f_1_c).bind fun r1 =>
 if r1 = true then
 some t_8
 else slices_IndexFunc_impl_Event_92.l0 k m s_0 f_1_c t_7 (IntKind.wrap .i64 (t_8 + 1)) else none else none
 else some (-1) := by kernel_rfl
theorem impl_upTo_1_eq (k : Nat) (e_0 : DT100) (a_1 : Int) : impl_upTo_1 (k + 1) e_0 a_1 =
 some (decide ((a_1 : Int) < e_0.2.2.2.1)) := by kernel_rfl
theorem cmp_isNaN_int_eq (k : Nat) (x_0 : Int) : cmp_isNaN_int (k + 1) x_0 =
 some (decide ((x_0 : Int) ≠ x_0)) := by kernel_rfl
theorem slices_IndexFunc_impl_Event_95_eq (k : Nat) (s_0 : (List DT100)) (c1_0 : Int) : slices_IndexFunc_impl_Event_95 (k + 1) s_0 c1_0 =
 slices_IndexFunc_impl_Event_95.l0 k k s_0 c1_0 ((List.length s_0 : Nat) : Int) 0 := by kernel_rfl
theorem slices_IndexFunc_impl_Event_95.l0_eq (k m : Nat) (s_0 : (List DT100)) (f_1_c : Int) (t_7 : Int) (t_8 : Int) : slices_IndexFunc_impl_Event_95.l0 k (m + 1) s_0 f_1_c t_7 t_8 =
 if (t_8 : Int) < t_7 then
 if 0 ≤ t_8 then
 if t_8 < ((List.length s_0 : Nat) : Int) then
 (impl_VoiceOf_1 k (rd T100 s_0 t_8) f_1_c).bind fun r1 =>
 if r1 = true then
 some t_8
 else slices_IndexFunc_impl_Event_95.l0 k m s_0 f_1_c t_7 (IntKind.wrap .i64 (t_8 + 1)) else none else none
 else some (-1) := by kernel_rfl
theorem impl_VoiceOf_1_eq (k : Nat) (e_0 : DT100) (a_1 : Int) : impl_VoiceOf_1 (k + 1) e_0 a_1 =
 some (decide ((e_0.2.2.2.1 : Int) ≠ a_1)) := by kernel_rfl
end Go.QFnExactArePartsTrue
