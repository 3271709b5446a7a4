/- The functions that the law FnExactFormatOrchestra reaches, as equations; printed by pe.py. No condition. -/
import Derived.Test.YtfjnjnmdlidpgaaDoorPrim
import Derived.Test.YtfjnjnmdlidpgaaDoorProg
import Derived.KernelRfl
set_option linter.unusedVariables false
open Go Go.Flat
namespace Go.QFnExactFormatOrchestra
abbrev T36 : Ty := .pair (.int .i64) (.pair (.int .i64) .unit)
abbrev DT36 := Int × (Int × Unit)
abbrev T66 : Ty := .pair (.int .i64) T36
abbrev DT66 := Int × DT36
abbrev T59 : Ty := .pair (.int .i64) T66
abbrev DT59 := Int × DT66
abbrev T100 : Ty := .pair (.int .i64) (.pair (.int .i64) (.pair (.int .i64) (.pair (.list (.int .i64)) .unit)))
abbrev DT100 := Int × (Int × (Int × ((List Int) × Unit)))
abbrev T108 : Ty := .pair (.int .i64) T59
abbrev DT108 := Int × DT59
abbrev T43 : Ty := .pair (.list T59) (.pair T36 (.pair (.list T36) (.pair (.list T100) (.pair (.list (.int .i64)) (.pair (.list T108) (.pair (.list T36) T36))))))
abbrev DT43 := (List DT59) × (DT36 × ((List DT36) × ((List DT100) × ((List Int) × ((List DT108) × ((List DT36) × DT36))))))
noncomputable def C : Cfg := {
  P := Go.Proofs.Tryd.prog,
  tt := [(1, none), (2, some (.int .i64)), (3, some (.int .i64)), (4, some .bool), (5, some (.int .u8)), (6, some (.int .u8)), (9, some .str), (10, some .str), (11, some .str), (12, some (.int .u64)), (15, none), (16, none), (17, none), (21, some (.int .i32)), (22, some (.list T59)), (23, none), (24, none), (25, some (.list T59)), (26, none), (27, none), (28, none), (29, some (.list T66)), (30, none), (31, none), (32, some (.list T66)), (33, none), (34, none), (35, none), (36, some T36), (37, some T36), (38, some (.list T36)), (39, some (.list T100)), (40, some (.list (.int .i64))), (41, some (.list T108)), (42, some (.list T36)), (43, some T43), (44, some T43), (45, none), (46, none), (47, some T36), (48, some (.list T36)), (49, some (.list T100)), (50, some (.list T108)), (51, some (.list T36)), (52, some T43), (53, some T43), (54, none), (55, none), (56, none), (57, some (.list .str)), (58, none), (59, some T59), (60, some T59), (61, none), (62, none), (63, some T59), (64, none), (65, none), (66, some T66), (67, some T66), (68, none), (69, none), (70, some T66), (71, none), (72, none), (73, none), (74, none), (75, none), (76, none), (77, none), (78, none), (79, none), (80, none), (81, none), (82, none), (83, none), (84, none), (85, none), (86, none), (87, none), (88, none), (89, none), (90, none), (91, none), (92, none), (93, some T66), (94, some T66), (96, none), (97, none), (98, some (.list (.int .u8))), (99, none), (100, some T100), (101, some T100), (102, some T36), (103, some T36), (104, none), (105, some T36), (106, some T100), (107, none), (108, some T108), (109, some T108), (110, none), (111, some T108), (112, some T36), (113, some T36), (114, none), (115, some T36), (116, none), (117, none), (118, none), (119, none), (120, none), (121, none), (124, none), (128, none), (129, none), (130, none), (131, none), (132, none), (133, none), (134, none), (135, none), (136, none), (137, none), (138, none), (139, some (.int .u64)), (141, none), (142, none), (143, none), (145, none), (146, none), (148, some (.int .u32)), (150, none), (151, some (.int .u64)), (153, none), (155, none), (156, none), (158, none), (159, none), (162, none), (163, none), (164, none), (172, some (.int .u8)), (173, some (.int .u8)), (174, none), (175, some (.int .i32)), (176, some (.int .i32)), (179, none)],
  vars := [(8, [0, 3, 4]), (10, [0, 1, 5]), (22, [0, 3, 4]), (28, [0, 3, 4]), (36, [0, 1, 5]), (40, [0, 3, 4]), (42, [0, 3, 4]), (43, [0, 3, 4]), (44, [0, 3, 4]), (45, [0, 3, 4]), (46, [0, 3, 4]), (49, [0, 1, 5]), (50, [0, 1, 5]), (51, [0, 1, 5]), (52, [0, 1, 5]), (53, [0, 1, 5]), (54, [0, 1, 5, 8, 39, 40, 41, 63, 64, 65]), (65, [1, 5, 12, 13, 14])],
  sigs := [],
  prim := fun f => bif Nat.beq f 54 then some primJoin else bif Nat.beq f 59 then some primItoa else none,
  tabs := [("internal/strconv.uint64pow10", Lib.pow10Tab)] }
noncomputable def laws_FnExactFormatOrchestra (k : Nat) (aO_0 : DT43) : Option Bool := run C k 5 .bool [.val T43 aO_0]
noncomputable def laws_szOrchestra (k : Nat) (a_0 : DT43) (left_1 : Int) : Option Int := run C k 16 (.int .i64) [.val T43 a_0, .val (.int .i64) left_1]
noncomputable def laws_toOrchestra (k : Nat) (a_0 : DT43) : Option DT43 := run C k 18 T43 [.val T43 a_0]
noncomputable def spec_FormatOrchestra (k : Nat) (o_0 : DT43) : Option ByteArray := run C k 17 .str [.val T43 o_0]
noncomputable def impl_FormatOrchestra (k : Nat) (o_0 : DT43) : Option ByteArray := run C k 19 .str [.val T43 o_0]
noncomputable def laws_eqOrchestra (k : Nat) (a_0 : DT43) (b_1 : DT43) : Option Bool := run C k 20 .bool [.val T43 a_0, .val T43 b_1]
noncomputable def laws_szEventS (k : Nat) (a_0 : (List DT59)) (left_1 : Int) : Option Int := run C k 6 (.int .i64) [.val (.list T59) a_0, .val (.int .i64) left_1]
noncomputable def laws_szTempoS (k : Nat) (a_0 : (List DT36)) (left_1 : Int) : Option Int := run C k 35 (.int .i64) [.val (.list T36) a_0, .val (.int .i64) left_1]
noncomputable def laws_szPlayerS (k : Nat) (a_0 : (List DT100)) (left_1 : Int) : Option Int := run C k 36 (.int .i64) [.val (.list T100) a_0, .val (.int .i64) left_1]
noncomputable def laws_szPlayerS.l0 (k m : Nat) (a_0 : (List DT100)) (left_1 : Int) (i_5 : Int) : Option Int := loopRun C k 36 (.int .i64) [0, 0] [.r, .r, .r, .l, .r, .b] [] [0, 1, 5] m ⟨[.one (.cell (.list false T100 a_0)), .one (.cell (.int .i64 left_1)), .one (.cell (.int .i64 i_5))], []⟩
noncomputable def laws_szIntS (k : Nat) (a_0 : (List Int)) (left_1 : Int) : Option Int := run C k 37 (.int .i64) [.val (.list (.int .i64)) a_0, .val (.int .i64) left_1]
noncomputable def laws_szMarkS (k : Nat) (a_0 : (List DT108)) (left_1 : Int) : Option Int := run C k 38 (.int .i64) [.val (.list T108) a_0, .val (.int .i64) left_1]
noncomputable def laws_szLetterS (k : Nat) (a_0 : (List DT36)) (left_1 : Int) : Option Int := run C k 39 (.int .i64) [.val (.list T36) a_0, .val (.int .i64) left_1]
noncomputable def laws_toEventS (k : Nat) (a_0 : (List DT59)) : Option (List DT59) := run C k 8 (.list T59) [.val (.list T59) a_0]
noncomputable def laws_toEventS.l0 (k m : Nat) (a_0 : (List DT59)) (i_4 : Int) (s0 : (List DT59)) : Option (List DT59) := loopRun C k 8 (.list T59) [0] [.r, .r, .l, .r, .b] [] [0, 3, 4] m ⟨[.one (.cell (.list false T59 a_0)), .one (.cell (.ref 1)), .one (.cell (.int .i64 i_4))], [.arr T59 s0 .open]⟩
noncomputable def laws_toMeter (k : Nat) (a_0 : DT36) : Option DT36 := run C k 41 T36 [.val T36 a_0]
noncomputable def laws_toTempoS (k : Nat) (a_0 : (List DT36)) : Option (List DT36) := run C k 42 (.list T36) [.val (.list T36) a_0]
noncomputable def laws_toTempoS.l0 (k m : Nat) (a_0 : (List DT36)) (i_4 : Int) (s0 : (List DT36)) : Option (List DT36) := loopRun C k 42 (.list T36) [0] [.r, .r, .l, .r, .b] [] [0, 3, 4] m ⟨[.one (.cell (.list false T36 a_0)), .one (.cell (.ref 1)), .one (.cell (.int .i64 i_4))], [.arr T36 s0 .open]⟩
noncomputable def laws_toPlayerS (k : Nat) (a_0 : (List DT100)) : Option (List DT100) := run C k 43 (.list T100) [.val (.list T100) a_0]
noncomputable def laws_toPlayerS.l0 (k m : Nat) (a_0 : (List DT100)) (i_4 : Int) (s0 : (List DT100)) : Option (List DT100) := loopRun C k 43 (.list T100) [0] [.r, .r, .l, .r, .b] [] [0, 3, 4] m ⟨[.one (.cell (.list false T100 a_0)), .one (.cell (.ref 1)), .one (.cell (.int .i64 i_4))], [.arr T100 s0 .open]⟩
noncomputable def laws_toIntS (k : Nat) (a_0 : (List Int)) : Option (List Int) := run C k 44 (.list (.int .i64)) [.val (.list (.int .i64)) a_0]
noncomputable def laws_toIntS.l0 (k m : Nat) (a_0 : (List Int)) (i_4 : Int) (s0 : (List Int)) : Option (List Int) := loopRun C k 44 (.list (.int .i64)) [0] [.r, .r, .l, .r, .b] [] [0, 3, 4] m ⟨[.one (.cell (.list false (.int .i64) a_0)), .one (.cell (.ref 1)), .one (.cell (.int .i64 i_4))], [.arr (.int .i64) s0 .open]⟩
noncomputable def laws_toMarkS (k : Nat) (a_0 : (List DT108)) : Option (List DT108) := run C k 45 (.list T108) [.val (.list T108) a_0]
noncomputable def laws_toMarkS.l0 (k m : Nat) (a_0 : (List DT108)) (i_4 : Int) (s0 : (List DT108)) : Option (List DT108) := loopRun C k 45 (.list T108) [0] [.r, .r, .l, .r, .b] [] [0, 3, 4] m ⟨[.one (.cell (.list false T108 a_0)), .one (.cell (.ref 1)), .one (.cell (.int .i64 i_4))], [.arr T108 s0 .open]⟩
noncomputable def laws_toLetterS (k : Nat) (a_0 : (List DT36)) : Option (List DT36) := run C k 46 (.list T36) [.val (.list T36) a_0]
noncomputable def laws_toLetterS.l0 (k m : Nat) (a_0 : (List DT36)) (i_4 : Int) (s0 : (List DT36)) : Option (List DT36) := loopRun C k 46 (.list T36) [0] [.r, .r, .l, .r, .b] [] [0, 3, 4] m ⟨[.one (.cell (.list false T36 a_0)), .one (.cell (.ref 1)), .one (.cell (.int .i64 i_4))], [.arr T36 s0 .open]⟩
noncomputable def spec_FormatNumbers (k : Nat) (l_0 : (List Int)) : Option ByteArray := run C k 40 .str [.val (.list (.int .i64)) l_0]
noncomputable def spec_FormatNumbers.l0 (k m : Nat) (l_0 : (List Int)) (i_4 : Int) (s0 : (List ByteArray)) : Option ByteArray := loopRun C k 40 .str [0] [.r, .r, .l, .r, .b] [] [0, 3, 4] m ⟨[.one (.cell (.list false (.int .i64) l_0)), .one (.cell (.ref 1)), .one (.cell (.int .i64 i_4))], [.arr .str s0 .open]⟩
noncomputable def impl_FormatNumbers (k : Nat) (l_0 : (List Int)) : Option ByteArray := run C k 47 .str [.val (.list (.int .i64)) l_0]
noncomputable def laws_eqEventS (k : Nat) (a_0 : (List DT59)) (b_1 : (List DT59)) : Option Bool := run C k 10 .bool [.val (.list T59) a_0, .val (.list T59) b_1]
noncomputable def laws_eqEventS.l0 (k m : Nat) (a_0 : (List DT59)) (b_1 : (List DT59)) (i_5 : Int) : Option Bool := loopRun C k 10 .bool [0, 0] [.r, .r, .l, .r, .b] [] [0, 1, 5] m ⟨[.one (.cell (.list false T59 a_0)), .one (.cell (.list false T59 b_1)), .one (.cell (.int .i64 i_5))], []⟩
noncomputable def laws_eqMeter (k : Nat) (a_0 : DT36) (b_1 : DT36) : Option Bool := run C k 48 .bool [.val T36 a_0, .val T36 b_1]
noncomputable def laws_eqTempoS (k : Nat) (a_0 : (List DT36)) (b_1 : (List DT36)) : Option Bool := run C k 49 .bool [.val (.list T36) a_0, .val (.list T36) b_1]
noncomputable def laws_eqTempoS.l0 (k m : Nat) (a_0 : (List DT36)) (b_1 : (List DT36)) (i_5 : Int) : Option Bool := loopRun C k 49 .bool [0, 0] [.r, .r, .l, .r, .b] [] [0, 1, 5] m ⟨[.one (.cell (.list false T36 a_0)), .one (.cell (.list false T36 b_1)), .one (.cell (.int .i64 i_5))], []⟩
noncomputable def laws_eqPlayerS (k : Nat) (a_0 : (List DT100)) (b_1 : (List DT100)) : Option Bool := run C k 50 .bool [.val (.list T100) a_0, .val (.list T100) b_1]
noncomputable def laws_eqPlayerS.l0 (k m : Nat) (a_0 : (List DT100)) (b_1 : (List DT100)) (i_5 : Int) : Option Bool := loopRun C k 50 .bool [0, 0] [.r, .r, .l, .r, .b] [] [0, 1, 5] m ⟨[.one (.cell (.list false T100 a_0)), .one (.cell (.list false T100 b_1)), .one (.cell (.int .i64 i_5))], []⟩
noncomputable def laws_eqIntS (k : Nat) (a_0 : (List Int)) (b_1 : (List Int)) : Option Bool := run C k 51 .bool [.val (.list (.int .i64)) a_0, .val (.list (.int .i64)) b_1]
noncomputable def laws_eqIntS.l0 (k m : Nat) (a_0 : (List Int)) (b_1 : (List Int)) (i_5 : Int) : Option Bool := loopRun C k 51 .bool [0, 0] [.r, .r, .l, .r, .b] [] [0, 1, 5] m ⟨[.one (.cell (.list false (.int .i64) a_0)), .one (.cell (.list false (.int .i64) b_1)), .one (.cell (.int .i64 i_5))], []⟩
noncomputable def laws_eqMarkS (k : Nat) (a_0 : (List DT108)) (b_1 : (List DT108)) : Option Bool := run C k 52 .bool [.val (.list T108) a_0, .val (.list T108) b_1]
noncomputable def laws_eqMarkS.l0 (k m : Nat) (a_0 : (List DT108)) (b_1 : (List DT108)) (i_5 : Int) : Option Bool := loopRun C k 52 .bool [0, 0] [.r, .r, .l, .r, .b] [] [0, 1, 5] m ⟨[.one (.cell (.list false T108 a_0)), .one (.cell (.list false T108 b_1)), .one (.cell (.int .i64 i_5))], []⟩
noncomputable def laws_eqLetterS (k : Nat) (a_0 : (List DT36)) (b_1 : (List DT36)) : Option Bool := run C k 53 .bool [.val (.list T36) a_0, .val (.list T36) b_1]
noncomputable def laws_eqLetterS.l0 (k m : Nat) (a_0 : (List DT36)) (b_1 : (List DT36)) (i_5 : Int) : Option Bool := loopRun C k 53 .bool [0, 0] [.r, .r, .l, .r, .b] [] [0, 1, 5] m ⟨[.one (.cell (.list false T36 a_0)), .one (.cell (.list false T36 b_1)), .one (.cell (.int .i64 i_5))], []⟩
noncomputable def laws_szPlayer (k : Nat) (a_0 : DT100) (left_1 : Int) : Option Int := run C k 60 (.int .i64) [.val T100 a_0, .val (.int .i64) left_1]
noncomputable def laws_toEvent (k : Nat) (a_0 : DT59) : Option DT59 := run C k 23 T59 [.val T59 a_0]
noncomputable def laws_toTempo (k : Nat) (a_0 : DT36) : Option DT36 := run C k 61 T36 [.val T36 a_0]
noncomputable def laws_toPlayer (k : Nat) (a_0 : DT100) : Option DT100 := run C k 62 T100 [.val T100 a_0]
noncomputable def laws_toMark (k : Nat) (a_0 : DT108) : Option DT108 := run C k 63 T108 [.val T108 a_0]
noncomputable def laws_toLetter (k : Nat) (a_0 : DT36) : Option DT36 := run C k 64 T36 [.val T36 a_0]
noncomputable def spec_FormatInt (k : Nat) (n_0 : Int) : Option ByteArray := run C k 28 .str [.val (.int .i64) n_0]
noncomputable def spec_FormatInt.l0 (k m : Nat) (n_0 : Int) (s_3 : ByteArray) (x_4 : Int) : Option ByteArray := loopRun C k 28 .str [0] [.r, .r, .r, .l, .r, .b] [] [0, 3, 4] m ⟨[.one (.cell (.int .i64 n_0)), .one (.cell (.str s_3)), .one (.cell (.int .i64 x_4))], []⟩
noncomputable def spec_l39Join (k : Nat) (l_0 : (List ByteArray)) : Option ByteArray := run C k 22 .str [.val (.list .str) l_0]
noncomputable def spec_l39Join.l0 (k m : Nat) (l_0 : (List ByteArray)) (s_3 : ByteArray) (i_4 : Int) : Option ByteArray := loopRun C k 22 .str [0] [.r, .r, .l, .r, .b] [] [0, 3, 4] m ⟨[.one (.cell (.list false .str l_0)), .one (.cell (.str s_3)), .one (.cell (.int .i64 i_4))], []⟩
noncomputable def impl_spaced_int_33 (k : Nat) (l_0 : (List Int)) : Option ByteArray := run C k 65 .str [.val (.list (.int .i64)) l_0, .clo 33 []]
noncomputable def impl_spaced_int_33.l0 (k m : Nat) (t_12 : (List Int)) (t_13 : Int) (t_14 : Int) (s0 : (List ByteArray)) : Option ByteArray := loopRun C k 65 .str [0, 0] [.r, .r, .r, .l, .r, .b] [] [1, 5, 12, 13, 14] m ⟨[.one (.cell (.clo 33 [])), .one (.cell (.ref 1)), .one (.cell (.list false (.int .i64) t_12)), .one (.cell (.int .i64 t_13)), .one (.cell (.int .i64 t_14))], [.arr .str s0 .open]⟩
noncomputable def laws_eqEvent (k : Nat) (a_0 : DT59) (b_1 : DT59) : Option Bool := run C k 26 .bool [.val T59 a_0, .val T59 b_1]
noncomputable def laws_eqTempo (k : Nat) (a_0 : DT36) (b_1 : DT36) : Option Bool := run C k 66 .bool [.val T36 a_0, .val T36 b_1]
noncomputable def laws_eqPlayer (k : Nat) (a_0 : DT100) (b_1 : DT100) : Option Bool := run C k 67 .bool [.val T100 a_0, .val T100 b_1]
noncomputable def laws_eqMark (k : Nat) (a_0 : DT108) (b_1 : DT108) : Option Bool := run C k 68 .bool [.val T108 a_0, .val T108 b_1]
noncomputable def laws_eqLetter (k : Nat) (a_0 : DT36) (b_1 : DT36) : Option Bool := run C k 69 .bool [.val T36 a_0, .val T36 b_1]
noncomputable def impl_FormatInt (k : Nat) (n_0 : Int) : Option ByteArray := run C k 33 .str [.val (.int .i64) n_0]
noncomputable def strings_Join (k : Nat) (elems_0 : (List ByteArray)) (sep_1 : ByteArray) : Option ByteArray := run C k 54 .str [.val (.list .str) elems_0, .val .str sep_1]
noncomputable def strconv_Itoa (k : Nat) (i_0 : Int) : Option ByteArray := run C k 59 .str [.val (.int .i64) i_0]
theorem laws_FnExactFormatOrchestra_eq (k : Nat) (aO_0 : DT43) : laws_FnExactFormatOrchestra (k + 1) aO_0 =
 (laws_szOrchestra k aO_0 1048576).bind fun r1 =>
 if (r1 : Int) < 0 then
 some true
 else (laws_toOrchestra k aO_0).bind fun r2 =>
 (spec_FormatOrchestra k r2).bind fun r3 =>
 (laws_toOrchestra k aO_0).bind fun r4 =>
 (impl_FormatOrchestra k r4).bind fun r5 =>
 if ¬ (r5 = r3) then
 some false
 else (laws_toOrchestra k aO_0).bind fun r6 =>
 (laws_eqOrchestra k r4 r6).bind fun r7 =>
 if ¬ (r7 = true) then
 some false
 else some true := by kernel_rfl
theorem laws_szOrchestra_eq (k : Nat) (a_0 : DT43) (left_1 : Int) : laws_szOrchestra (k + 1) a_0 left_1 =
 (laws_szEventS k a_0.1 left_1).bind fun r1 =>
 if (r1 : Int) < 0 then
 some (-1)
 else (laws_szTempoS k a_0.2.2.1 r1).bind fun r2 =>
 if (r2 : Int) < 0 then
 some (-1)
 else (laws_szPlayerS k a_0.2.2.2.1 r2).bind fun r3 =>
 if (r3 : Int) < 0 then
 some (-1)
 else (laws_szIntS k a_0.2.2.2.2.1 r3).bind fun r4 =>
 if (r4 : Int) < 0 then
 some (-1)
 else (laws_szMarkS k a_0.2.2.2.2.2.1 r4).bind fun r5 =>
 if (r5 : Int) < 0 then
 some (-1)
 else (laws_szLetterS k a_0.2.2.2.2.2.2.1 r5).bind fun r6 =>
 if (r6 : Int) < 0 then
 some (-1)
 else some r6 := by kernel_rfl
theorem laws_toOrchestra_eq (k : Nat) (a_0 : DT43) : laws_toOrchestra (k + 1) a_0 =
 (laws_toEventS k a_0.1).bind fun r1 =>
 (laws_toMeter k a_0.2.1).bind fun r2 =>
 (laws_toTempoS k a_0.2.2.1).bind fun r3 =>
 (laws_toPlayerS k a_0.2.2.2.1).bind fun r4 =>
 (laws_toIntS k a_0.2.2.2.2.1).bind fun r5 =>
 (laws_toMarkS k a_0.2.2.2.2.2.1).bind fun r6 =>
 (laws_toLetterS k a_0.2.2.2.2.2.2.1).bind fun r7 =>
 some (r1, (r2, (r3, (r4, (r5, (r6, (r7, a_0.2.2.2.2.2.2.2))))))) := by kernel_rfl
theorem spec_FormatOrchestra_eq (k : Nat) (o_0 : DT43) : spec_FormatOrchestra (k + 1) o_0 =
 (spec_FormatNumbers k ([o_0.2.2.2.2.2.2.2.2.1, o_0.2.2.2.2.2.2.2.1, ((List.length o_0.1 : Nat) : Int), ((List.length o_0.2.2.1 : Nat) : Int), ((List.length o_0.2.2.2.1 : Nat) : Int), ((List.length o_0.2.2.2.2.1 : Nat) : Int), ((List.length o_0.2.2.2.2.2.1 : Nat) : Int), ((List.length o_0.2.2.2.2.2.2.1 : Nat) : Int)])).bind fun r1 =>
 some r1 := by kernel_rfl
theorem impl_FormatOrchestra_eq (k : Nat) (o_0 : DT43) : impl_FormatOrchestra (k + 1) o_0 =
 (impl_FormatNumbers k ([o_0.2.2.2.2.2.2.2.2.1, o_0.2.2.2.2.2.2.2.1, ((List.length o_0.1 : Nat) : Int), ((List.length o_0.2.2.1 : Nat) : Int), ((List.length o_0.2.2.2.1 : Nat) : Int), ((List.length o_0.2.2.2.2.1 : Nat) : Int), ((List.length o_0.2.2.2.2.2.1 : Nat) : Int), ((List.length o_0.2.2.2.2.2.2.1 : Nat) : Int)])).bind fun r1 =>
 some r1 := by kernel_rfl
theorem laws_eqOrchestra_eq (k : Nat) (a_0 : DT43) (b_1 : DT43) : laws_eqOrchestra (k + 1) a_0 b_1 =
 (laws_eqEventS k a_0.1 b_1.1).bind fun r1 =>
 if ¬ (r1 = true) then
 some false
 else (laws_eqMeter k a_0.2.1 b_1.2.1).bind fun r2 =>
 if ¬ (r2 = true) then
 some false
 else (laws_eqTempoS k a_0.2.2.1 b_1.2.2.1).bind fun r3 =>
 if ¬ (r3 = true) then
 some false
 else (laws_eqPlayerS k a_0.2.2.2.1 b_1.2.2.2.1).bind fun r4 =>
 if ¬ (r4 = true) then
 some false
 else (laws_eqIntS k a_0.2.2.2.2.1 b_1.2.2.2.2.1).bind fun r5 =>
 if ¬ (r5 = true) then
 some false
 else (laws_eqMarkS k a_0.2.2.2.2.2.1 b_1.2.2.2.2.2.1).bind fun r6 =>
 if ¬ (r6 = true) then
 some false
 else (laws_eqLetterS k a_0.2.2.2.2.2.2.1 b_1.2.2.2.2.2.2.1).bind fun r7 =>
 if ¬ (r7 = true) then
 some false
 else if (a_0.2.2.2.2.2.2.2.1 : Int) ≠ b_1.2.2.2.2.2.2.2.1 then
 some false
 else if (a_0.2.2.2.2.2.2.2.2.1 : Int) ≠ b_1.2.2.2.2.2.2.2.2.1 then
 some false
 else some true := by kernel_rfl
theorem laws_szEventS_eq (k : Nat) (a_0 : (List DT59)) (left_1 : Int) : laws_szEventS (k + 1) a_0 left_1 =
 if ((IntKind.wrap .i64 (left_1 - ((List.length a_0 : Nat) : Int))) : Int) < 0 then
 some (-1)
 else some (IntKind.wrap .i64 (left_1 - ((List.length a_0 : Nat) : Int))) := by kernel_rfl
theorem laws_szTempoS_eq (k : Nat) (a_0 : (List DT36)) (left_1 : Int) : laws_szTempoS (k + 1) a_0 left_1 =
 if ((IntKind.wrap .i64 (left_1 - ((List.length a_0 : Nat) : Int))) : Int) < 0 then
 some (-1)
 else some (IntKind.wrap .i64 (left_1 - ((List.length a_0 : Nat) : Int))) := by kernel_rfl
theorem laws_szPlayerS_eq (k : Nat) (a_0 : (List DT100)) (left_1 : Int) : laws_szPlayerS (k + 1) a_0 left_1 =
 if ((IntKind.wrap .i64 (left_1 - ((List.length a_0 : Nat) : Int))) : Int) < 0 then
 some (-1)
 else laws_szPlayerS.l0 k k a_0 (IntKind.wrap .i64 (left_1 - ((List.length a_0 : Nat) : Int))) 0 := by kernel_rfl
theorem laws_szPlayerS.l0_eq (k m : Nat) (a_0 : (List DT100)) (left_1 : Int) (i_5 : Int) : laws_szPlayerS.l0 k (m + 1) a_0 left_1 i_5 =
 if (i_5 : Int) < ((List.length a_0 : Nat) : Int) then
 if 0 ≤ i_5 then
 if i_5 < ((List.length a_0 : Nat) : Int) then
 (laws_szPlayer k (rd T100 a_0 i_5) left_1).bind fun r1 =>
 if (r1 : Int) < 0 then
 some (-1)
 else laws_szPlayerS.l0 k m a_0 r1 (IntKind.wrap .i64 (i_5 + 1)) else none else none
 else some left_1 := by kernel_rfl
theorem laws_szIntS_eq (k : Nat) (a_0 : (List Int)) (left_1 : Int) : laws_szIntS (k + 1) a_0 left_1 =
 if ((IntKind.wrap .i64 (left_1 - ((List.length a_0 : Nat) : Int))) : Int) < 0 then
 some (-1)
 else some (IntKind.wrap .i64 (left_1 - ((List.length a_0 : Nat) : Int))) := by kernel_rfl
theorem laws_szMarkS_eq (k : Nat) (a_0 : (List DT108)) (left_1 : Int) : laws_szMarkS (k + 1) a_0 left_1 =
 if ((IntKind.wrap .i64 (left_1 - ((List.length a_0 : Nat) : Int))) : Int) < 0 then
 some (-1)
 else some (IntKind.wrap .i64 (left_1 - ((List.length a_0 : Nat) : Int))) := by kernel_rfl
theorem laws_szLetterS_eq (k : Nat) (a_0 : (List DT36)) (left_1 : Int) : laws_szLetterS (k + 1) a_0 left_1 =
 if ((IntKind.wrap .i64 (left_1 - ((List.length a_0 : Nat) : Int))) : Int) < 0 then
 some (-1)
 else some (IntKind.wrap .i64 (left_1 - ((List.length a_0 : Nat) : Int))) := by kernel_rfl
theorem laws_toEventS_eq (k : Nat) (a_0 : (List DT59)) : laws_toEventS (k + 1) a_0 =
 if 0 ≤ ((List.length a_0 : Nat) : Int) then
 if ((List.length a_0 : Nat) : Int) ≤ ((List.length a_0 : Nat) : Int) then
 if ((List.length a_0 : Nat) : Int) * 32 ≤ 211106232532992 then
 laws_toEventS.l0 k k a_0 0 (List.replicate (Int.toNat ((List.length a_0 : Nat) : Int)) (Ty.dflt T59)) else none else none else none := by kernel_rfl
theorem laws_toEventS.l0_eq (k m : Nat) (a_0 : (List DT59)) (i_4 : Int) (s0 : (List DT59)) : laws_toEventS.l0 k (m + 1) a_0 i_4 s0 =
 if (i_4 : Int) < ((List.length a_0 : Nat) : Int) then
 if 0 ≤ i_4 then
 if i_4 < ((List.length a_0 : Nat) : Int) then
 (laws_toEvent k (rd T59 a_0 i_4)).bind fun r1 =>
 if 0 ≤ i_4 then
 if i_4 < ((List.length s0 : Nat) : Int) then
 laws_toEventS.l0 k m a_0 (IntKind.wrap .i64 (i_4 + 1)) (List.set s0 (Int.toNat i_4) r1) else none else none else none else none
 else some s0 := by kernel_rfl
theorem laws_toMeter_eq (k : Nat) (a_0 : DT36) : laws_toMeter (k + 1) a_0 =
 some a_0 := by kernel_rfl
theorem laws_toTempoS_eq (k : Nat) (a_0 : (List DT36)) : laws_toTempoS (k + 1) a_0 =
 if 0 ≤ ((List.length a_0 : Nat) : Int) then
 if ((List.length a_0 : Nat) : Int) ≤ ((List.length a_0 : Nat) : Int) then
 if ((List.length a_0 : Nat) : Int) * 16 ≤ 211106232532992 then
 laws_toTempoS.l0 k k a_0 0 (List.replicate (Int.toNat ((List.length a_0 : Nat) : Int)) (Ty.dflt T36)) else none else none else none := by kernel_rfl
theorem laws_toTempoS.l0_eq (k m : Nat) (a_0 : (List DT36)) (i_4 : Int) (s0 : (List DT36)) : laws_toTempoS.l0 k (m + 1) a_0 i_4 s0 =
 if (i_4 : Int) < ((List.length a_0 : Nat) : Int) then
 if 0 ≤ i_4 then
 if i_4 < ((List.length a_0 : Nat) : Int) then
 (laws_toTempo k (rd T36 a_0 i_4)).bind fun r1 =>
 if 0 ≤ i_4 then
 if i_4 < ((List.length s0 : Nat) : Int) then
 laws_toTempoS.l0 k m a_0 (IntKind.wrap .i64 (i_4 + 1)) (List.set s0 (Int.toNat i_4) r1) else none else none else none else none
 else some s0 := by kernel_rfl
theorem laws_toPlayerS_eq (k : Nat) (a_0 : (List DT100)) : laws_toPlayerS (k + 1) a_0 =
 if 0 ≤ ((List.length a_0 : Nat) : Int) then
 if ((List.length a_0 : Nat) : Int) ≤ ((List.length a_0 : Nat) : Int) then
 if ((List.length a_0 : Nat) : Int) * 48 ≤ 211106232532992 then
 laws_toPlayerS.l0 k k a_0 0 (List.replicate (Int.toNat ((List.length a_0 : Nat) : Int)) (Ty.dflt T100)) else none else none else none := by kernel_rfl
theorem laws_toPlayerS.l0_eq (k m : Nat) (a_0 : (List DT100)) (i_4 : Int) (s0 : (List DT100)) : laws_toPlayerS.l0 k (m + 1) a_0 i_4 s0 =
 if (i_4 : Int) < ((List.length a_0 : Nat) : Int) then
 if 0 ≤ i_4 then
 if i_4 < ((List.length a_0 : Nat) : Int) then
 (laws_toPlayer k (rd T100 a_0 i_4)).bind fun r1 =>
 if 0 ≤ i_4 then
 if i_4 < ((List.length s0 : Nat) : Int) then
 laws_toPlayerS.l0 k m a_0 (IntKind.wrap .i64 (i_4 + 1)) (List.set s0 (Int.toNat i_4) r1) else none else none else none else none
 else some s0 := by kernel_rfl
theorem laws_toIntS_eq (k : Nat) (a_0 : (List Int)) : laws_toIntS (k + 1) a_0 =
 if 0 ≤ ((List.length a_0 : Nat) : Int) then
 if ((List.length a_0 : Nat) : Int) ≤ ((List.length a_0 : Nat) : Int) then
 if ((List.length a_0 : Nat) : Int) * 8 ≤ 211106232532992 then
 laws_toIntS.l0 k k a_0 0 (List.replicate (Int.toNat ((List.length a_0 : Nat) : Int)) (Ty.dflt (.int .i64))) else none else none else none := by kernel_rfl
theorem laws_toIntS.l0_eq (k m : Nat) (a_0 : (List Int)) (i_4 : Int) (s0 : (List Int)) : laws_toIntS.l0 k (m + 1) a_0 i_4 s0 =
 if (i_4 : Int) < ((List.length a_0 : Nat) : Int) then
 if 0 ≤ i_4 then
 if i_4 < ((List.length a_0 : Nat) : Int) then
 if 0 ≤ i_4 then
 if i_4 < ((List.length s0 : Nat) : Int) then
 laws_toIntS.l0 k m a_0 (IntKind.wrap .i64 (i_4 + 1)) (List.set s0 (Int.toNat i_4) (rd (.int .i64) a_0 i_4)) else none else none else none else none
 else some s0 := by kernel_rfl
theorem laws_toMarkS_eq (k : Nat) (a_0 : (List DT108)) : laws_toMarkS (k + 1) a_0 =
 if 0 ≤ ((List.length a_0 : Nat) : Int) then
 if ((List.length a_0 : Nat) : Int) ≤ ((List.length a_0 : Nat) : Int) then
 if ((List.length a_0 : Nat) : Int) * 40 ≤ 211106232532992 then
 laws_toMarkS.l0 k k a_0 0 (List.replicate (Int.toNat ((List.length a_0 : Nat) : Int)) (Ty.dflt T108)) else none else none else none := by kernel_rfl
theorem laws_toMarkS.l0_eq (k m : Nat) (a_0 : (List DT108)) (i_4 : Int) (s0 : (List DT108)) : laws_toMarkS.l0 k (m + 1) a_0 i_4 s0 =
 if (i_4 : Int) < ((List.length a_0 : Nat) : Int) then
 if 0 ≤ i_4 then
 if i_4 < ((List.length a_0 : Nat) : Int) then
 (laws_toMark k (rd T108 a_0 i_4)).bind fun r1 =>
 if 0 ≤ i_4 then
 if i_4 < ((List.length s0 : Nat) : Int) then
 laws_toMarkS.l0 k m a_0 (IntKind.wrap .i64 (i_4 + 1)) (List.set s0 (Int.toNat i_4) r1) else none else none else none else none
 else some s0 := by kernel_rfl
theorem laws_toLetterS_eq (k : Nat) (a_0 : (List DT36)) : laws_toLetterS (k + 1) a_0 =
 if 0 ≤ ((List.length a_0 : Nat) : Int) then
 if ((List.length a_0 : Nat) : Int) ≤ ((List.length a_0 : Nat) : Int) then
 if ((List.length a_0 : Nat) : Int) * 16 ≤ 211106232532992 then
 laws_toLetterS.l0 k k a_0 0 (List.replicate (Int.toNat ((List.length a_0 : Nat) : Int)) (Ty.dflt T36)) else none else none else none := by kernel_rfl
theorem laws_toLetterS.l0_eq (k m : Nat) (a_0 : (List DT36)) (i_4 : Int) (s0 : (List DT36)) : laws_toLetterS.l0 k (m + 1) a_0 i_4 s0 =
 if (i_4 : Int) < ((List.length a_0 : Nat) : Int) then
 if 0 ≤ i_4 then
 if i_4 < ((List.length a_0 : Nat) : Int) then
 (laws_toLetter k (rd T36 a_0 i_4)).bind fun r1 =>
 if 0 ≤ i_4 then
 if i_4 < ((List.length s0 : Nat) : Int) then
 laws_toLetterS.l0 k m a_0 (IntKind.wrap .i64 (i_4 + 1)) (List.set s0 (Int.toNat i_4) r1) else none else none else none else none
 else some s0 := by kernel_rfl
theorem spec_FormatNumbers_eq (k : Nat) (l_0 : (List Int)) : spec_FormatNumbers (k + 1) l_0 =
 spec_FormatNumbers.l0 k k l_0 0 [] := by kernel_rfl
theorem spec_FormatNumbers.l0_eq (k m : Nat) (l_0 : (List Int)) (i_4 : Int) (s0 : (List ByteArray)) : spec_FormatNumbers.l0 k (m + 1) l_0 i_4 s0 =
 if (i_4 : Int) < ((List.length l_0 : Nat) : Int) then
 if 0 ≤ i_4 then
 if i_4 < ((List.length l_0 : Nat) : Int) then
 (spec_FormatInt k (rd (.int .i64) l_0 i_4)).bind fun r1 =>
 if (List.length s0 + List.length [r1]) * 16 ≤ 211106232532992 then
 spec_FormatNumbers.l0 k m l_0 (IntKind.wrap .i64 (i_4 + 1)) (s0 ++ [r1]) else none else none else none
 else (spec_l39Join k s0).bind fun r2 =>
 some r2 := by kernel_rfl
theorem impl_FormatNumbers_eq (k : Nat) (l_0 : (List Int)) : impl_FormatNumbers (k + 1) l_0 =
 (impl_spaced_int_33 k l_0).bind fun r1 =>
 some r1 := by kernel_rfl
theorem laws_eqEventS_eq (k : Nat) (a_0 : (List DT59)) (b_1 : (List DT59)) : laws_eqEventS (k + 1) a_0 b_1 =
 if (((List.length a_0 : Nat) : Int) : Int) ≠ ((List.length b_1 : Nat) : Int) then
 some false
 else laws_eqEventS.l0 k k a_0 b_1 0 := by kernel_rfl
theorem laws_eqEventS.l0_eq (k m : Nat) (a_0 : (List DT59)) (b_1 : (List DT59)) (i_5 : Int) : laws_eqEventS.l0 k (m + 1) a_0 b_1 i_5 =
 if (i_5 : Int) < ((List.length a_0 : Nat) : Int) then
 if 0 ≤ i_5 then
 if i_5 < ((List.length a_0 : Nat) : Int) then
 if 0 ≤ i_5 then
 if i_5 < ((List.length b_1 : Nat) : Int) then
 (laws_eqEvent k (rd T59 a_0 i_5) (rd T59 b_1 i_5)).bind fun r1 =>
 if ¬ (r1 = true) then
 some false
 else laws_eqEventS.l0 k m a_0 b_1 (IntKind.wrap .i64 (i_5 + 1)) else none else none else none else none
 else some true := by kernel_rfl
theorem laws_eqMeter_eq (k : Nat) (a_0 : DT36) (b_1 : DT36) : laws_eqMeter (k + 1) a_0 b_1 =
 if (a_0.1 : Int) ≠ b_1.1 then
 some false
 else if (a_0.2.1 : Int) ≠ b_1.2.1 then
 some false
 else some true := by kernel_rfl
theorem laws_eqTempoS_eq (k : Nat) (a_0 : (List DT36)) (b_1 : (List DT36)) : laws_eqTempoS (k + 1) a_0 b_1 =
 if (((List.length a_0 : Nat) : Int) : Int) ≠ ((List.length b_1 : Nat) : Int) then
 some false
 else laws_eqTempoS.l0 k k a_0 b_1 0 := by kernel_rfl
theorem laws_eqTempoS.l0_eq (k m : Nat) (a_0 : (List DT36)) (b_1 : (List DT36)) (i_5 : Int) : laws_eqTempoS.l0 k (m + 1) a_0 b_1 i_5 =
 if (i_5 : Int) < ((List.length a_0 : Nat) : Int) then
 if 0 ≤ i_5 then
 if i_5 < ((List.length a_0 : Nat) : Int) then
 if 0 ≤ i_5 then
 if i_5 < ((List.length b_1 : Nat) : Int) then
 (laws_eqTempo k (rd T36 a_0 i_5) (rd T36 b_1 i_5)).bind fun r1 =>
 if ¬ (r1 = true) then
 some false
 else laws_eqTempoS.l0 k m a_0 b_1 (IntKind.wrap .i64 (i_5 + 1)) else none else none else none else none
 else some true := by kernel_rfl
theorem laws_eqPlayerS_eq (k : Nat) (a_0 : (List DT100)) (b_1 : (List DT100)) : laws_eqPlayerS (k + 1) a_0 b_1 =
 if (((List.length a_0 : Nat) : Int) : Int) ≠ ((List.length b_1 : Nat) : Int) then
 some false
 else laws_eqPlayerS.l0 k k a_0 b_1 0 := by kernel_rfl
theorem laws_eqPlayerS.l0_eq (k m : Nat) (a_0 : (List DT100)) (b_1 : (List DT100)) (i_5 : Int) : laws_eqPlayerS.l0 k (m + 1) a_0 b_1 i_5 =
 if (i_5 : Int) < ((List.length a_0 : Nat) : Int) then
 if 0 ≤ i_5 then
 if i_5 < ((List.length a_0 : Nat) : Int) then
 if 0 ≤ i_5 then
 if i_5 < ((List.length b_1 : Nat) : Int) then
 (laws_eqPlayer k (rd T100 a_0 i_5) (rd T100 b_1 i_5)).bind fun r1 =>
 if ¬ (r1 = true) then
 some false
 else laws_eqPlayerS.l0 k m a_0 b_1 (IntKind.wrap .i64 (i_5 + 1)) else none else none else none else none
 else some true := by kernel_rfl
theorem laws_eqIntS_eq (k : Nat) (a_0 : (List Int)) (b_1 : (List Int)) : laws_eqIntS (k + 1) a_0 b_1 =
 if (((List.length a_0 : Nat) : Int) : Int) ≠ ((List.length b_1 : Nat) : Int) then
 some false
 else laws_eqIntS.l0 k k a_0 b_1 0 := by kernel_rfl
theorem laws_eqIntS.l0_eq (k m : Nat) (a_0 : (List Int)) (b_1 : (List Int)) (i_5 : Int) : laws_eqIntS.l0 k (m + 1) a_0 b_1 i_5 =
 if (i_5 : Int) < ((List.length a_0 : Nat) : Int) then
 if 0 ≤ i_5 then
 if i_5 < ((List.length a_0 : Nat) : Int) then
 if 0 ≤ i_5 then
 if i_5 < ((List.length b_1 : Nat) : Int) then
 if Ne (α := Int) (rd (.int .i64) a_0 i_5) (rd (.int .i64) b_1 i_5) then
 some false
 else laws_eqIntS.l0 k m a_0 b_1 (IntKind.wrap .i64 (i_5 + 1)) else none else none else none else none
 else some true := by kernel_rfl
theorem laws_eqMarkS_eq (k : Nat) (a_0 : (List DT108)) (b_1 : (List DT108)) : laws_eqMarkS (k + 1) a_0 b_1 =
 if (((List.length a_0 : Nat) : Int) : Int) ≠ ((List.length b_1 : Nat) : Int) then
 some false
 else laws_eqMarkS.l0 k k a_0 b_1 0 := by kernel_rfl
theorem laws_eqMarkS.l0_eq (k m : Nat) (a_0 : (List DT108)) (b_1 : (List DT108)) (i_5 : Int) : laws_eqMarkS.l0 k (m + 1) a_0 b_1 i_5 =
 if (i_5 : Int) < ((List.length a_0 : Nat) : Int) then
 if 0 ≤ i_5 then
 if i_5 < ((List.length a_0 : Nat) : Int) then
 if 0 ≤ i_5 then
 if i_5 < ((List.length b_1 : Nat) : Int) then
 (laws_eqMark k (rd T108 a_0 i_5) (rd T108 b_1 i_5)).bind fun r1 =>
 if ¬ (r1 = true) then
 some false
 else laws_eqMarkS.l0 k m a_0 b_1 (IntKind.wrap .i64 (i_5 + 1)) else none else none else none else none
 else some true := by kernel_rfl
theorem laws_eqLetterS_eq (k : Nat) (a_0 : (List DT36)) (b_1 : (List DT36)) : laws_eqLetterS (k + 1) a_0 b_1 =
 if (((List.length a_0 : Nat) : Int) : Int) ≠ ((List.length b_1 : Nat) : Int) then
 some false
 else laws_eqLetterS.l0 k k a_0 b_1 0 := by kernel_rfl
theorem laws_eqLetterS.l0_eq (k m : Nat) (a_0 : (List DT36)) (b_1 : (List DT36)) (i_5 : Int) : laws_eqLetterS.l0 k (m + 1) a_0 b_1 i_5 =
 if (i_5 : Int) < ((List.length a_0 : Nat) : Int) then
 if 0 ≤ i_5 then
 if i_5 < ((List.length a_0 : Nat) : Int) then
 if 0 ≤ i_5 then
 if i_5 < ((List.length b_1 : Nat) : Int) then
 (laws_eqLetter k (rd T36 a_0 i_5) (rd T36 b_1 i_5)).bind fun r1 =>
 if ¬ (r1 = true) then
 some false
 else laws_eqLetterS.l0 k m a_0 b_1 (IntKind.wrap .i64 (i_5 + 1)) else none else none else none else none
 else some true := by kernel_rfl
theorem laws_szPlayer_eq (k : Nat) (a_0 : DT100) (left_1 : Int) : laws_szPlayer (k + 1) a_0 left_1 =
 (laws_szIntS k a_0.2.2.2.1 left_1).bind fun r1 =>
 if (r1 : Int) < 0 then
 some (-1)
 else some r1 := by kernel_rfl
theorem laws_toEvent_eq (k : Nat) (a_0 : DT59) : laws_toEvent (k + 1) a_0 =
 some a_0 := by kernel_rfl
theorem laws_toTempo_eq (k : Nat) (a_0 : DT36) : laws_toTempo (k + 1) a_0 =
 some a_0 := by kernel_rfl
theorem laws_toPlayer_eq (k : Nat) (a_0 : DT100) : laws_toPlayer (k + 1) a_0 =
 (laws_toIntS k a_0.2.2.2.1).bind fun r1 =>
 some (a_0.1, (a_0.2.1, (a_0.2.2.1, (r1, ())))) := by kernel_rfl
theorem laws_toMark_eq (k : Nat) (a_0 : DT108) : laws_toMark (k + 1) a_0 =
 some a_0 := by kernel_rfl
theorem laws_toLetter_eq (k : Nat) (a_0 : DT36) : laws_toLetter (k + 1) a_0 =
 some a_0 := by kernel_rfl
theorem spec_FormatInt_eq (k : Nat) (n_0 : Int) : spec_FormatInt (k + 1) n_0 =
 if (n_0 : Int) = 0 then
 some (ByteArray.mk #[48])
 else spec_FormatInt.l0 k k n_0 (ByteArray.mk #[]) n_0 := by kernel_rfl
theorem spec_FormatInt.l0_eq (k m : Nat) (n_0 : Int) (s_3 : ByteArray) (x_4 : Int) : spec_FormatInt.l0 k (m + 1) n_0 s_3 x_4 =
 if (x_4 : Int) ≠ 0 then
 if 10 = (0 : Int) then
 none
 else if ((Int.tmod x_4 10) : Int) < 0 then
 if (ofBytes ([IntKind.wrap .u8 (IntKind.wrap .i64 (48 + (IntKind.wrap .i64 (-(Int.tmod x_4 10)))))])).size + s_3.size ≤ 211106232532992 then
 if 10 = (0 : Int) then
 none
 else spec_FormatInt.l0 k m n_0 ((ofBytes ([IntKind.wrap .u8 (IntKind.wrap .i64 (48 + (IntKind.wrap .i64 (-(Int.tmod x_4 10)))))])) ++ s_3) (IntKind.wrap .i64 (Int.tdiv x_4 10)) else none
 else if (ofBytes ([IntKind.wrap .u8 (IntKind.wrap .i64 (48 + (Int.tmod x_4 10)))])).size + s_3.size ≤ 211106232532992 then
 if 10 = (0 : Int) then
 none
 else spec_FormatInt.l0 k m n_0 ((ofBytes ([IntKind.wrap .u8 (IntKind.wrap .i64 (48 + (Int.tmod x_4 10)))])) ++ s_3) (IntKind.wrap .i64 (Int.tdiv x_4 10)) else none
 else if (n_0 : Int) < 0 then
 if (ByteArray.mk #[45]).size + s_3.size ≤ 211106232532992 then
 some ((ByteArray.mk #[45]) ++ s_3) else none
 else some s_3 := by kernel_rfl
theorem spec_l39Join_eq (k : Nat) (l_0 : (List ByteArray)) : spec_l39Join (k + 1) l_0 =
 spec_l39Join.l0 k k l_0 (ByteArray.mk #[]) 0 := by kernel_rfl
theorem spec_l39Join.l0_eq (k m : Nat) (l_0 : (List ByteArray)) (s_3 : ByteArray) (i_4 : Int) : spec_l39Join.l0 k (m + 1) l_0 s_3 i_4 =
 if (i_4 : Int) < ((List.length l_0 : Nat) : Int) then
 if (0 : Int) < i_4 then
 if s_3.size + (ByteArray.mk #[32]).size ≤ 211106232532992 then
 if 0 ≤ i_4 then
 if i_4 < ((List.length l_0 : Nat) : Int) then
 if (s_3 ++ (ByteArray.mk #[32])).size + (rd .str l_0 i_4).size ≤ 211106232532992 then
 spec_l39Join.l0 k m l_0 ((s_3 ++ (ByteArray.mk #[32])) ++ (rd .str l_0 i_4)) (IntKind.wrap .i64 (i_4 + 1)) else none else none else none else none
 else if 0 ≤ i_4 then
 if i_4 < ((List.length l_0 : Nat) : Int) then
 if s_3.size + (rd .str l_0 i_4).size ≤ 211106232532992 then
 spec_l39Join.l0 k m l_0 (s_3 ++ (rd .str l_0 i_4)) (IntKind.wrap .i64 (i_4 + 1)) else none else none else none
 else if (((List.length l_0 : Nat) : Int) : Int) = 0 then
 some (ByteArray.mk #[45])
 else some s_3 := by kernel_rfl
theorem impl_spaced_int_33_eq (k : Nat) (l_0 : (List Int)) : impl_spaced_int_33 (k + 1) l_0 =
 if (((List.length l_0 : Nat) : Int) : Int) = 0 then
 some (ByteArray.mk #[45])
 else impl_spaced_int_33.l0 k k l_0 ((List.length l_0 : Nat) : Int) 0 [] := by kernel_rfl
theorem impl_spaced_int_33.l0_eq (k m : Nat) (t_12 : (List Int)) (t_13 : Int) (t_14 : Int) (s0 : (List ByteArray)) : impl_spaced_int_33.l0 k (m + 1) t_12 t_13 t_14 s0 =
 if (t_14 : Int) < t_13 then
 if 0 ≤ t_14 then
 if t_14 < ((List.length t_12 : Nat) : Int) then
 (impl_FormatInt k (rd (.int .i64) t_12 t_14)).bind fun r1 =>
 if (List.length s0 + List.length [r1]) * 16 ≤ 211106232532992 then
 impl_spaced_int_33.l0 k m t_12 t_13 (IntKind.wrap .i64 (t_14 + 1)) (s0 ++ [r1]) else none else none else none
 else (strings_Join k s0 (ByteArray.mk #[32])).bind fun r2 =>
 some r2 := by kernel_rfl
theorem laws_eqEvent_eq (k : Nat) (a_0 : DT59) (b_1 : DT59) : laws_eqEvent (k + 1) a_0 b_1 =
 if (a_0.1 : Int) ≠ b_1.1 then
 some false
 else if (a_0.2.1 : Int) ≠ b_1.2.1 then
 some false
 else if (a_0.2.2.1 : Int) ≠ b_1.2.2.1 then
 some false
 else if (a_0.2.2.2.1 : Int) ≠ b_1.2.2.2.1 then
 some false
 else some true := by kernel_rfl
theorem laws_eqTempo_eq (k : Nat) (a_0 : DT36) (b_1 : DT36) : laws_eqTempo (k + 1) a_0 b_1 =
 if (a_0.1 : Int) ≠ b_1.1 then
 some false
 else if (a_0.2.1 : Int) ≠ b_1.2.1 then
 some false
 else some true := by kernel_rfl
theorem laws_eqPlayer_eq (k : Nat) (a_0 : DT100) (b_1 : DT100) : laws_eqPlayer (k + 1) a_0 b_1 =
 if (a_0.1 : Int) ≠ b_1.1 then
 some false
 else if (a_0.2.1 : Int) ≠ b_1.2.1 then
 some false
 else if (a_0.2.2.1 : Int) ≠ b_1.2.2.1 then
 some false
 else (laws_eqIntS k a_0.2.2.2.1 b_1.2.2.2.1).bind fun r1 =>
 if ¬ (r1 = true) then
 some false
 else some true := by kernel_rfl
theorem laws_eqMark_eq (k : Nat) (a_0 : DT108) (b_1 : DT108) : laws_eqMark (k + 1) a_0 b_1 =
 if (a_0.1 : Int) ≠ b_1.1 then
 some false
 else if (a_0.2.1 : Int) ≠ b_1.2.1 then
 some false
 else if (a_0.2.2.1 : Int) ≠ b_1.2.2.1 then
 some false
 else if (a_0.2.2.2.1 : Int) ≠ b_1.2.2.2.1 then
 some false
 else if (a_0.2.2.2.2.1 : Int) ≠ b_1.2.2.2.2.1 then
 some false
 else some true := by kernel_rfl
theorem laws_eqLetter_eq (k : Nat) (a_0 : DT36) (b_1 : DT36) : laws_eqLetter (k + 1) a_0 b_1 =
 if (a_0.1 : Int) ≠ b_1.1 then
 some false
 else if (a_0.2.1 : Int) ≠ b_1.2.1 then
 some false
 else some true := by kernel_rfl
theorem impl_FormatInt_eq (k : Nat) (n_0 : Int) : impl_FormatInt (k + 1) n_0 =
 (strconv_Itoa k n_0).bind fun r1 =>
 some r1 := by kernel_rfl
theorem strings_Join_eq (k : Nat) (elems_0 : (List ByteArray)) (sep_1 : ByteArray) : strings_Join (k + 1) elems_0 sep_1 = primJoin .str [.val (.list .str) elems_0, .val .str sep_1] := by kernel_rfl
theorem strconv_Itoa_eq (k : Nat) (i_0 : Int) : strconv_Itoa (k + 1) i_0 = primItoa .str [.val (.int .i64) i_0] := by kernel_rfl
end Go.QFnExactFormatOrchestra
