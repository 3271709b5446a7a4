/- The functions that the law FnExactFormatPart reaches, as equations; printed by pe.py. No condition. -/
import Derived.Test.YtfjnjnmdlidpgaaDoorPrim
import Derived.Test.YtfjnjnmdlidpgaaDoorProg
import Derived.KernelRfl
set_option linter.unusedVariables false
open Go Go.Flat
namespace Go.QFnExactFormatPart
abbrev T36 : Ty := .pair (.int .i64) (.pair (.int .i64) .unit)
abbrev DT36 := Int × (Int × Unit)
abbrev T66 : Ty := .pair (.int .i64) T36
abbrev DT66 := Int × DT36
abbrev T59 : Ty := .pair (.int .i64) T66
abbrev DT59 := Int × DT66
abbrev T100 : Ty := .pair (.int .i64) (.pair (.int .i64) (.pair (.int .i64) (.pair (.list (.int .i64)) .unit)))
abbrev DT100 := Int × (Int × (Int × ((List Int) × Unit)))
abbrev T108 : Ty := .pair (.int .i64) T59
abbrev DT108 := Int × DT59
abbrev T43 : Ty := .pair (.list T59) (.pair T36 (.pair (.list T36) (.pair (.list T100) (.pair (.list (.int .i64)) (.pair (.list T108) (.pair (.list T36) T36))))))
abbrev DT43 := (List DT59) × (DT36 × ((List DT36) × ((List DT100) × ((List Int) × ((List DT108) × ((List DT36) × DT36))))))
noncomputable def C : Cfg := {
  P := Go.Proofs.Tryd.prog,
  tt := [(1, none), (2, some (.int .i64)), (3, some (.int .i64)), (4, some .bool), (5, some (.int .u8)), (6, some (.int .u8)), (9, some .str), (10, some .str), (11, some .str), (12, some (.int .u64)), (15, none), (16, none), (17, none), (21, some (.int .i32)), (22, some (.list T59)), (23, none), (24, none), (25, some (.list T59)), (26, none), (27, none), (28, none), (29, some (.list T66)), (30, none), (31, none), (32, some (.list T66)), (33, none), (34, none), (35, none), (36, some T36), (37, some T36), (38, some (.list T36)), (39, some (.list T100)), (40, some (.list (.int .i64))), (41, some (.list T108)), (42, some (.list T36)), (43, some T43), (44, some T43), (45, none), (46, none), (47, some T36), (48, some (.list T36)), (49, some (.list T100)), (50, some (.list T108)), (51, some (.list T36)), (52, some T43), (53, some T43), (54, none), (55, none), (56, none), (57, some (.list .str)), (58, none), (59, some T59), (60, some T59), (61, none), (62, none), (63, some T59), (64, none), (65, none), (66, some T66), (67, some T66), (68, none), (69, none), (70, some T66), (71, none), (72, none), (73, none), (74, none), (75, none), (76, none), (77, none), (78, none), (79, none), (80, none), (81, none), (82, none), (83, none), (84, none), (85, none), (86, none), (87, none), (88, none), (89, none), (90, none), (91, none), (92, none), (93, some T66), (94, some T66), (96, none), (97, none), (98, some (.list (.int .u8))), (99, none), (100, some T100), (101, some T100), (102, some T36), (103, some T36), (104, none), (105, some T36), (106, some T100), (107, none), (108, some T108), (109, some T108), (110, none), (111, some T108), (112, some T36), (113, some T36), (114, none), (115, some T36), (116, none), (117, none), (118, none), (119, none), (120, none), (121, none), (124, none), (128, none), (129, none), (130, none), (131, none), (132, none), (133, none), (134, none), (135, none), (136, none), (137, none), (138, none), (139, some (.int .u64)), (141, none), (142, none), (143, none), (145, none), (146, none), (148, some (.int .u32)), (150, none), (151, some (.int .u64)), (153, none), (155, none), (156, none), (158, none), (159, none), (162, none), (163, none), (164, none), (172, some (.int .u8)), (173, some (.int .u8)), (174, none), (175, some (.int .i32)), (176, some (.int .i32)), (179, none)],
  vars := [(12, [0, 3, 4]), (13, [0, 3, 4]), (15, [0, 1, 5]), (22, [0, 3, 4]), (28, [0, 3, 4]), (30, [1, 5, 12, 13, 14]), (54, [0, 1, 5, 8, 39, 40, 41, 63, 64, 65]), (55, [0, 2, 4, 5]), (56, [1, 3, 4]), (57, [1, 2, 4]), (78, [0, 2, 4, 5, 6]), (82, [7, 8, 9])],
  sigs := [],
  prim := fun f => bif Nat.beq f 54 then some primJoin else bif Nat.beq f 59 then some primItoa else bif Nat.beq f 82 then some primRepeat else bif Nat.beq f 87 then some primHalves else none,
  tabs := [("internal/strconv.uint64pow10", Lib.pow10Tab)] }
noncomputable def laws_FnExactFormatPart (k : Nat) (aP_0 : (List DT66)) : Option Bool := run C k 4 .bool [.val (.list T66) aP_0]
noncomputable def laws_szSignS (k : Nat) (a_0 : (List DT66)) (left_1 : Int) : Option Int := run C k 11 (.int .i64) [.val (.list T66) a_0, .val (.int .i64) left_1]
noncomputable def laws_toSignS (k : Nat) (a_0 : (List DT66)) : Option (List DT66) := run C k 13 (.list T66) [.val (.list T66) a_0]
noncomputable def laws_toSignS.l0 (k m : Nat) (a_0 : (List DT66)) (i_4 : Int) (s0 : (List DT66)) : Option (List DT66) := loopRun C k 13 (.list T66) [0] [.r, .r, .l, .r, .b] [] [0, 3, 4] m ⟨[.one (.cell (.list false T66 a_0)), .one (.cell (.ref 1)), .one (.cell (.int .i64 i_4))], [.arr T66 s0 .open]⟩
noncomputable def spec_FormatPart (k : Nat) (p_0 : (List DT66)) : Option ByteArray := run C k 12 .str [.val (.list T66) p_0]
noncomputable def spec_FormatPart.l0 (k m : Nat) (p_0 : (List DT66)) (i_4 : Int) (s0 : (List ByteArray)) : Option ByteArray := loopRun C k 12 .str [0] [.r, .r, .l, .r, .b] [] [0, 3, 4] m ⟨[.one (.cell (.list false T66 p_0)), .one (.cell (.ref 1)), .one (.cell (.int .i64 i_4))], [.arr .str s0 .open]⟩
noncomputable def impl_FormatPart (k : Nat) (p_0 : (List DT66)) : Option ByteArray := run C k 14 .str [.val (.list T66) p_0]
noncomputable def laws_eqSignS (k : Nat) (a_0 : (List DT66)) (b_1 : (List DT66)) : Option Bool := run C k 15 .bool [.val (.list T66) a_0, .val (.list T66) b_1]
noncomputable def laws_eqSignS.l0 (k m : Nat) (a_0 : (List DT66)) (b_1 : (List DT66)) (i_5 : Int) : Option Bool := loopRun C k 15 .bool [0, 0] [.r, .r, .l, .r, .b] [] [0, 1, 5] m ⟨[.one (.cell (.list false T66 a_0)), .one (.cell (.list false T66 b_1)), .one (.cell (.int .i64 i_5))], []⟩
noncomputable def laws_toSign (k : Nat) (a_0 : DT66) : Option DT66 := run C k 29 T66 [.val T66 a_0]
noncomputable def spec_l39Note (k : Nat) (pitch_0 : Int) : Option ByteArray := run C k 27 .str [.val (.int .i64) pitch_0]
noncomputable def spec_FormatInt (k : Nat) (n_0 : Int) : Option ByteArray := run C k 28 .str [.val (.int .i64) n_0]
noncomputable def spec_FormatInt.l0 (k m : Nat) (n_0 : Int) (s_3 : ByteArray) (x_4 : Int) : Option ByteArray := loopRun C k 28 .str [0] [.r, .r, .r, .l, .r, .b] [] [0, 3, 4] m ⟨[.one (.cell (.int .i64 n_0)), .one (.cell (.str s_3)), .one (.cell (.int .i64 x_4))], []⟩
noncomputable def spec_l39Join (k : Nat) (l_0 : (List ByteArray)) : Option ByteArray := run C k 22 .str [.val (.list .str) l_0]
noncomputable def spec_l39Join.l0 (k m : Nat) (l_0 : (List ByteArray)) (s_3 : ByteArray) (i_4 : Int) : Option ByteArray := loopRun C k 22 .str [0] [.r, .r, .l, .r, .b] [] [0, 3, 4] m ⟨[.one (.cell (.list false .str l_0)), .one (.cell (.str s_3)), .one (.cell (.int .i64 i_4))], []⟩
noncomputable def impl_spaced_impl_Sign_31 (k : Nat) (l_0 : (List DT66)) : Option ByteArray := run C k 30 .str [.val (.list T66) l_0, .clo 31 []]
noncomputable def impl_spaced_impl_Sign_31.l0 (k m : Nat) (t_12 : (List DT66)) (t_13 : Int) (t_14 : Int) (s0 : (List ByteArray)) : Option ByteArray := loopRun C k 30 .str [0, 0] [.r, .r, .r, .l, .r, .b] [] [1, 5, 12, 13, 14] m ⟨[.one (.cell (.clo 31 [])), .one (.cell (.ref 1)), .one (.cell (.list false T66 t_12)), .one (.cell (.int .i64 t_13)), .one (.cell (.int .i64 t_14))], [.arr .str s0 .open]⟩
noncomputable def laws_eqSign (k : Nat) (a_0 : DT66) (b_1 : DT66) : Option Bool := run C k 34 .bool [.val T66 a_0, .val T66 b_1]
noncomputable def spec_SpellSharp (k : Nat) (pitch_0 : Int) : Option (DT66 × (Bool × Unit)) := run C k 55 (.pair T66 (.pair .bool .unit)) [.val (.int .i64) pitch_0]
noncomputable def spec_SpellSharp.l0 (k m : Nat) (pitch_0 : Int) (i_5 : Int) (b0_0 : Int) (b0_1 : Int) (b0_2 : Int) (b1_0 : Int) (b1_1 : Int) (b1_2 : Int) : Option (DT66 × (Bool × Unit)) := loopRun C k 55 (.pair T66 (.pair .bool .unit)) [0] [.r, .r, .r, .l, .r, .b] [] [0, 2, 4, 5] m ⟨[.one (.cell (.int .i64 pitch_0)), .one (.cell (.ptr 1 0)), .one (.cell (.ptr 5 0)), .one (.cell (.int .i64 i_5))], [.box (some T66) [.int .i64 b0_0, .int .i64 b0_1, .int .i64 b0_2], .box (some T66) [.int .i64 b1_0, .int .i64 b1_1, .int .i64 b1_2]]⟩
noncomputable def spec_NoteText (k : Nat) (x_0 : DT66) : Option ByteArray := run C k 56 .str [.val T66 x_0]
noncomputable def spec_NoteText.l0 (k m : Nat) (s_3 : ByteArray) (i_4 : Int) (b0_0 : Int) (b0_1 : Int) (b0_2 : Int) : Option ByteArray := loopRun C k 56 .str [0] [.r, .r, .r, .l, .r, .b] [] [1, 3, 4] m ⟨[.one (.cell (.ptr 1 0)), .one (.cell (.str s_3)), .one (.cell (.int .i64 i_4))], [.box (some T66) [.int .i64 b0_0, .int .i64 b0_1, .int .i64 b0_2]]⟩
noncomputable def impl_FormatPart_1 (k : Nat) (s_0 : DT66) : Option ByteArray := run C k 31 .str [.val T66 s_0]
noncomputable def strings_Join (k : Nat) (elems_0 : (List ByteArray)) (sep_1 : ByteArray) : Option ByteArray := run C k 54 .str [.val (.list .str) elems_0, .val .str sep_1]
noncomputable def spec_l1In (k : Nat) (x_0 : Int) (least_1 : Int) (most_2 : Int) : Option Bool := run C k 73 .bool [.val (.int .i64) x_0, .val (.int .i64) least_1, .val (.int .i64) most_2]
noncomputable def spec_l5Base (k : Nat) : Option (List Int) := run C k 74 (.list (.int .i64)) []
noncomputable def spec_IsNote (k : Nat) (x_0 : DT66) : Option Bool := run C k 75 .bool [.val T66 x_0]
noncomputable def spec_l4Abs (k : Nat) (n_0 : Int) : Option Int := run C k 76 (.int .i64) [.val (.int .i64) n_0]
noncomputable def impl_spelled (k : Nat) (pitch_0 : Int) : Option ByteArray := run C k 32 .str [.val (.int .i64) pitch_0]
noncomputable def impl_FormatInt (k : Nat) (n_0 : Int) : Option ByteArray := run C k 33 .str [.val (.int .i64) n_0]
noncomputable def spec_l5Pitch (k : Nat) (x_0 : DT66) : Option Int := run C k 86 (.int .i64) [.val T66 x_0]
noncomputable def impl_SpellSharp (k : Nat) (pitch_0 : Int) : Option (DT66 × (Bool × Unit)) := run C k 57 (.pair T66 (.pair .bool .unit)) [.val (.int .i64) pitch_0]
noncomputable def impl_SpellSharp.l0 (k m : Nat) (b0_0 : Int) (b1_0 : Int) (b1_1 : Int) (b1_2 : Int) (b2_0 : Int) : Option (DT66 × (Bool × Unit)) := loopRun C k 57 (.pair T66 (.pair .bool .unit)) [0] [.r, .r, .l, .r, .b] [] [1, 2, 4] m ⟨[.one (.cell (.ptr 1 0)), .one (.cell (.ptr 5 0)), .one (.cell (.ptr 9 0))], [.box (some (.int .i64)) [.int .i64 b0_0], .box (some T66) [.int .i64 b1_0, .int .i64 b1_1, .int .i64 b1_2], .box (some (.int .i64)) [.int .i64 b2_0]]⟩
noncomputable def impl_NoteText (k : Nat) (x_0 : DT66) : Option ByteArray := run C k 58 .str [.val T66 x_0]
noncomputable def strconv_Itoa (k : Nat) (i_0 : Int) : Option ByteArray := run C k 59 .str [.val (.int .i64) i_0]
noncomputable def impl_InRange (k : Nat) (n_0 : Int) (low_1 : Int) (high_2 : Int) : Option Bool := run C k 77 .bool [.val (.int .i64) n_0, .val (.int .i64) low_1, .val (.int .i64) high_2]
noncomputable def impl_notes_79 (k : Nat) (c0_0 : Int) (c0_1 : Int) : Option (DT66 × (Bool × Unit)) := run C k 78 (.pair T66 (.pair .bool .unit)) [.clo 79 [.ro (.int .i64) c0_0, .ro (.int .i64) c0_1]]
noncomputable def impl_notes_79.l0 (k m : Nat) (is_0_c : Int) (is_0_c_1 : Int) (octave_4 : Int) (b0_0 : Int) (b0_1 : Int) (b0_2 : Int) : Option (DT66 × (Bool × Unit)) := loopRun C k 78 (.pair T66 (.pair .bool .unit)) [0] [.r, .l, .r, .b] [] [0, 2, 4] m ⟨[.one (.cell (.clo 79 [.ro (.int .i64) is_0_c, .ro (.int .i64) is_0_c_1])), .one (.cell (.ptr 1 0)), .one (.cell (.int .i64 octave_4))], [.box (some T66) [.int .i64 b0_0, .int .i64 b0_1, .int .i64 b0_2]]⟩
noncomputable def impl_notes_79.l1 (k m m1 : Nat) (is_0_c : Int) (is_0_c_1 : Int) (octave_4 : Int) (step_5 : Int) (b0_0 : Int) (b0_1 : Int) (b0_2 : Int) : Option (DT66 × (Bool × Unit)) := loopRun C k 78 (.pair T66 (.pair .bool .unit)) [0] [.r, .l, .r, .b, .p, .r, .l, .b, .r, .b] [⟨[0, 2, 4], m1⟩] [0, 2, 4, 5] m ⟨[.one (.cell (.clo 79 [.ro (.int .i64) is_0_c, .ro (.int .i64) is_0_c_1])), .one (.cell (.ptr 1 0)), .one (.cell (.int .i64 octave_4)), .one (.cell (.int .i64 step_5))], [.box (some T66) [.int .i64 b0_0, .int .i64 b0_1, .int .i64 b0_2]]⟩
noncomputable def impl_notes_79.l2 (k m m1 m2 : Nat) (is_0_c : Int) (is_0_c_1 : Int) (octave_4 : Int) (step_5 : Int) (alter_6 : Int) (b0_0 : Int) (b0_1 : Int) (b0_2 : Int) : Option (DT66 × (Bool × Unit)) := loopRun C k 78 (.pair T66 (.pair .bool .unit)) [0] [.r, .l, .r, .b, .p, .r, .l, .b, .r, .b, .p, .r, .l, .b, .r, .b] [⟨[0, 2, 4], m1⟩, ⟨[0, 2, 4, 5], m2⟩] [0, 2, 4, 5, 6] m ⟨[.one (.cell (.clo 79 [.ro (.int .i64) is_0_c, .ro (.int .i64) is_0_c_1])), .one (.cell (.ptr 1 0)), .one (.cell (.int .i64 octave_4)), .one (.cell (.int .i64 step_5)), .one (.cell (.int .i64 alter_6))], [.box (some T66) [.int .i64 b0_0, .int .i64 b0_1, .int .i64 b0_2]]⟩
noncomputable def impl_IsNote (k : Nat) (x_0 : DT66) : Option Bool := run C k 81 .bool [.val T66 x_0]
noncomputable def strings_Repeat (k : Nat) (s_0 : ByteArray) (count_1 : Int) : Option ByteArray := run C k 82 .str [.val .str s_0, .val (.int .i64) count_1]
noncomputable def impl_SpellSharp_1 (k : Nat) (x_0 : DT66) (a_1 : Int) (a_2 : Int) : Option Bool := run C k 79 .bool [.val T66 x_0, .rp (.int .i64) a_1, .rp (.int .i64) a_2]
noncomputable def impl_Note__pitch (k : Nat) (x_0 : DT66) : Option Int := run C k 80 (.int .i64) [.val T66 x_0]
noncomputable def impl_halves (k : Nat) (step_0 : Int) : Option Int := run C k 87 (.int .i64) [.val (.int .i64) step_0]
theorem laws_FnExactFormatPart_eq (k : Nat) (aP_0 : (List DT66)) : laws_FnExactFormatPart (k + 1) aP_0 =
 (laws_szSignS k aP_0 1048576).bind fun r1 =>
 if (r1 : Int) < 0 then
 some true
 else (laws_toSignS k aP_0).bind fun r2 =>
 (spec_FormatPart k r2).bind fun r3 =>
 (laws_toSignS k aP_0).bind fun r4 =>
 (impl_FormatPart k r4).bind fun r5 =>
 if ¬ (r5 = r3) then
 some false
 else (laws_toSignS k aP_0).bind fun r6 =>
 (laws_eqSignS k r4 r6).bind fun r7 =>
 if ¬ (r7 = true) then
 some false
 else some true := by kernel_rfl
theorem laws_szSignS_eq (k : Nat) (a_0 : (List DT66)) (left_1 : Int) : laws_szSignS (k + 1) a_0 left_1 =
 if ((IntKind.wrap .i64 (left_1 - ((List.length a_0 : Nat) : Int))) : Int) < 0 then
 some (-1)
 else some (IntKind.wrap .i64 (left_1 - ((List.length a_0 : Nat) : Int))) := by kernel_rfl
theorem laws_toSignS_eq (k : Nat) (a_0 : (List DT66)) : laws_toSignS (k + 1) a_0 =
 if 0 ≤ ((List.length a_0 : Nat) : Int) then
 if ((List.length a_0 : Nat) : Int) ≤ ((List.length a_0 : Nat) : Int) then
 if ((List.length a_0 : Nat) : Int) * 24 ≤ 211106232532992 then
 laws_toSignS.l0 k k a_0 0 (List.replicate (Int.toNat ((List.length a_0 : Nat) : Int)) (Ty.dflt T66)) else none else none else none := by kernel_rfl
theorem laws_toSignS.l0_eq (k m : Nat) (a_0 : (List DT66)) (i_4 : Int) (s0 : (List DT66)) : laws_toSignS.l0 k (m + 1) a_0 i_4 s0 =
 if (i_4 : Int) < ((List.length a_0 : Nat) : Int) then
 if 0 ≤ i_4 then
 if i_4 < ((List.length a_0 : Nat) : Int) then
 (laws_toSign k (rd T66 a_0 i_4)).bind fun r1 =>
 if 0 ≤ i_4 then
 if i_4 < ((List.length s0 : Nat) : Int) then
 laws_toSignS.l0 k m a_0 (IntKind.wrap .i64 (i_4 + 1)) (List.set s0 (Int.toNat i_4) r1) else none else none else none else none
 else some s0 := by kernel_rfl
theorem spec_FormatPart_eq (k : Nat) (p_0 : (List DT66)) : spec_FormatPart (k + 1) p_0 =
 spec_FormatPart.l0 k k p_0 0 [] := by kernel_rfl
theorem spec_FormatPart.l0_eq (k m : Nat) (p_0 : (List DT66)) (i_4 : Int) (s0 : (List ByteArray)) : spec_FormatPart.l0 k (m + 1) p_0 i_4 s0 =
 if (i_4 : Int) < ((List.length p_0 : Nat) : Int) then
 if 0 ≤ i_4 then
 if i_4 < ((List.length p_0 : Nat) : Int) then
 if Ne (α := Int) (rd T66 p_0 i_4).2.2.1 0 then
 if 0 ≤ i_4 then
 if i_4 < ((List.length p_0 : Nat) : Int) then
 (spec_l39Note k (rd T66 p_0 i_4).2.2.1).bind fun r1 =>
 if r1.size + (ByteArray.mk #[47]).size ≤ 211106232532992 then
 if 0 ≤ i_4 then
 if i_4 < ((List.length p_0 : Nat) : Int) then
 (spec_FormatInt k (rd T66 p_0 i_4).2.1).bind fun r2 =>
 if (r1 ++ (ByteArray.mk #[47])).size + r2.size ≤ 211106232532992 then
 if (List.length s0 + List.length ([((r1 ++ (ByteArray.mk #[47])) ++ r2)])) * 16 ≤ 211106232532992 then
 spec_FormatPart.l0 k m p_0 (IntKind.wrap .i64 (i_4 + 1)) (s0 ++ [((r1 ++ (ByteArray.mk #[47])) ++ r2)]) else none else none else none else none else none else none else none
 else if (ByteArray.mk #[114]).size + (ByteArray.mk #[47]).size ≤ 211106232532992 then
 if 0 ≤ i_4 then
 if i_4 < ((List.length p_0 : Nat) : Int) then
 (spec_FormatInt k (rd T66 p_0 i_4).2.1).bind fun r3 =>
 if ((ByteArray.mk #[114]) ++ (ByteArray.mk #[47])).size + r3.size ≤ 211106232532992 then
 if (List.length s0 + List.length ([(((ByteArray.mk #[114]) ++ (ByteArray.mk #[47])) ++ r3)])) * 16 ≤ 211106232532992 then
 spec_FormatPart.l0 k m p_0 (IntKind.wrap .i64 (i_4 + 1)) (s0 ++ [(((ByteArray.mk #[114]) ++ (ByteArray.mk #[47])) ++ r3)]) else none else none else none else none else none else none else none
 else (spec_l39Join k s0).bind fun r4 =>
 some r4 := by kernel_rfl
theorem impl_FormatPart_eq (k : Nat) (p_0 : (List DT66)) : impl_FormatPart (k + 1) p_0 =
 (impl_spaced_impl_Sign_31 k p_0).bind fun r1 =>
 some r1 := by kernel_rfl
theorem laws_eqSignS_eq (k : Nat) (a_0 : (List DT66)) (b_1 : (List DT66)) : laws_eqSignS (k + 1) a_0 b_1 =
 if (((List.length a_0 : Nat) : Int) : Int) ≠ ((List.length b_1 : Nat) : Int) then
 some false
 else laws_eqSignS.l0 k k a_0 b_1 0 := by kernel_rfl
theorem laws_eqSignS.l0_eq (k m : Nat) (a_0 : (List DT66)) (b_1 : (List DT66)) (i_5 : Int) : laws_eqSignS.l0 k (m + 1) a_0 b_1 i_5 =
 if (i_5 : Int) < ((List.length a_0 : Nat) : Int) then
 if 0 ≤ i_5 then
 if i_5 < ((List.length a_0 : Nat) : Int) then
 if 0 ≤ i_5 then
 if i_5 < ((List.length b_1 : Nat) : Int) then
 (laws_eqSign k (rd T66 a_0 i_5) (rd T66 b_1 i_5)).bind fun r1 =>
 if ¬ (r1 = true) then
 some false
 else laws_eqSignS.l0 k m a_0 b_1 (IntKind.wrap .i64 (i_5 + 1)) else none else none else none else none
 else some true := by kernel_rfl
theorem laws_toSign_eq (k : Nat) (a_0 : DT66) : laws_toSign (k + 1) a_0 =
 some a_0 := by kernel_rfl
theorem spec_l39Note_eq (k : Nat) (pitch_0 : Int) : spec_l39Note (k + 1) pitch_0 =
 (spec_SpellSharp k pitch_0).bind fun r1 =>
 if ¬ (r1.2.1 = true) then
 some (ByteArray.mk #[])
 else (spec_NoteText k r1.1).bind fun r2 =>
 some r2 := by kernel_rfl
theorem spec_FormatInt_eq (k : Nat) (n_0 : Int) : spec_FormatInt (k + 1) n_0 =
 if (n_0 : Int) = 0 then
 some (ByteArray.mk #[48])
 else spec_FormatInt.l0 k k n_0 (ByteArray.mk #[]) n_0 := by kernel_rfl
theorem spec_FormatInt.l0_eq (k m : Nat) (n_0 : Int) (s_3 : ByteArray) (x_4 : Int) : spec_FormatInt.l0 k (m + 1) n_0 s_3 x_4 =
 if (x_4 : Int) ≠ 0 then
 if 10 = (0 : Int) then
 none
 else if ((Int.tmod x_4 10) : Int) < 0 then
 if (ofBytes ([IntKind.wrap .u8 (IntKind.wrap .i64 (48 + (IntKind.wrap .i64 (-(Int.tmod x_4 10)))))])).size + s_3.size ≤ 211106232532992 then
 if 10 = (0 : Int) then
 none
 else spec_FormatInt.l0 k m n_0 ((ofBytes ([IntKind.wrap .u8 (IntKind.wrap .i64 (48 + (IntKind.wrap .i64 (-(Int.tmod x_4 10)))))])) ++ s_3) (IntKind.wrap .i64 (Int.tdiv x_4 10)) else none
 else if (ofBytes ([IntKind.wrap .u8 (IntKind.wrap .i64 (48 + (Int.tmod x_4 10)))])).size + s_3.size ≤ 211106232532992 then
 if 10 = (0 : Int) then
 none
 else spec_FormatInt.l0 k m n_0 ((ofBytes ([IntKind.wrap .u8 (IntKind.wrap .i64 (48 + (Int.tmod x_4 10)))])) ++ s_3) (IntKind.wrap .i64 (Int.tdiv x_4 10)) else none
 else if (n_0 : Int) < 0 then
 if (ByteArray.mk #[45]).size + s_3.size ≤ 211106232532992 then
 some ((ByteArray.mk #[45]) ++ s_3) else none
 else some s_3 := by kernel_rfl
theorem spec_l39Join_eq (k : Nat) (l_0 : (List ByteArray)) : spec_l39Join (k + 1) l_0 =
 spec_l39Join.l0 k k l_0 (ByteArray.mk #[]) 0 := by kernel_rfl
theorem spec_l39Join.l0_eq (k m : Nat) (l_0 : (List ByteArray)) (s_3 : ByteArray) (i_4 : Int) : spec_l39Join.l0 k (m + 1) l_0 s_3 i_4 =
 if (i_4 : Int) < ((List.length l_0 : Nat) : Int) then
 if (0 : Int) < i_4 then
 if s_3.size + (ByteArray.mk #[32]).size ≤ 211106232532992 then
 if 0 ≤ i_4 then
 if i_4 < ((List.length l_0 : Nat) : Int) then
 if (s_3 ++ (ByteArray.mk #[32])).size + (rd .str l_0 i_4).size ≤ 211106232532992 then
 spec_l39Join.l0 k m l_0 ((s_3 ++ (ByteArray.mk #[32])) ++ (rd .str l_0 i_4)) (IntKind.wrap .i64 (i_4 + 1)) else none else none else none else none
 else if 0 ≤ i_4 then
 if i_4 < ((List.length l_0 : Nat) : Int) then
 if s_3.size + (rd .str l_0 i_4).size ≤ 211106232532992 then
 spec_l39Join.l0 k m l_0 (s_3 ++ (rd .str l_0 i_4)) (IntKind.wrap .i64 (i_4 + 1)) else none else none else none
 else if (((List.length l_0 : Nat) : Int) : Int) = 0 then
 some (ByteArray.mk #[45])
 else some s_3 := by kernel_rfl
theorem impl_spaced_impl_Sign_31_eq (k : Nat) (l_0 : (List DT66)) : impl_spaced_impl_Sign_31 (k + 1) l_0 =
 if (((List.length l_0 : Nat) : Int) : Int) = 0 then
 some (ByteArray.mk #[45])
 else impl_spaced_impl_Sign_31.l0 k k l_0 ((List.length l_0 : Nat) : Int) 0 [] := by kernel_rfl
theorem impl_spaced_impl_Sign_31.l0_eq (k m : Nat) (t_12 : (List DT66)) (t_13 : Int) (t_14 : Int) (s0 : (List ByteArray)) : impl_spaced_impl_Sign_31.l0 k (m + 1) t_12 t_13 t_14 s0 =
 if (t_14 : Int) < t_13 then
 if 0 ≤ t_14 then
 if t_14 < ((List.length t_12 : Nat) : Int) then
 (impl_FormatPart_1 k (rd T66 t_12 t_14)).bind fun r1 =>
 if (List.length s0 + List.length [r1]) * 16 ≤ 211106232532992 then
 impl_spaced_impl_Sign_31.l0 k m t_12 t_13 (IntKind.wrap .i64 (t_14 + 1)) (s0 ++ [r1]) else none else none else none
 else (strings_Join k s0 (ByteArray.mk #[32])).bind fun r2 =>
 some r2 := by kernel_rfl
theorem laws_eqSign_eq (k : Nat) (a_0 : DT66) (b_1 : DT66) : laws_eqSign (k + 1) a_0 b_1 =
 if (a_0.1 : Int) ≠ b_1.1 then
 some false
 else if (a_0.2.1 : Int) ≠ b_1.2.1 then
 some false
 else if (a_0.2.2.1 : Int) ≠ b_1.2.2.1 then
 some false
 else some true := by kernel_rfl
theorem spec_SpellSharp_eq (k : Nat) (pitch_0 : Int) : spec_SpellSharp (k + 1) pitch_0 =
 (spec_l1In k pitch_0 12 119).bind fun r1 =>
 if ¬ (r1 = true) then
 some ((0, (0, (0, ()))), (false, ()))
 else if 12 = (0 : Int) then
 none
 else spec_SpellSharp.l0 k k pitch_0 0 0 0 0 0 0 (IntKind.wrap .i64 ((IntKind.wrap .i64 (Int.tdiv pitch_0 12)) - 1)) := by kernel_rfl
theorem spec_SpellSharp.l0_eq (k m : Nat) (pitch_0 : Int) (i_5 : Int) (b0_0 : Int) (b0_1 : Int) (b0_2 : Int) (b1_0 : Int) (b1_1 : Int) (b1_2 : Int) : spec_SpellSharp.l0 k (m + 1) pitch_0 i_5 b0_0 b0_1 b0_2 b1_0 b1_1 b1_2 =
 if (i_5 : Int) < 7 then
 (spec_l5Base k).bind fun r2 =>
 if 0 ≤ i_5 then
 if i_5 < ((List.length r2 : Nat) : Int) then
 if 12 = (0 : Int) then
 none
 else if LE.le (α := Int) (rd (.int .i64) r2 i_5) (Int.tmod pitch_0 12) then
 spec_SpellSharp.l0 k m pitch_0 (IntKind.wrap .i64 (i_5 + 1)) b0_0 b0_1 b0_2 i_5 b1_1 b1_2
 else spec_SpellSharp.l0 k m pitch_0 (IntKind.wrap .i64 (i_5 + 1)) b0_0 b0_1 b0_2 b1_0 b1_1 b1_2 else none else none
 else if 12 = (0 : Int) then
 none
 else (spec_l5Base k).bind fun r3 =>
 if 0 ≤ b1_0 then
 if b1_0 < ((List.length r3 : Nat) : Int) then
 some ((b1_0, (IntKind.wrap .i64 ((Int.tmod pitch_0 12) - (rd (.int .i64) r3 b1_0)), (b1_2, ()))), (true, ())) else none else none := by kernel_rfl
theorem spec_NoteText_eq (k : Nat) (x_0 : DT66) : spec_NoteText (k + 1) x_0 =
 (spec_IsNote k x_0).bind fun r1 =>
 if ¬ (r1 = true) then
 some (ByteArray.mk #[])
 else if 0 ≤ (IntKind.wrap .i64 (x_0.1 + 1)) then
 if (IntKind.wrap .i64 (x_0.1 + 1)) ≤ (((ByteArray.mk #[99, 100, 101, 102, 103, 97, 98]).size : Nat) : Int) then
 if 0 ≤ x_0.1 then
 if x_0.1 ≤ (IntKind.wrap .i64 (x_0.1 + 1)) then
 spec_NoteText.l0 k k (ByteArray.extract (ByteArray.mk #[99, 100, 101, 102, 103, 97, 98]) (Int.toNat x_0.1) (Int.toNat (IntKind.wrap .i64 (x_0.1 + 1)))) 0 x_0.1 x_0.2.1 x_0.2.2.1 else none else none else none else none := by kernel_rfl
theorem spec_NoteText.l0_eq (k m : Nat) (s_3 : ByteArray) (i_4 : Int) (b0_0 : Int) (b0_1 : Int) (b0_2 : Int) : spec_NoteText.l0 k (m + 1) s_3 i_4 b0_0 b0_1 b0_2 =
 (spec_l4Abs k b0_1).bind fun r2 =>
 if (i_4 : Int) < r2 then
 if (0 : Int) < b0_1 then
 if s_3.size + (ByteArray.mk #[35]).size ≤ 211106232532992 then
 spec_NoteText.l0 k m (s_3 ++ (ByteArray.mk #[35])) (IntKind.wrap .i64 (i_4 + 1)) b0_0 b0_1 b0_2 else none
 else if s_3.size + (ByteArray.mk #[98]).size ≤ 211106232532992 then
 spec_NoteText.l0 k m (s_3 ++ (ByteArray.mk #[98])) (IntKind.wrap .i64 (i_4 + 1)) b0_0 b0_1 b0_2 else none
 else (spec_FormatInt k b0_2).bind fun r3 =>
 if s_3.size + r3.size ≤ 211106232532992 then
 some (s_3 ++ r3) else none := by kernel_rfl
theorem impl_FormatPart_1_eq (k : Nat) (s_0 : DT66) : impl_FormatPart_1 (k + 1) s_0 =
 if (s_0.2.2.1 : Int) ≠ 0 then
 (impl_spelled k s_0.2.2.1).bind fun r1 =>
 if r1.size + (ByteArray.mk #[47]).size ≤ 211106232532992 then
 (impl_FormatInt k s_0.2.1).bind fun r2 =>
 if (r1 ++ (ByteArray.mk #[47])).size + r2.size ≤ 211106232532992 then
 some ((r1 ++ (ByteArray.mk #[47])) ++ r2) else none else none
 else if (ByteArray.mk #[114]).size + (ByteArray.mk #[47]).size ≤ 211106232532992 then
 (impl_FormatInt k s_0.2.1).bind fun r3 =>
 if ((ByteArray.mk #[114]) ++ (ByteArray.mk #[47])).size + r3.size ≤ 211106232532992 then
 some (((ByteArray.mk #[114]) ++ (ByteArray.mk #[47])) ++ r3) else none else none := by kernel_rfl
theorem strings_Join_eq (k : Nat) (elems_0 : (List ByteArray)) (sep_1 : ByteArray) : strings_Join (k + 1) elems_0 sep_1 = primJoin .str [.val (.list .str) elems_0, .val .str sep_1] := by kernel_rfl
theorem spec_l1In_eq (k : Nat) (x_0 : Int) (least_1 : Int) (most_2 : Int) : spec_l1In (k + 1) x_0 least_1 most_2 =
 if (least_1 : Int) ≤ x_0 then
 some (decide ((x_0 : Int) ≤ most_2))
 else some false := by kernel_rfl
theorem spec_l5Base_eq (k : Nat) : spec_l5Base (k + 1) =
 some ([0, 2, 4, 5, 7, 9, 11]) := by kernel_rfl
theorem spec_IsNote_eq (k : Nat) (x_0 : DT66) : spec_IsNote (k + 1) x_0 =
 (spec_l1In k x_0.1 0 6).bind fun r1 =>
 if r1 = true then
 (spec_l1In k x_0.2.1 (-2) 2).bind fun r2 =>
 if r2 = true then
 (spec_l1In k x_0.2.2.1 0 8).bind fun r3 =>
 if r3 = true then
 (spec_l5Pitch k x_0).bind fun r4 =>
 (spec_l1In k r4 12 120).bind fun r5 =>
 some (decide (r5 = true))
 else some false
 else some false
 else some false := by kernel_rfl
theorem spec_l4Abs_eq (k : Nat) (n_0 : Int) : spec_l4Abs (k + 1) n_0 =
 if (n_0 : Int) < 0 then
 some (IntKind.wrap .i64 (-n_0))
 else some n_0 := by kernel_rfl
theorem impl_spelled_eq (k : Nat) (pitch_0 : Int) : impl_spelled (k + 1) pitch_0 =
 (impl_SpellSharp k pitch_0).bind fun r1 =>
 if ¬ (r1.2.1 = true) then
 some (ByteArray.mk #[])
 else (impl_NoteText k r1.1).bind fun r2 =>
 some r2 := by kernel_rfl
theorem impl_FormatInt_eq (k : Nat) (n_0 : Int) : impl_FormatInt (k + 1) n_0 =
 (strconv_Itoa k n_0).bind fun r1 =>
 some r1 := by kernel_rfl
theorem spec_l5Pitch_eq (k : Nat) (x_0 : DT66) : spec_l5Pitch (k + 1) x_0 =
 (spec_l5Base k).bind fun r1 =>
 if 0 ≤ x_0.1 then
 if x_0.1 < ((List.length r1 : Nat) : Int) then
 some (IntKind.wrap .i64 ((IntKind.wrap .i64 ((IntKind.wrap .i64 (12 * (IntKind.wrap .i64 (x_0.2.2.1 + 1)))) + (rd (.int .i64) r1 x_0.1))) + x_0.2.1)) else none else none := by kernel_rfl
theorem impl_SpellSharp_eq (k : Nat) (pitch_0 : Int) : impl_SpellSharp (k + 1) pitch_0 =
 (impl_InRange k pitch_0 12 119).bind fun r1 =>
 if ¬ (r1 = true) then
 some ((0, (0, (0, ()))), (false, ()))
 else impl_SpellSharp.l0 k k pitch_0 0 0 0 0 := by kernel_rfl
theorem impl_SpellSharp.l0_eq (k m : Nat) (b0_0 : Int) (b1_0 : Int) (b1_1 : Int) (b1_2 : Int) (b2_0 : Int) : impl_SpellSharp.l0 k (m + 1) b0_0 b1_0 b1_1 b1_2 b2_0 =
 if (b2_0 : Int) ≤ 1 then
 (impl_notes_79 k b0_0 b2_0).bind fun r2 =>
 if r2.2.1 = true then
 some (r2.1, (true, ()))
 else impl_SpellSharp.l0 k m b0_0 b1_0 b1_1 b1_2 (IntKind.wrap .i64 (b2_0 + 1))
 else some ((0, (0, (0, ()))), (false, ())) := by kernel_rfl
theorem impl_NoteText_eq (k : Nat) (x_0 : DT66) : impl_NoteText (k + 1) x_0 =
 (impl_IsNote k x_0).bind fun r1 =>
 if ¬ (r1 = true) then
 some (ByteArray.mk #[])
 else if 0 ≤ (IntKind.wrap .i64 (x_0.1 + 1)) then
 if (IntKind.wrap .i64 (x_0.1 + 1)) ≤ (((ByteArray.mk #[99, 100, 101, 102, 103, 97, 98]).size : Nat) : Int) then
 if 0 ≤ x_0.1 then
 if x_0.1 ≤ (IntKind.wrap .i64 (x_0.1 + 1)) then
 (strings_Repeat k (ByteArray.mk #[35]) (max x_0.2.1 0 : Int)).bind fun r2 =>
 if (ByteArray.extract (ByteArray.mk #[99, 100, 101, 102, 103, 97, 98]) (Int.toNat x_0.1) (Int.toNat (IntKind.wrap .i64 (x_0.1 + 1)))).size + r2.size ≤ 211106232532992 then
 (strings_Repeat k (ByteArray.mk #[98]) (max (IntKind.wrap .i64 (-x_0.2.1)) 0 : Int)).bind fun r3 =>
 if ((ByteArray.extract (ByteArray.mk #[99, 100, 101, 102, 103, 97, 98]) (Int.toNat x_0.1) (Int.toNat (IntKind.wrap .i64 (x_0.1 + 1)))) ++ r2).size + r3.size ≤ 211106232532992 then
 (impl_FormatInt k x_0.2.2.1).bind fun r4 =>
 if (((ByteArray.extract (ByteArray.mk #[99, 100, 101, 102, 103, 97, 98]) (Int.toNat x_0.1) (Int.toNat (IntKind.wrap .i64 (x_0.1 + 1)))) ++ r2) ++ r3).size + r4.size ≤ 211106232532992 then
 some ((((ByteArray.extract (ByteArray.mk #[99, 100, 101, 102, 103, 97, 98]) (Int.toNat x_0.1) (Int.toNat (IntKind.wrap .i64 (x_0.1 + 1)))) ++ r2) ++ r3) ++ r4) else none else none else none else none else none else none else none := by kernel_rfl
theorem strconv_Itoa_eq (k : Nat) (i_0 : Int) : strconv_Itoa (k + 1) i_0 = primItoa .str [.val (.int .i64) i_0] := by kernel_rfl
theorem impl_InRange_eq (k : Nat) (n_0 : Int) (low_1 : Int) (high_2 : Int) : impl_InRange (k + 1) n_0 low_1 high_2 =
 if (low_1 : Int) ≤ n_0 then
 some (decide ((n_0 : Int) ≤ high_2))
 else some false := by kernel_rfl
theorem impl_notes_79_eq (k : Nat) (c0_0 : Int) (c0_1 : Int) : impl_notes_79 (k + 1) c0_0 c0_1 =
 impl_notes_79.l0 k k c0_0 c0_1 0 0 0 0 := by kernel_rfl
theorem impl_notes_79.l0_eq (k m : Nat) (is_0_c : Int) (is_0_c_1 : Int) (octave_4 : Int) (b0_0 : Int) (b0_1 : Int) (b0_2 : Int) : impl_notes_79.l0 k (m + 1) is_0_c is_0_c_1 octave_4 b0_0 b0_1 b0_2 =
 if (octave_4 : Int) ≤ 8 then
 impl_notes_79.l1 k k m is_0_c is_0_c_1 octave_4 0 b0_0 b0_1 b0_2
 else some ((0, (0, (0, ()))), (false, ())) := by kernel_rfl
theorem impl_notes_79.l1_eq (k m m1 : Nat) (is_0_c : Int) (is_0_c_1 : Int) (octave_4 : Int) (step_5 : Int) (b0_0 : Int) (b0_1 : Int) (b0_2 : Int) : impl_notes_79.l1 k (m + 1) m1 is_0_c is_0_c_1 octave_4 step_5 b0_0 b0_1 b0_2 =
 if (step_5 : Int) ≤ 6 then
 impl_notes_79.l2 k k m1 m is_0_c is_0_c_1 octave_4 step_5 (-2) b0_0 b0_1 b0_2
 else impl_notes_79.l0 k m1 is_0_c is_0_c_1 (IntKind.wrap .i64 (octave_4 + 1)) b0_0 b0_1 b0_2 := by kernel_rfl
theorem impl_notes_79.l2_eq (k m m1 m2 : Nat) (is_0_c : Int) (is_0_c_1 : Int) (octave_4 : Int) (step_5 : Int) (alter_6 : Int) (b0_0 : Int) (b0_1 : Int) (b0_2 : Int) : impl_notes_79.l2 k (m + 1) m1 m2 is_0_c is_0_c_1 octave_4 step_5 alter_6 b0_0 b0_1 b0_2 =
 if (alter_6 : Int) ≤ 2 then
 (impl_IsNote k (step_5, (alter_6, (octave_4, ())))).bind fun r1 =>
 if r1 = true then
 (impl_SpellSharp_1 k (step_5, (alter_6, (octave_4, ()))) is_0_c is_0_c_1).bind fun r2 =>
 if r2 = true then
 some ((step_5, (alter_6, (octave_4, ()))), (true, ()))
 else impl_notes_79.l2 k m m1 m2 is_0_c is_0_c_1 octave_4 step_5 (IntKind.wrap .i64 (alter_6 + 1)) b0_0 b0_1 b0_2
 else impl_notes_79.l2 k m m1 m2 is_0_c is_0_c_1 octave_4 step_5 (IntKind.wrap .i64 (alter_6 + 1)) b0_0 b0_1 b0_2
 else impl_notes_79.l1 k m2 m1 is_0_c is_0_c_1 octave_4 (IntKind.wrap .i64 (step_5 + 1)) b0_0 b0_1 b0_2 := by kernel_rfl
theorem impl_IsNote_eq (k : Nat) (x_0 : DT66) : impl_IsNote (k + 1) x_0 =
 (impl_InRange k x_0.1 0 6).bind fun r1 =>
 if r1 = true then
 (impl_InRange k x_0.2.1 (-2) 2).bind fun r2 =>
 if r2 = true then
 (impl_InRange k x_0.2.2.1 0 8).bind fun r3 =>
 if r3 = true then
 (impl_Note__pitch k x_0).bind fun r4 =>
 (impl_InRange k r4 12 120).bind fun r5 =>
 some (decide (r5 = true))
 else some false
 else some false
 else some false := by kernel_rfl
theorem strings_Repeat_eq (k : Nat) (s_0 : ByteArray) (count_1 : Int) : strings_Repeat (k + 1) s_0 count_1 = primRepeat .str [.val .str s_0, .val (.int .i64) count_1] := by kernel_rfl
theorem impl_SpellSharp_1_eq (k : Nat) (x_0 : DT66) (a_1 : Int) (a_2 : Int) : impl_SpellSharp_1 (k + 1) x_0 a_1 a_2 =
 (impl_Note__pitch k x_0).bind fun r1 =>
 if (r1 : Int) = a_1 then
 some (decide ((x_0.2.1 : Int) = a_2))
 else some false := by kernel_rfl
theorem impl_Note__pitch_eq (k : Nat) (x_0 : DT66) : impl_Note__pitch (k + 1) x_0 =
 (impl_halves k x_0.1).bind fun r1 =>
 some (IntKind.wrap .i64 ((IntKind.wrap .i64 ((IntKind.wrap .i64 (12 * (IntKind.wrap .i64 (x_0.2.2.1 + 1)))) + x_0.2.1)) + r1)) := by kernel_rfl
theorem impl_halves_eq (k : Nat) (step_0 : Int) : impl_halves (k + 1) step_0 = primHalves (.int .i64) [.val (.int .i64) step_0] := by kernel_rfl
end Go.QFnExactFormatPart
