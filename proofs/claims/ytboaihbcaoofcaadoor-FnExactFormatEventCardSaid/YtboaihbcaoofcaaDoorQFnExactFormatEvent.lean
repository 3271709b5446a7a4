/- The functions that the law FnExactFormatEvent reaches, as equations; printed by pe.py. No condition. -/
import Derived.Test.YtboaihbcaoofcaaDoorPrim
import Derived.Test.YtboaihbcaoofcaaDoorProg
import Derived.KernelRfl
set_option linter.unusedVariables false
open Go Go.Flat
namespace Go.QFnExactFormatEvent
abbrev T44 : Ty := .pair (.int .i64) (.pair (.int .i64) .unit)
abbrev DT44 := Int × (Int × Unit)
abbrev T54 : Ty := .pair (.int .i64) T44
abbrev DT54 := Int × DT44
abbrev T34 : Ty := .pair (.int .i64) T54
abbrev DT34 := Int × DT54
noncomputable def C : Cfg := {
  P := Go.Proofs.Tryd.prog,
  tt := [(1, none), (2, some (.int .i64)), (3, some (.int .i64)), (4, some .bool), (5, some (.int .u8)), (6, some (.int .u8)), (9, some .str), (10, some .str), (11, some .str), (12, some (.int .u64)), (15, none), (16, none), (17, none), (21, some (.int .i32)), (22, some (.list (.int .i64))), (23, none), (24, none), (25, none), (26, none), (27, some (.list T44)), (28, none), (29, none), (30, some (.list T44)), (31, none), (32, none), (33, none), (34, some T34), (35, some T34), (36, none), (37, some T34), (38, none), (39, none), (40, some (.list .str)), (41, none), (42, none), (43, none), (44, some T44), (45, some T44), (46, none), (47, some T44), (48, none), (49, none), (50, none), (51, none), (52, some (.list (.int .u8))), (53, none), (54, some T54), (55, some T54), (57, none), (58, none), (59, none), (62, none), (66, none), (67, none), (68, none), (69, none), (70, none), (71, none), (72, none), (73, none), (74, none), (75, none), (76, none), (77, some (.int .u64)), (79, none), (80, none), (82, none), (83, none), (85, some (.int .u64)), (86, none), (87, none), (89, none), (91, some (.int .u32)), (93, none), (95, none), (96, none), (99, none), (100, none), (101, none), (109, some (.int .u8)), (110, some (.int .u8)), (111, none), (112, some (.int .i32)), (113, some (.int .i32))],
  vars := [(18, [0, 3, 4]), (31, [0, 2, 4, 5]), (32, [1, 3, 4]), (33, [1, 2, 4]), (43, [0, 2, 4, 5, 6]), (47, [7, 8, 9])],
  sigs := [],
  prim := fun f => bif Nat.beq f 30 then some primItoa else bif Nat.beq f 47 then some primRepeat else bif Nat.beq f 52 then some primHalves else none,
  tabs := [("internal/strconv.uint64pow10", Lib.pow10Tab)] }
noncomputable def laws_FnExactFormatEvent (k : Nat) (aE_0 : DT34) : Option Bool := run C k 5 .bool [.val T34 aE_0]
noncomputable def laws_toEvent (k : Nat) (a_0 : DT34) : Option DT34 := run C k 16 T34 [.val T34 a_0]
noncomputable def spec_FormatEvent (k : Nat) (e_0 : DT34) : Option ByteArray := run C k 15 .str [.val T34 e_0]
noncomputable def impl_FormatEvent (k : Nat) (e_0 : DT34) : Option ByteArray := run C k 17 .str [.val T34 e_0]
noncomputable def spec_l39Note (k : Nat) (pitch_0 : Int) : Option ByteArray := run C k 27 .str [.val (.int .i64) pitch_0]
noncomputable def spec_FormatInt (k : Nat) (n_0 : Int) : Option ByteArray := run C k 18 .str [.val (.int .i64) n_0]
noncomputable def spec_FormatInt.l0 (k m : Nat) (n_0 : Int) (s_3 : ByteArray) (x_4 : Int) : Option ByteArray := loopRun C k 18 .str [0] [.r, .r, .r, .l, .r, .b] [] [0, 3, 4] m ⟨[.one (.cell (.int .i64 n_0)), .one (.cell (.str s_3)), .one (.cell (.int .i64 x_4))], []⟩
noncomputable def impl_spelled (k : Nat) (pitch_0 : Int) : Option ByteArray := run C k 28 .str [.val (.int .i64) pitch_0]
noncomputable def impl_FormatInt (k : Nat) (n_0 : Int) : Option ByteArray := run C k 21 .str [.val (.int .i64) n_0]
noncomputable def spec_SpellSharp (k : Nat) (pitch_0 : Int) : Option (DT54 × (Bool × Unit)) := run C k 31 (.pair T54 (.pair .bool .unit)) [.val (.int .i64) pitch_0]
noncomputable def spec_SpellSharp.l0 (k m : Nat) (pitch_0 : Int) (i_5 : Int) (b0_0 : Int) (b0_1 : Int) (b0_2 : Int) (b1_0 : Int) (b1_1 : Int) (b1_2 : Int) : Option (DT54 × (Bool × Unit)) := loopRun C k 31 (.pair T54 (.pair .bool .unit)) [0] [.r, .r, .r, .l, .r, .b] [] [0, 2, 4, 5] m ⟨[.one (.cell (.int .i64 pitch_0)), .one (.cell (.ptr 1 0)), .one (.cell (.ptr 5 0)), .one (.cell (.int .i64 i_5))], [.box (some T54) [.int .i64 b0_0, .int .i64 b0_1, .int .i64 b0_2], .box (some T54) [.int .i64 b1_0, .int .i64 b1_1, .int .i64 b1_2]]⟩
noncomputable def spec_NoteText (k : Nat) (x_0 : DT54) : Option ByteArray := run C k 32 .str [.val T54 x_0]
noncomputable def spec_NoteText.l0 (k m : Nat) (s_3 : ByteArray) (i_4 : Int) (b0_0 : Int) (b0_1 : Int) (b0_2 : Int) : Option ByteArray := loopRun C k 32 .str [0] [.r, .r, .r, .l, .r, .b] [] [1, 3, 4] m ⟨[.one (.cell (.ptr 1 0)), .one (.cell (.str s_3)), .one (.cell (.int .i64 i_4))], [.box (some T54) [.int .i64 b0_0, .int .i64 b0_1, .int .i64 b0_2]]⟩
noncomputable def impl_SpellSharp (k : Nat) (pitch_0 : Int) : Option (DT54 × (Bool × Unit)) := run C k 33 (.pair T54 (.pair .bool .unit)) [.val (.int .i64) pitch_0]
noncomputable def impl_SpellSharp.l0 (k m : Nat) (b0_0 : Int) (b1_0 : Int) (b1_1 : Int) (b1_2 : Int) (b2_0 : Int) : Option (DT54 × (Bool × Unit)) := loopRun C k 33 (.pair T54 (.pair .bool .unit)) [0] [.r, .r, .l, .r, .b] [] [1, 2, 4] m ⟨[.one (.cell (.ptr 1 0)), .one (.cell (.ptr 5 0)), .one (.cell (.ptr 9 0))], [.box (some (.int .i64)) [.int .i64 b0_0], .box (some T54) [.int .i64 b1_0, .int .i64 b1_1, .int .i64 b1_2], .box (some (.int .i64)) [.int .i64 b2_0]]⟩
noncomputable def impl_NoteText (k : Nat) (x_0 : DT54) : Option ByteArray := run C k 34 .str [.val T54 x_0]
noncomputable def strconv_Itoa (k : Nat) (i_0 : Int) : Option ByteArray := run C k 30 .str [.val (.int .i64) i_0]
noncomputable def spec_l1In (k : Nat) (x_0 : Int) (least_1 : Int) (most_2 : Int) : Option Bool := run C k 39 .bool [.val (.int .i64) x_0, .val (.int .i64) least_1, .val (.int .i64) most_2]
noncomputable def spec_l5Base (k : Nat) : Option (List Int) := run C k 40 (.list (.int .i64)) []
noncomputable def spec_IsNote (k : Nat) (x_0 : DT54) : Option Bool := run C k 41 .bool [.val T54 x_0]
noncomputable def spec_l4Abs (k : Nat) (n_0 : Int) : Option Int := run C k 42 (.int .i64) [.val (.int .i64) n_0]
noncomputable def impl_InRange (k : Nat) (n_0 : Int) (low_1 : Int) (high_2 : Int) : Option Bool := run C k 25 .bool [.val (.int .i64) n_0, .val (.int .i64) low_1, .val (.int .i64) high_2]
noncomputable def impl_notes_44 (k : Nat) (c0_0 : Int) (c0_1 : Int) : Option (DT54 × (Bool × Unit)) := run C k 43 (.pair T54 (.pair .bool .unit)) [.clo 44 [.ro (.int .i64) c0_0, .ro (.int .i64) c0_1]]
noncomputable def impl_notes_44.l0 (k m : Nat) (is_0_c : Int) (is_0_c_1 : Int) (octave_4 : Int) (b0_0 : Int) (b0_1 : Int) (b0_2 : Int) : Option (DT54 × (Bool × Unit)) := loopRun C k 43 (.pair T54 (.pair .bool .unit)) [0] [.r, .l, .r, .b] [] [0, 2, 4] m ⟨[.one (.cell (.clo 44 [.ro (.int .i64) is_0_c, .ro (.int .i64) is_0_c_1])), .one (.cell (.ptr 1 0)), .one (.cell (.int .i64 octave_4))], [.box (some T54) [.int .i64 b0_0, .int .i64 b0_1, .int .i64 b0_2]]⟩
noncomputable def impl_notes_44.l1 (k m m1 : Nat) (is_0_c : Int) (is_0_c_1 : Int) (octave_4 : Int) (step_5 : Int) (b0_0 : Int) (b0_1 : Int) (b0_2 : Int) : Option (DT54 × (Bool × Unit)) := loopRun C k 43 (.pair T54 (.pair .bool .unit)) [0] [.r, .l, .r, .b, .p, .r, .l, .b, .r, .b] [⟨[0, 2, 4], m1⟩] [0, 2, 4, 5] m ⟨[.one (.cell (.clo 44 [.ro (.int .i64) is_0_c, .ro (.int .i64) is_0_c_1])), .one (.cell (.ptr 1 0)), .one (.cell (.int .i64 octave_4)), .one (.cell (.int .i64 step_5))], [.box (some T54) [.int .i64 b0_0, .int .i64 b0_1, .int .i64 b0_2]]⟩
noncomputable def impl_notes_44.l2 (k m m1 m2 : Nat) (is_0_c : Int) (is_0_c_1 : Int) (octave_4 : Int) (step_5 : Int) (alter_6 : Int) (b0_0 : Int) (b0_1 : Int) (b0_2 : Int) : Option (DT54 × (Bool × Unit)) := loopRun C k 43 (.pair T54 (.pair .bool .unit)) [0] [.r, .l, .r, .b, .p, .r, .l, .b, .r, .b, .p, .r, .l, .b, .r, .b] [⟨[0, 2, 4], m1⟩, ⟨[0, 2, 4, 5], m2⟩] [0, 2, 4, 5, 6] m ⟨[.one (.cell (.clo 44 [.ro (.int .i64) is_0_c, .ro (.int .i64) is_0_c_1])), .one (.cell (.ptr 1 0)), .one (.cell (.int .i64 octave_4)), .one (.cell (.int .i64 step_5)), .one (.cell (.int .i64 alter_6))], [.box (some T54) [.int .i64 b0_0, .int .i64 b0_1, .int .i64 b0_2]]⟩
noncomputable def impl_IsNote (k : Nat) (x_0 : DT54) : Option Bool := run C k 46 .bool [.val T54 x_0]
noncomputable def strings_Repeat (k : Nat) (s_0 : ByteArray) (count_1 : Int) : Option ByteArray := run C k 47 .str [.val .str s_0, .val (.int .i64) count_1]
noncomputable def spec_l5Pitch (k : Nat) (x_0 : DT54) : Option Int := run C k 51 (.int .i64) [.val T54 x_0]
noncomputable def impl_SpellSharp_1 (k : Nat) (x_0 : DT54) (a_1 : Int) (a_2 : Int) : Option Bool := run C k 44 .bool [.val T54 x_0, .rp (.int .i64) a_1, .rp (.int .i64) a_2]
noncomputable def impl_Note__pitch (k : Nat) (x_0 : DT54) : Option Int := run C k 45 (.int .i64) [.val T54 x_0]
noncomputable def impl_halves (k : Nat) (step_0 : Int) : Option Int := run C k 52 (.int .i64) [.val (.int .i64) step_0]
theorem laws_FnExactFormatEvent_eq (k : Nat) (aE_0 : DT34) : laws_FnExactFormatEvent (k + 1) aE_0 =
 (laws_toEvent k aE_0).bind fun r1 =>
 (spec_FormatEvent k r1).bind fun r2 =>
 (laws_toEvent k aE_0).bind fun r3 =>
 (impl_FormatEvent k r3).bind fun r4 =>
 if ¬ (r4 = r2) then
 some false
 else some true := by kernel_rfl
theorem laws_toEvent_eq (k : Nat) (a_0 : DT34) : laws_toEvent (k + 1) a_0 =
 some a_0 := by kernel_rfl
theorem spec_FormatEvent_eq (k : Nat) (e_0 : DT34) : spec_FormatEvent (k + 1) e_0 =
 (spec_l39Note k e_0.2.2.1).bind fun r1 =>
 if r1.size + (ByteArray.mk #[64]).size ≤ 211106232532992 then
 (spec_FormatInt k e_0.1).bind fun r2 =>
 if (r1 ++ (ByteArray.mk #[64])).size + r2.size ≤ 211106232532992 then
 if ((r1 ++ (ByteArray.mk #[64])) ++ r2).size + (ByteArray.mk #[43]).size ≤ 211106232532992 then
 (spec_FormatInt k e_0.2.1).bind fun r3 =>
 if (((r1 ++ (ByteArray.mk #[64])) ++ r2) ++ (ByteArray.mk #[43])).size + r3.size ≤ 211106232532992 then
 if ((((r1 ++ (ByteArray.mk #[64])) ++ r2) ++ (ByteArray.mk #[43])) ++ r3).size + (ByteArray.mk #[118]).size ≤ 211106232532992 then
 (spec_FormatInt k e_0.2.2.2.1).bind fun r4 =>
 if (((((r1 ++ (ByteArray.mk #[64])) ++ r2) ++ (ByteArray.mk #[43])) ++ r3) ++ (ByteArray.mk #[118])).size + r4.size ≤ 211106232532992 then
 some ((((((r1 ++ (ByteArray.mk #[64])) ++ r2) ++ (ByteArray.mk #[43])) ++ r3) ++ (ByteArray.mk #[118])) ++ r4) else none else none else none else none else none else none := by kernel_rfl
theorem impl_FormatEvent_eq (k : Nat) (e_0 : DT34) : impl_FormatEvent (k + 1) e_0 =
 (impl_spelled k e_0.2.2.1).bind fun r1 =>
 if r1.size + (ByteArray.mk #[64]).size ≤ 211106232532992 then
 (impl_FormatInt k e_0.1).bind fun r2 =>
 if (r1 ++ (ByteArray.mk #[64])).size + r2.size ≤ 211106232532992 then
 if ((r1 ++ (ByteArray.mk #[64])) ++ r2).size + (ByteArray.mk #[43]).size ≤ 211106232532992 then
 (impl_FormatInt k e_0.2.1).bind fun r3 =>
 if (((r1 ++ (ByteArray.mk #[64])) ++ r2) ++ (ByteArray.mk #[43])).size + r3.size ≤ 211106232532992 then
 if ((((r1 ++ (ByteArray.mk #[64])) ++ r2) ++ (ByteArray.mk #[43])) ++ r3).size + (ByteArray.mk #[118]).size ≤ 211106232532992 then
 (impl_FormatInt k e_0.2.2.2.1).bind fun r4 =>
 if (((((r1 ++ (ByteArray.mk #[64])) ++ r2) ++ (ByteArray.mk #[43])) ++ r3) ++ (ByteArray.mk #[118])).size + r4.size ≤ 211106232532992 then
 some ((((((r1 ++ (ByteArray.mk #[64])) ++ r2) ++ (ByteArray.mk #[43])) ++ r3) ++ (ByteArray.mk #[118])) ++ r4) else none else none else none else none else none else none := by kernel_rfl
theorem spec_l39Note_eq (k : Nat) (pitch_0 : Int) : spec_l39Note (k + 1) pitch_0 =
 (spec_SpellSharp k pitch_0).bind fun r1 =>
 if ¬ (r1.2.1 = true) then
 some (ByteArray.mk #[])
 else (spec_NoteText k r1.1).bind fun r2 =>
 some r2 := by kernel_rfl
theorem spec_FormatInt_eq (k : Nat) (n_0 : Int) : spec_FormatInt (k + 1) n_0 =
 if (n_0 : Int) = 0 then
 some (ByteArray.mk #[48])
 else spec_FormatInt.l0 k k n_0 (ByteArray.mk #[]) n_0 := by kernel_rfl
theorem spec_FormatInt.l0_eq (k m : Nat) (n_0 : Int) (s_3 : ByteArray) (x_4 : Int) : spec_FormatInt.l0 k (m + 1) n_0 s_3 x_4 =
 if (x_4 : Int) ≠ 0 then
 if 10 = (0 : Int) then
 none
 else if ((Int.tmod x_4 10) : Int) < 0 then
 if (ofBytes ([IntKind.wrap .u8 (IntKind.wrap .i64 (48 + (IntKind.wrap .i64 (-(Int.tmod x_4 10)))))])).size + s_3.size ≤ 211106232532992 then
 if 10 = (0 : Int) then
 none
 else spec_FormatInt.l0 k m n_0 ((ofBytes ([IntKind.wrap .u8 (IntKind.wrap .i64 (48 + (IntKind.wrap .i64 (-(Int.tmod x_4 10)))))])) ++ s_3) (IntKind.wrap .i64 (Int.tdiv x_4 10)) else none
 else if (ofBytes ([IntKind.wrap .u8 (IntKind.wrap .i64 (48 + (Int.tmod x_4 10)))])).size + s_3.size ≤ 211106232532992 then
 if 10 = (0 : Int) then
 none
 else spec_FormatInt.l0 k m n_0 ((ofBytes ([IntKind.wrap .u8 (IntKind.wrap .i64 (48 + (Int.tmod x_4 10)))])) ++ s_3) (IntKind.wrap .i64 (Int.tdiv x_4 10)) else none
 else if (n_0 : Int) < 0 then
 if (ByteArray.mk #[45]).size + s_3.size ≤ 211106232532992 then
 some ((ByteArray.mk #[45]) ++ s_3) else none
 else some s_3 := by kernel_rfl
theorem impl_spelled_eq (k : Nat) (pitch_0 : Int) : impl_spelled (k + 1) pitch_0 =
 (impl_SpellSharp k pitch_0).bind fun r1 =>
 if ¬ (r1.2.1 = true) then
 some (ByteArray.mk #[])
 else (impl_NoteText k r1.1).bind fun r2 =>
 some r2 := by kernel_rfl
theorem impl_FormatInt_eq (k : Nat) (n_0 : Int) : impl_FormatInt (k + 1) n_0 =
 (strconv_Itoa k n_0).bind fun r1 =>
 some r1 := by kernel_rfl
theorem spec_SpellSharp_eq (k : Nat) (pitch_0 : Int) : spec_SpellSharp (k + 1) pitch_0 =
 (spec_l1In k pitch_0 12 119).bind fun r1 =>
 if ¬ (r1 = true) then
 some ((0, (0, (0, ()))), (false, ()))
 else if 12 = (0 : Int) then
 none
 else spec_SpellSharp.l0 k k pitch_0 0 0 0 0 0 0 (IntKind.wrap .i64 ((IntKind.wrap .i64 (Int.tdiv pitch_0 12)) - 1)) := by kernel_rfl
theorem spec_SpellSharp.l0_eq (k m : Nat) (pitch_0 : Int) (i_5 : Int) (b0_0 : Int) (b0_1 : Int) (b0_2 : Int) (b1_0 : Int) (b1_1 : Int) (b1_2 : Int) : spec_SpellSharp.l0 k (m + 1) pitch_0 i_5 b0_0 b0_1 b0_2 b1_0 b1_1 b1_2 =
 if (i_5 : Int) < 7 then
 (spec_l5Base k).bind fun r2 =>
 if 0 ≤ i_5 then
 if i_5 < ((List.length r2 : Nat) : Int) then
 if 12 = (0 : Int) then
 none
 else if LE.le (α := Int) (rd (.int .i64) r2 i_5) (Int.tmod pitch_0 12) then
 spec_SpellSharp.l0 k m pitch_0 (IntKind.wrap .i64 (i_5 + 1)) b0_0 b0_1 b0_2 i_5 b1_1 b1_2
 else spec_SpellSharp.l0 k m pitch_0 (IntKind.wrap .i64 (i_5 + 1)) b0_0 b0_1 b0_2 b1_0 b1_1 b1_2 else none else none
 else if 12 = (0 : Int) then
 none
 else (spec_l5Base k).bind fun r3 =>
 if 0 ≤ b1_0 then
 if b1_0 < ((List.length r3 : Nat) : Int) then
 some ((b1_0, (IntKind.wrap .i64 ((Int.tmod pitch_0 12) - (rd (.int .i64) r3 b1_0)), (b1_2, ()))), (true, ())) else none else none := by kernel_rfl
theorem spec_NoteText_eq (k : Nat) (x_0 : DT54) : spec_NoteText (k + 1) x_0 =
 (spec_IsNote k x_0).bind fun r1 =>
 if ¬ (r1 = true) then
 some (ByteArray.mk #[])
 else if 0 ≤ (IntKind.wrap .i64 (x_0.1 + 1)) then
 if (IntKind.wrap .i64 (x_0.1 + 1)) ≤ (((ByteArray.mk #[99, 100, 101, 102, 103, 97, 98]).size : Nat) : Int) then
 if 0 ≤ x_0.1 then
 if x_0.1 ≤ (IntKind.wrap .i64 (x_0.1 + 1)) then
 spec_NoteText.l0 k k (ByteArray.extract (ByteArray.mk #[99, 100, 101, 102, 103, 97, 98]) (Int.toNat x_0.1) (Int.toNat (IntKind.wrap .i64 (x_0.1 + 1)))) 0 x_0.1 x_0.2.1 x_0.2.2.1 else none else none else none else none := by kernel_rfl
theorem spec_NoteText.l0_eq (k m : Nat) (s_3 : ByteArray) (i_4 : Int) (b0_0 : Int) (b0_1 : Int) (b0_2 : Int) : spec_NoteText.l0 k (m + 1) s_3 i_4 b0_0 b0_1 b0_2 =
 (spec_l4Abs k b0_1).bind fun r2 =>
 if (i_4 : Int) < r2 then
 if (0 : Int) < b0_1 then
 if s_3.size + (ByteArray.mk #[35]).size ≤ 211106232532992 then
 spec_NoteText.l0 k m (s_3 ++ (ByteArray.mk #[35])) (IntKind.wrap .i64 (i_4 + 1)) b0_0 b0_1 b0_2 else none
 else if s_3.size + (ByteArray.mk #[98]).size ≤ 211106232532992 then
 spec_NoteText.l0 k m (s_3 ++ (ByteArray.mk #[98])) (IntKind.wrap .i64 (i_4 + 1)) b0_0 b0_1 b0_2 else none
 else (spec_FormatInt k b0_2).bind fun r3 =>
 if s_3.size + r3.size ≤ 211106232532992 then
 some (s_3 ++ r3) else none := by kernel_rfl
theorem impl_SpellSharp_eq (k : Nat) (pitch_0 : Int) : impl_SpellSharp (k + 1) pitch_0 =
 (impl_InRange k pitch_0 12 119).bind fun r1 =>
 if ¬ (r1 = true) then
 some ((0, (0, (0, ()))), (false, ()))
 else impl_SpellSharp.l0 k k pitch_0 0 0 0 0 := by kernel_rfl
theorem impl_SpellSharp.l0_eq (k m : Nat) (b0_0 : Int) (b1_0 : Int) (b1_1 : Int) (b1_2 : Int) (b2_0 : Int) : impl_SpellSharp.l0 k (m + 1) b0_0 b1_0 b1_1 b1_2 b2_0 =
 if (b2_0 : Int) ≤ 1 then
 (impl_notes_44 k b0_0 b2_0).bind fun r2 =>
 if r2.2.1 = true then
 some (r2.1, (true, ()))
 else impl_SpellSharp.l0 k m b0_0 b1_0 b1_1 b1_2 (IntKind.wrap .i64 (b2_0 + 1))
 else some ((0, (0, (0, ()))), (false, ())) := by kernel_rfl
theorem impl_NoteText_eq (k : Nat) (x_0 : DT54) : impl_NoteText (k + 1) x_0 =
 (impl_IsNote k x_0).bind fun r1 =>
 if ¬ (r1 = true) then
 some (ByteArray.mk #[])
 else if 0 ≤ (IntKind.wrap .i64 (x_0.1 + 1)) then
 if (IntKind.wrap .i64 (x_0.1 + 1)) ≤ (((ByteArray.mk #[99, 100, 101, 102, 103, 97, 98]).size : Nat) : Int) then
 if 0 ≤ x_0.1 then
 if x_0.1 ≤ (IntKind.wrap .i64 (x_0.1 + 1)) then
 (strings_Repeat k (ByteArray.mk #[35]) (max x_0.2.1 0 : Int)).bind fun r2 =>
 if (ByteArray.extract (ByteArray.mk #[99, 100, 101, 102, 103, 97, 98]) (Int.toNat x_0.1) (Int.toNat (IntKind.wrap .i64 (x_0.1 + 1)))).size + r2.size ≤ 211106232532992 then
 (strings_Repeat k (ByteArray.mk #[98]) (max (IntKind.wrap .i64 (-x_0.2.1)) 0 : Int)).bind fun r3 =>
 if ((ByteArray.extract (ByteArray.mk #[99, 100, 101, 102, 103, 97, 98]) (Int.toNat x_0.1) (Int.toNat (IntKind.wrap .i64 (x_0.1 + 1)))) ++ r2).size + r3.size ≤ 211106232532992 then
 (impl_FormatInt k x_0.2.2.1).bind fun r4 =>
 if (((ByteArray.extract (ByteArray.mk #[99, 100, 101, 102, 103, 97, 98]) (Int.toNat x_0.1) (Int.toNat (IntKind.wrap .i64 (x_0.1 + 1)))) ++ r2) ++ r3).size + r4.size ≤ 211106232532992 then
 some ((((ByteArray.extract (ByteArray.mk #[99, 100, 101, 102, 103, 97, 98]) (Int.toNat x_0.1) (Int.toNat (IntKind.wrap .i64 (x_0.1 + 1)))) ++ r2) ++ r3) ++ r4) else none else none else none else none else none else none else none := by kernel_rfl
theorem strconv_Itoa_eq (k : Nat) (i_0 : Int) : strconv_Itoa (k + 1) i_0 = primItoa .str [.val (.int .i64) i_0] := by kernel_rfl
theorem spec_l1In_eq (k : Nat) (x_0 : Int) (least_1 : Int) (most_2 : Int) : spec_l1In (k + 1) x_0 least_1 most_2 =
 if (least_1 : Int) ≤ x_0 then
 some (decide ((x_0 : Int) ≤ most_2))
 else some false := by kernel_rfl
theorem spec_l5Base_eq (k : Nat) : spec_l5Base (k + 1) =
 some ([0, 2, 4, 5, 7, 9, 11]) := by kernel_rfl
theorem spec_IsNote_eq (k : Nat) (x_0 : DT54) : spec_IsNote (k + 1) x_0 =
 (spec_l1In k x_0.1 0 6).bind fun r1 =>
 if r1 = true then
 (spec_l1In k x_0.2.1 (-2) 2).bind fun r2 =>
 if r2 = true then
 (spec_l1In k x_0.2.2.1 0 8).bind fun r3 =>
 if r3 = true then
 (spec_l5Pitch k x_0).bind fun r4 =>
 (spec_l1In k r4 12 120).bind fun r5 =>
 some (decide (r5 = true))
 else some false
 else some false
 else some false := by kernel_rfl
theorem spec_l4Abs_eq (k : Nat) (n_0 : Int) : spec_l4Abs (k + 1) n_0 =
 if (n_0 : Int) < 0 then
 some (IntKind.wrap .i64 (-n_0))
 else some n_0 := by kernel_rfl
theorem impl_InRange_eq (k : Nat) (n_0 : Int) (low_1 : Int) (high_2 : Int) : impl_InRange (k + 1) n_0 low_1 high_2 =
 if (low_1 : Int) ≤ n_0 then
 some (decide ((n_0 : Int) ≤ high_2))
 else some false := by kernel_rfl
theorem impl_notes_44_eq (k : Nat) (c0_0 : Int) (c0_1 : Int) : impl_notes_44 (k + 1) c0_0 c0_1 =
 impl_notes_44.l0 k k c0_0 c0_1 0 0 0 0 := by kernel_rfl
theorem impl_notes_44.l0_eq (k m : Nat) (is_0_c : Int) (is_0_c_1 : Int) (octave_4 : Int) (b0_0 : Int) (b0_1 : Int) (b0_2 : Int) : impl_notes_44.l0 k (m + 1) is_0_c is_0_c_1 octave_4 b0_0 b0_1 b0_2 =
 if (octave_4 : Int) ≤ 8 then
 impl_notes_44.l1 k k m is_0_c is_0_c_1 octave_4 0 b0_0 b0_1 b0_2
 else some ((0, (0, (0, ()))), (false, ())) := by kernel_rfl
theorem impl_notes_44.l1_eq (k m m1 : Nat) (is_0_c : Int) (is_0_c_1 : Int) (octave_4 : Int) (step_5 : Int) (b0_0 : Int) (b0_1 : Int) (b0_2 : Int) : impl_notes_44.l1 k (m + 1) m1 is_0_c is_0_c_1 octave_4 step_5 b0_0 b0_1 b0_2 =
 if (step_5 : Int) ≤ 6 then
 impl_notes_44.l2 k k m1 m is_0_c is_0_c_1 octave_4 step_5 (-2) b0_0 b0_1 b0_2
 else impl_notes_44.l0 k m1 is_0_c is_0_c_1 (IntKind.wrap .i64 (octave_4 + 1)) b0_0 b0_1 b0_2 := by kernel_rfl
theorem impl_notes_44.l2_eq (k m m1 m2 : Nat) (is_0_c : Int) (is_0_c_1 : Int) (octave_4 : Int) (step_5 : Int) (alter_6 : Int) (b0_0 : Int) (b0_1 : Int) (b0_2 : Int) : impl_notes_44.l2 k (m + 1) m1 m2 is_0_c is_0_c_1 octave_4 step_5 alter_6 b0_0 b0_1 b0_2 =
 if (alter_6 : Int) ≤ 2 then
 (impl_IsNote k (step_5, (alter_6, (octave_4, ())))).bind fun r1 =>
 if r1 = true then
 (impl_SpellSharp_1 k (step_5, (alter_6, (octave_4, ()))) is_0_c is_0_c_1).bind fun r2 =>
 if r2 = true then
 some ((step_5, (alter_6, (octave_4, ()))), (true, ()))
 else impl_notes_44.l2 k m m1 m2 is_0_c is_0_c_1 octave_4 step_5 (IntKind.wrap .i64 (alter_6 + 1)) b0_0 b0_1 b0_2
 else impl_notes_44.l2 k m m1 m2 is_0_c is_0_c_1 octave_4 step_5 (IntKind.wrap .i64 (alter_6 + 1)) b0_0 b0_1 b0_2
 else impl_notes_44.l1 k m2 m1 is_0_c is_0_c_1 octave_4 (IntKind.wrap .i64 (step_5 + 1)) b0_0 b0_1 b0_2 := by kernel_rfl
theorem impl_IsNote_eq (k : Nat) (x_0 : DT54) : impl_IsNote (k + 1) x_0 =
 (impl_InRange k x_0.1 0 6).bind fun r1 =>
 if r1 = true then
 (impl_InRange k x_0.2.1 (-2) 2).bind fun r2 =>
 if r2 = true then
 (impl_InRange k x_0.2.2.1 0 8).bind fun r3 =>
 if r3 = true then
 (impl_Note__pitch k x_0).bind fun r4 =>
 (impl_InRange k r4 12 120).bind fun r5 =>
 some (decide (r5 = true))
 else some false
 else some false
 else some false := by kernel_rfl
theorem strings_Repeat_eq (k : Nat) (s_0 : ByteArray) (count_1 : Int) : strings_Repeat (k + 1) s_0 count_1 = primRepeat .str [.val .str s_0, .val (.int .i64) count_1] := by kernel_rfl
theorem spec_l5Pitch_eq (k : Nat) (x_0 : DT54) : spec_l5Pitch (k + 1) x_0 =
 (spec_l5Base k).bind fun r1 =>
 if 0 ≤ x_0.1 then
 if x_0.1 < ((List.length r1 : Nat) : Int) then
 some (IntKind.wrap .i64 ((IntKind.wrap .i64 ((IntKind.wrap .i64 (12 * (IntKind.wrap .i64 (x_0.2.2.1 + 1)))) + (rd (.int .i64) r1 x_0.1))) + x_0.2.1)) else none else none := by kernel_rfl
theorem impl_SpellSharp_1_eq (k : Nat) (x_0 : DT54) (a_1 : Int) (a_2 : Int) : impl_SpellSharp_1 (k + 1) x_0 a_1 a_2 =
 (impl_Note__pitch k x_0).bind fun r1 =>
 if (r1 : Int) = a_1 then
 some (decide ((x_0.2.1 : Int) = a_2))
 else some false := by kernel_rfl
theorem impl_Note__pitch_eq (k : Nat) (x_0 : DT54) : impl_Note__pitch (k + 1) x_0 =
 (impl_halves k x_0.1).bind fun r1 =>
 some (IntKind.wrap .i64 ((IntKind.wrap .i64 ((IntKind.wrap .i64 (12 * (IntKind.wrap .i64 (x_0.2.2.1 + 1)))) + x_0.2.1)) + r1)) := by kernel_rfl
theorem impl_halves_eq (k : Nat) (step_0 : Int) : impl_halves (k + 1) step_0 = primHalves (.int .i64) [.val (.int .i64) step_0] := by kernel_rfl
end Go.QFnExactFormatEvent
