/- The functions that the law FnExactFormatNumbers reaches, as equations; printed by pe.py. No condition. -/
import Derived.Test.YtboaihbcaoofcaaDoorPrim
import Derived.Test.YtboaihbcaoofcaaDoorProg
import Derived.KernelRfl
set_option linter.unusedVariables false
open Go Go.Flat
namespace Go.QFnExactFormatNumbers
abbrev T44 : Ty := .pair (.int .i64) (.pair (.int .i64) .unit)
abbrev DT44 := Int × (Int × Unit)
abbrev T54 : Ty := .pair (.int .i64) T44
abbrev DT54 := Int × DT44
abbrev T34 : Ty := .pair (.int .i64) T54
abbrev DT34 := Int × DT54
noncomputable def C : Cfg := {
  P := Go.Proofs.Tryd.prog,
  tt := [(1, none), (2, some (.int .i64)), (3, some (.int .i64)), (4, some .bool), (5, some (.int .u8)), (6, some (.int .u8)), (9, some .str), (10, some .str), (11, some .str), (12, some (.int .u64)), (15, none), (16, none), (17, none), (21, some (.int .i32)), (22, some (.list (.int .i64))), (23, none), (24, none), (25, none), (26, none), (27, some (.list T44)), (28, none), (29, none), (30, some (.list T44)), (31, none), (32, none), (33, none), (34, some T34), (35, some T34), (36, none), (37, some T34), (38, none), (39, none), (40, some (.list .str)), (41, none), (42, none), (43, none), (44, some T44), (45, some T44), (46, none), (47, some T44), (48, none), (49, none), (50, none), (51, none), (52, some (.list (.int .u8))), (53, none), (54, some T54), (55, some T54), (57, none), (58, none), (59, none), (62, none), (66, none), (67, none), (68, none), (69, none), (70, none), (71, none), (72, none), (73, none), (74, none), (75, none), (76, none), (77, some (.int .u64)), (79, none), (80, none), (82, none), (83, none), (85, some (.int .u64)), (86, none), (87, none), (89, none), (91, some (.int .u32)), (93, none), (95, none), (96, none), (99, none), (100, none), (101, none), (109, some (.int .u8)), (110, some (.int .u8)), (111, none), (112, some (.int .i32)), (113, some (.int .i32))],
  vars := [(6, [0, 3, 4]), (7, [0, 3, 4]), (9, [0, 1, 5]), (18, [0, 3, 4]), (19, [0, 3, 4]), (20, [1, 5, 12, 13, 14]), (29, [0, 1, 5, 8, 39, 40, 41, 63, 64, 65])],
  sigs := [],
  prim := fun f => bif Nat.beq f 29 then some primJoin else bif Nat.beq f 30 then some primItoa else none,
  tabs := [("internal/strconv.uint64pow10", Lib.pow10Tab)] }
noncomputable def laws_FnExactFormatNumbers (k : Nat) (aL_0 : (List Int)) : Option Bool := run C k 3 .bool [.val (.list (.int .i64)) aL_0]
noncomputable def laws_toIntS (k : Nat) (a_0 : (List Int)) : Option (List Int) := run C k 7 (.list (.int .i64)) [.val (.list (.int .i64)) a_0]
noncomputable def laws_toIntS.l0 (k m : Nat) (a_0 : (List Int)) (i_4 : Int) (s0 : (List Int)) : Option (List Int) := loopRun C k 7 (.list (.int .i64)) [0] [.r, .r, .l, .r, .b] [] [0, 3, 4] m ⟨[.one (.cell (.list false (.int .i64) a_0)), .one (.cell (.ref 1)), .one (.cell (.int .i64 i_4))], [.arr (.int .i64) s0 .open]⟩
noncomputable def spec_FormatNumbers (k : Nat) (l_0 : (List Int)) : Option ByteArray := run C k 6 .str [.val (.list (.int .i64)) l_0]
noncomputable def spec_FormatNumbers.l0 (k m : Nat) (l_0 : (List Int)) (i_4 : Int) (s0 : (List ByteArray)) : Option ByteArray := loopRun C k 6 .str [0] [.r, .r, .l, .r, .b] [] [0, 3, 4] m ⟨[.one (.cell (.list false (.int .i64) l_0)), .one (.cell (.ref 1)), .one (.cell (.int .i64 i_4))], [.arr .str s0 .open]⟩
noncomputable def impl_FormatNumbers (k : Nat) (l_0 : (List Int)) : Option ByteArray := run C k 8 .str [.val (.list (.int .i64)) l_0]
noncomputable def laws_eqIntS (k : Nat) (a_0 : (List Int)) (b_1 : (List Int)) : Option Bool := run C k 9 .bool [.val (.list (.int .i64)) a_0, .val (.list (.int .i64)) b_1]
noncomputable def laws_eqIntS.l0 (k m : Nat) (a_0 : (List Int)) (b_1 : (List Int)) (i_5 : Int) : Option Bool := loopRun C k 9 .bool [0, 0] [.r, .r, .l, .r, .b] [] [0, 1, 5] m ⟨[.one (.cell (.list false (.int .i64) a_0)), .one (.cell (.list false (.int .i64) b_1)), .one (.cell (.int .i64 i_5))], []⟩
noncomputable def spec_FormatInt (k : Nat) (n_0 : Int) : Option ByteArray := run C k 18 .str [.val (.int .i64) n_0]
noncomputable def spec_FormatInt.l0 (k m : Nat) (n_0 : Int) (s_3 : ByteArray) (x_4 : Int) : Option ByteArray := loopRun C k 18 .str [0] [.r, .r, .r, .l, .r, .b] [] [0, 3, 4] m ⟨[.one (.cell (.int .i64 n_0)), .one (.cell (.str s_3)), .one (.cell (.int .i64 x_4))], []⟩
noncomputable def spec_l39Join (k : Nat) (l_0 : (List ByteArray)) : Option ByteArray := run C k 19 .str [.val (.list .str) l_0]
noncomputable def spec_l39Join.l0 (k m : Nat) (l_0 : (List ByteArray)) (s_3 : ByteArray) (i_4 : Int) : Option ByteArray := loopRun C k 19 .str [0] [.r, .r, .l, .r, .b] [] [0, 3, 4] m ⟨[.one (.cell (.list false .str l_0)), .one (.cell (.str s_3)), .one (.cell (.int .i64 i_4))], []⟩
noncomputable def impl_spaced_int_21 (k : Nat) (l_0 : (List Int)) : Option ByteArray := run C k 20 .str [.val (.list (.int .i64)) l_0, .clo 21 []]
noncomputable def impl_spaced_int_21.l0 (k m : Nat) (t_12 : (List Int)) (t_13 : Int) (t_14 : Int) (s0 : (List ByteArray)) : Option ByteArray := loopRun C k 20 .str [0, 0] [.r, .r, .r, .l, .r, .b] [] [1, 5, 12, 13, 14] m ⟨[.one (.cell (.clo 21 [])), .one (.cell (.ref 1)), .one (.cell (.list false (.int .i64) t_12)), .one (.cell (.int .i64 t_13)), .one (.cell (.int .i64 t_14))], [.arr .str s0 .open]⟩
noncomputable def impl_FormatInt (k : Nat) (n_0 : Int) : Option ByteArray := run C k 21 .str [.val (.int .i64) n_0]
noncomputable def strings_Join (k : Nat) (elems_0 : (List ByteArray)) (sep_1 : ByteArray) : Option ByteArray := run C k 29 .str [.val (.list .str) elems_0, .val .str sep_1]
noncomputable def strconv_Itoa (k : Nat) (i_0 : Int) : Option ByteArray := run C k 30 .str [.val (.int .i64) i_0]
theorem laws_FnExactFormatNumbers_eq (k : Nat) (aL_0 : (List Int)) : laws_FnExactFormatNumbers (k + 1) aL_0 =
 if (1048576 : Int) < ((List.length aL_0 : Nat) : Int) then
 some true
 else (laws_toIntS k aL_0).bind fun r1 =>
 (spec_FormatNumbers k r1).bind fun r2 =>
 (laws_toIntS k aL_0).bind fun r3 =>
 (impl_FormatNumbers k r3).bind fun r4 =>
 if ¬ (r4 = r2) then
 some false
 else (laws_toIntS k aL_0).bind fun r5 =>
 (laws_eqIntS k r3 r5).bind fun r6 =>
 if ¬ (r6 = true) then
 some false
 else some true := by kernel_rfl
theorem laws_toIntS_eq (k : Nat) (a_0 : (List Int)) : laws_toIntS (k + 1) a_0 =
 if 0 ≤ ((List.length a_0 : Nat) : Int) then
 if ((List.length a_0 : Nat) : Int) ≤ ((List.length a_0 : Nat) : Int) then
 if ((List.length a_0 : Nat) : Int) * 8 ≤ 211106232532992 then
 laws_toIntS.l0 k k a_0 0 (List.replicate (Int.toNat ((List.length a_0 : Nat) : Int)) (Ty.dflt (.int .i64))) else none else none else none := by kernel_rfl
theorem laws_toIntS.l0_eq (k m : Nat) (a_0 : (List Int)) (i_4 : Int) (s0 : (List Int)) : laws_toIntS.l0 k (m + 1) a_0 i_4 s0 =
 if (i_4 : Int) < ((List.length a_0 : Nat) : Int) then
 if 0 ≤ i_4 then
 if i_4 < ((List.length a_0 : Nat) : Int) then
 if 0 ≤ i_4 then
 if i_4 < ((List.length s0 : Nat) : Int) then
 laws_toIntS.l0 k m a_0 (IntKind.wrap .i64 (i_4 + 1)) (List.set s0 (Int.toNat i_4) (rd (.int .i64) a_0 i_4)) else none else none else none else none
 else some s0 := by kernel_rfl
theorem spec_FormatNumbers_eq (k : Nat) (l_0 : (List Int)) : spec_FormatNumbers (k + 1) l_0 =
 spec_FormatNumbers.l0 k k l_0 0 [] := by kernel_rfl
theorem spec_FormatNumbers.l0_eq (k m : Nat) (l_0 : (List Int)) (i_4 : Int) (s0 : (List ByteArray)) : spec_FormatNumbers.l0 k (m + 1) l_0 i_4 s0 =
 if (i_4 : Int) < ((List.length l_0 : Nat) : Int) then
 if 0 ≤ i_4 then
 if i_4 < ((List.length l_0 : Nat) : Int) then
 (spec_FormatInt k (rd (.int .i64) l_0 i_4)).bind fun r1 =>
 if (List.length s0 + List.length [r1]) * 16 ≤ 211106232532992 then
 spec_FormatNumbers.l0 k m l_0 (IntKind.wrap .i64 (i_4 + 1)) (s0 ++ [r1]) else none else none else none
 else (spec_l39Join k s0).bind fun r2 =>
 some r2 := by kernel_rfl
theorem impl_FormatNumbers_eq (k : Nat) (l_0 : (List Int)) : impl_FormatNumbers (k + 1) l_0 =
 (impl_spaced_int_21 k l_0).bind fun r1 =>
 some r1 := by kernel_rfl
theorem laws_eqIntS_eq (k : Nat) (a_0 : (List Int)) (b_1 : (List Int)) : laws_eqIntS (k + 1) a_0 b_1 =
 if (((List.length a_0 : Nat) : Int) : Int) ≠ ((List.length b_1 : Nat) : Int) then
 some false
 else laws_eqIntS.l0 k k a_0 b_1 0 := by kernel_rfl
theorem laws_eqIntS.l0_eq (k m : Nat) (a_0 : (List Int)) (b_1 : (List Int)) (i_5 : Int) : laws_eqIntS.l0 k (m + 1) a_0 b_1 i_5 =
 if (i_5 : Int) < ((List.length a_0 : Nat) : Int) then
 if 0 ≤ i_5 then
 if i_5 < ((List.length a_0 : Nat) : Int) then
 if 0 ≤ i_5 then
 if i_5 < ((List.length b_1 : Nat) : Int) then
 if Ne (α := Int) (rd (.int .i64) a_0 i_5) (rd (.int .i64) b_1 i_5) then
 some false
 else laws_eqIntS.l0 k m a_0 b_1 (IntKind.wrap .i64 (i_5 + 1)) else none else none else none else none
 else some true := by kernel_rfl
theorem spec_FormatInt_eq (k : Nat) (n_0 : Int) : spec_FormatInt (k + 1) n_0 =
 if (n_0 : Int) = 0 then
 some (ByteArray.mk #[48])
 else spec_FormatInt.l0 k k n_0 (ByteArray.mk #[]) n_0 := by kernel_rfl
theorem spec_FormatInt.l0_eq (k m : Nat) (n_0 : Int) (s_3 : ByteArray) (x_4 : Int) : spec_FormatInt.l0 k (m + 1) n_0 s_3 x_4 =
 if (x_4 : Int) ≠ 0 then
 if 10 = (0 : Int) then
 none
 else if ((Int.tmod x_4 10) : Int) < 0 then
 if (ofBytes ([IntKind.wrap .u8 (IntKind.wrap .i64 (48 + (IntKind.wrap .i64 (-(Int.tmod x_4 10)))))])).size + s_3.size ≤ 211106232532992 then
 if 10 = (0 : Int) then
 none
 else spec_FormatInt.l0 k m n_0 ((ofBytes ([IntKind.wrap .u8 (IntKind.wrap .i64 (48 + (IntKind.wrap .i64 (-(Int.tmod x_4 10)))))])) ++ s_3) (IntKind.wrap .i64 (Int.tdiv x_4 10)) else none
 else if (ofBytes ([IntKind.wrap .u8 (IntKind.wrap .i64 (48 + (Int.tmod x_4 10)))])).size + s_3.size ≤ 211106232532992 then
 if 10 = (0 : Int) then
 none
 else spec_FormatInt.l0 k m n_0 ((ofBytes ([IntKind.wrap .u8 (IntKind.wrap .i64 (48 + (Int.tmod x_4 10)))])) ++ s_3) (IntKind.wrap .i64 (Int.tdiv x_4 10)) else none
 else if (n_0 : Int) < 0 then
 if (ByteArray.mk #[45]).size + s_3.size ≤ 211106232532992 then
 some ((ByteArray.mk #[45]) ++ s_3) else none
 else some s_3 := by kernel_rfl
theorem spec_l39Join_eq (k : Nat) (l_0 : (List ByteArray)) : spec_l39Join (k + 1) l_0 =
 spec_l39Join.l0 k k l_0 (ByteArray.mk #[]) 0 := by kernel_rfl
theorem spec_l39Join.l0_eq (k m : Nat) (l_0 : (List ByteArray)) (s_3 : ByteArray) (i_4 : Int) : spec_l39Join.l0 k (m + 1) l_0 s_3 i_4 =
 if (i_4 : Int) < ((List.length l_0 : Nat) : Int) then
 if (0 : Int) < i_4 then
 if s_3.size + (ByteArray.mk #[32]).size ≤ 211106232532992 then
 if 0 ≤ i_4 then
 if i_4 < ((List.length l_0 : Nat) : Int) then
 if (s_3 ++ (ByteArray.mk #[32])).size + (rd .str l_0 i_4).size ≤ 211106232532992 then
 spec_l39Join.l0 k m l_0 ((s_3 ++ (ByteArray.mk #[32])) ++ (rd .str l_0 i_4)) (IntKind.wrap .i64 (i_4 + 1)) else none else none else none else none
 else if 0 ≤ i_4 then
 if i_4 < ((List.length l_0 : Nat) : Int) then
 if s_3.size + (rd .str l_0 i_4).size ≤ 211106232532992 then
 spec_l39Join.l0 k m l_0 (s_3 ++ (rd .str l_0 i_4)) (IntKind.wrap .i64 (i_4 + 1)) else none else none else none
 else if (((List.length l_0 : Nat) : Int) : Int) = 0 then
 some (ByteArray.mk #[45])
 else some s_3 := by kernel_rfl
theorem impl_spaced_int_21_eq (k : Nat) (l_0 : (List Int)) : impl_spaced_int_21 (k + 1) l_0 =
 if (((List.length l_0 : Nat) : Int) : Int) = 0 then
 some (ByteArray.mk #[45])
 else impl_spaced_int_21.l0 k k l_0 ((List.length l_0 : Nat) : Int) 0 [] := by kernel_rfl
theorem impl_spaced_int_21.l0_eq (k m : Nat) (t_12 : (List Int)) (t_13 : Int) (t_14 : Int) (s0 : (List ByteArray)) : impl_spaced_int_21.l0 k (m + 1) t_12 t_13 t_14 s0 =
 if (t_14 : Int) < t_13 then
 if 0 ≤ t_14 then
 if t_14 < ((List.length t_12 : Nat) : Int) then
 (impl_FormatInt k (rd (.int .i64) t_12 t_14)).bind fun r1 =>
 if (List.length s0 + List.length [r1]) * 16 ≤ 211106232532992 then
 impl_spaced_int_21.l0 k m t_12 t_13 (IntKind.wrap .i64 (t_14 + 1)) (s0 ++ [r1]) else none else none else none
 else (strings_Join k s0 (ByteArray.mk #[32])).bind fun r2 =>
 some r2 := by kernel_rfl
theorem impl_FormatInt_eq (k : Nat) (n_0 : Int) : impl_FormatInt (k + 1) n_0 =
 (strconv_Itoa k n_0).bind fun r1 =>
 some r1 := by kernel_rfl
theorem strings_Join_eq (k : Nat) (elems_0 : (List ByteArray)) (sep_1 : ByteArray) : strings_Join (k + 1) elems_0 sep_1 = primJoin .str [.val (.list .str) elems_0, .val .str sep_1] := by kernel_rfl
theorem strconv_Itoa_eq (k : Nat) (i_0 : Int) : strconv_Itoa (k + 1) i_0 = primItoa .str [.val (.int .i64) i_0] := by kernel_rfl
end Go.QFnExactFormatNumbers
