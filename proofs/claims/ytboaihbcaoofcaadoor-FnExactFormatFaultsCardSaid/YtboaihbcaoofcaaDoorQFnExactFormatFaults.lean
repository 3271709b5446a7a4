/- The functions that the law FnExactFormatFaults reaches, as equations; printed by pe.py. No condition. -/
import Derived.Test.YtboaihbcaoofcaaDoorPrim
import Derived.Test.YtboaihbcaoofcaaDoorProg
import Derived.KernelRfl
set_option linter.unusedVariables false
open Go Go.Flat
namespace Go.QFnExactFormatFaults
abbrev T44 : Ty := .pair (.int .i64) (.pair (.int .i64) .unit)
abbrev DT44 := Int × (Int × Unit)
abbrev T54 : Ty := .pair (.int .i64) T44
abbrev DT54 := Int × DT44
abbrev T34 : Ty := .pair (.int .i64) T54
abbrev DT34 := Int × DT54
noncomputable def C : Cfg := {
  P := Go.Proofs.Tryd.prog,
  tt := [(1, none), (2, some (.int .i64)), (3, some (.int .i64)), (4, some .bool), (5, some (.int .u8)), (6, some (.int .u8)), (9, some .str), (10, some .str), (11, some .str), (12, some (.int .u64)), (15, none), (16, none), (17, none), (21, some (.int .i32)), (22, some (.list (.int .i64))), (23, none), (24, none), (25, none), (26, none), (27, some (.list T44)), (28, none), (29, none), (30, some (.list T44)), (31, none), (32, none), (33, none), (34, some T34), (35, some T34), (36, none), (37, some T34), (38, none), (39, none), (40, some (.list .str)), (41, none), (42, none), (43, none), (44, some T44), (45, some T44), (46, none), (47, some T44), (48, none), (49, none), (50, none), (51, none), (52, some (.list (.int .u8))), (53, none), (54, some T54), (55, some T54), (57, none), (58, none), (59, none), (62, none), (66, none), (67, none), (68, none), (69, none), (70, none), (71, none), (72, none), (73, none), (74, none), (75, none), (76, none), (77, some (.int .u64)), (79, none), (80, none), (82, none), (83, none), (85, some (.int .u64)), (86, none), (87, none), (89, none), (91, some (.int .u32)), (93, none), (95, none), (96, none), (99, none), (100, none), (101, none), (109, some (.int .u8)), (110, some (.int .u8)), (111, none), (112, some (.int .i32)), (113, some (.int .i32))],
  vars := [(11, [0, 3, 4]), (12, [0, 3, 4]), (14, [0, 1, 5]), (18, [0, 3, 4]), (19, [0, 3, 4]), (23, [1, 5, 12, 13, 14]), (29, [0, 1, 5, 8, 39, 40, 41, 63, 64, 65])],
  sigs := [],
  prim := fun f => bif Nat.beq f 29 then some primJoin else bif Nat.beq f 30 then some primItoa else none,
  tabs := [("internal/strconv.uint64pow10", Lib.pow10Tab)] }
noncomputable def laws_FnExactFormatFaults (k : Nat) (aL_0 : (List DT44)) : Option Bool := run C k 4 .bool [.val (.list T44) aL_0]
noncomputable def laws_szFaultS (k : Nat) (a_0 : (List DT44)) (left_1 : Int) : Option Int := run C k 10 (.int .i64) [.val (.list T44) a_0, .val (.int .i64) left_1]
noncomputable def laws_toFaultS (k : Nat) (a_0 : (List DT44)) : Option (List DT44) := run C k 12 (.list T44) [.val (.list T44) a_0]
noncomputable def laws_toFaultS.l0 (k m : Nat) (a_0 : (List DT44)) (i_4 : Int) (s0 : (List DT44)) : Option (List DT44) := loopRun C k 12 (.list T44) [0] [.r, .r, .l, .r, .b] [] [0, 3, 4] m ⟨[.one (.cell (.list false T44 a_0)), .one (.cell (.ref 1)), .one (.cell (.int .i64 i_4))], [.arr T44 s0 .open]⟩
noncomputable def spec_FormatFaults (k : Nat) (l_0 : (List DT44)) : Option ByteArray := run C k 11 .str [.val (.list T44) l_0]
noncomputable def spec_FormatFaults.l0 (k m : Nat) (l_0 : (List DT44)) (i_4 : Int) (s0 : (List ByteArray)) : Option ByteArray := loopRun C k 11 .str [0] [.r, .r, .l, .r, .b] [] [0, 3, 4] m ⟨[.one (.cell (.list false T44 l_0)), .one (.cell (.ref 1)), .one (.cell (.int .i64 i_4))], [.arr .str s0 .open]⟩
noncomputable def impl_FormatFaults (k : Nat) (l_0 : (List DT44)) : Option ByteArray := run C k 13 .str [.val (.list T44) l_0]
noncomputable def laws_eqFaultS (k : Nat) (a_0 : (List DT44)) (b_1 : (List DT44)) : Option Bool := run C k 14 .bool [.val (.list T44) a_0, .val (.list T44) b_1]
noncomputable def laws_eqFaultS.l0 (k m : Nat) (a_0 : (List DT44)) (b_1 : (List DT44)) (i_5 : Int) : Option Bool := loopRun C k 14 .bool [0, 0] [.r, .r, .l, .r, .b] [] [0, 1, 5] m ⟨[.one (.cell (.list false T44 a_0)), .one (.cell (.list false T44 b_1)), .one (.cell (.int .i64 i_5))], []⟩
noncomputable def laws_toFault (k : Nat) (a_0 : DT44) : Option DT44 := run C k 22 T44 [.val T44 a_0]
noncomputable def spec_FormatInt (k : Nat) (n_0 : Int) : Option ByteArray := run C k 18 .str [.val (.int .i64) n_0]
noncomputable def spec_FormatInt.l0 (k m : Nat) (n_0 : Int) (s_3 : ByteArray) (x_4 : Int) : Option ByteArray := loopRun C k 18 .str [0] [.r, .r, .r, .l, .r, .b] [] [0, 3, 4] m ⟨[.one (.cell (.int .i64 n_0)), .one (.cell (.str s_3)), .one (.cell (.int .i64 x_4))], []⟩
noncomputable def spec_l39Join (k : Nat) (l_0 : (List ByteArray)) : Option ByteArray := run C k 19 .str [.val (.list .str) l_0]
noncomputable def spec_l39Join.l0 (k m : Nat) (l_0 : (List ByteArray)) (s_3 : ByteArray) (i_4 : Int) : Option ByteArray := loopRun C k 19 .str [0] [.r, .r, .l, .r, .b] [] [0, 3, 4] m ⟨[.one (.cell (.list false .str l_0)), .one (.cell (.str s_3)), .one (.cell (.int .i64 i_4))], []⟩
noncomputable def impl_spaced_impl_Fault_24 (k : Nat) (l_0 : (List DT44)) : Option ByteArray := run C k 23 .str [.val (.list T44) l_0, .clo 24 []]
noncomputable def impl_spaced_impl_Fault_24.l0 (k m : Nat) (t_12 : (List DT44)) (t_13 : Int) (t_14 : Int) (s0 : (List ByteArray)) : Option ByteArray := loopRun C k 23 .str [0, 0] [.r, .r, .r, .l, .r, .b] [] [1, 5, 12, 13, 14] m ⟨[.one (.cell (.clo 24 [])), .one (.cell (.ref 1)), .one (.cell (.list false T44 t_12)), .one (.cell (.int .i64 t_13)), .one (.cell (.int .i64 t_14))], [.arr .str s0 .open]⟩
noncomputable def laws_eqFault (k : Nat) (a_0 : DT44) (b_1 : DT44) : Option Bool := run C k 26 .bool [.val T44 a_0, .val T44 b_1]
noncomputable def impl_FormatFaults_1 (k : Nat) (f_0 : DT44) : Option ByteArray := run C k 24 .str [.val T44 f_0]
noncomputable def strings_Join (k : Nat) (elems_0 : (List ByteArray)) (sep_1 : ByteArray) : Option ByteArray := run C k 29 .str [.val (.list .str) elems_0, .val .str sep_1]
noncomputable def impl_InRange (k : Nat) (n_0 : Int) (low_1 : Int) (high_2 : Int) : Option Bool := run C k 25 .bool [.val (.int .i64) n_0, .val (.int .i64) low_1, .val (.int .i64) high_2]
noncomputable def impl_FormatInt (k : Nat) (n_0 : Int) : Option ByteArray := run C k 21 .str [.val (.int .i64) n_0]
noncomputable def strconv_Itoa (k : Nat) (i_0 : Int) : Option ByteArray := run C k 30 .str [.val (.int .i64) i_0]
theorem laws_FnExactFormatFaults_eq (k : Nat) (aL_0 : (List DT44)) : laws_FnExactFormatFaults (k + 1) aL_0 =
 (laws_szFaultS k aL_0 1048576).bind fun r1 =>
 if (r1 : Int) < 0 then
 some true
 else (laws_toFaultS k aL_0).bind fun r2 =>
 (spec_FormatFaults k r2).bind fun r3 =>
 (laws_toFaultS k aL_0).bind fun r4 =>
 (impl_FormatFaults k r4).bind fun r5 =>
 if ¬ (r5 = r3) then
 some false
 else (laws_toFaultS k aL_0).bind fun r6 =>
 (laws_eqFaultS k r4 r6).bind fun r7 =>
 if ¬ (r7 = true) then
 some false
 else some true := by kernel_rfl
theorem laws_szFaultS_eq (k : Nat) (a_0 : (List DT44)) (left_1 : Int) : laws_szFaultS (k + 1) a_0 left_1 =
 if ((IntKind.wrap .i64 (left_1 - ((List.length a_0 : Nat) : Int))) : Int) < 0 then
 some (-1)
 else some (IntKind.wrap .i64 (left_1 - ((List.length a_0 : Nat) : Int))) := by kernel_rfl
theorem laws_toFaultS_eq (k : Nat) (a_0 : (List DT44)) : laws_toFaultS (k + 1) a_0 =
 if 0 ≤ ((List.length a_0 : Nat) : Int) then
 if ((List.length a_0 : Nat) : Int) ≤ ((List.length a_0 : Nat) : Int) then
 if ((List.length a_0 : Nat) : Int) * 16 ≤ 211106232532992 then
 laws_toFaultS.l0 k k a_0 0 (List.replicate (Int.toNat ((List.length a_0 : Nat) : Int)) (Ty.dflt T44)) else none else none else none := by kernel_rfl
theorem laws_toFaultS.l0_eq (k m : Nat) (a_0 : (List DT44)) (i_4 : Int) (s0 : (List DT44)) : laws_toFaultS.l0 k (m + 1) a_0 i_4 s0 =
 if (i_4 : Int) < ((List.length a_0 : Nat) : Int) then
 if 0 ≤ i_4 then
 if i_4 < ((List.length a_0 : Nat) : Int) then
 (laws_toFault k (rd T44 a_0 i_4)).bind fun r1 =>
 if 0 ≤ i_4 then
 if i_4 < ((List.length s0 : Nat) : Int) then
 laws_toFaultS.l0 k m a_0 (IntKind.wrap .i64 (i_4 + 1)) (List.set s0 (Int.toNat i_4) r1) else none else none else none else none
 else some s0 := by kernel_rfl
theorem spec_FormatFaults_eq (k : Nat) (l_0 : (List DT44)) : spec_FormatFaults (k + 1) l_0 =
 spec_FormatFaults.l0 k k l_0 0 [] := by kernel_rfl
theorem spec_FormatFaults.l0_eq (k m : Nat) (l_0 : (List DT44)) (i_4 : Int) (s0 : (List ByteArray)) : spec_FormatFaults.l0 k (m + 1) l_0 i_4 s0 =
 if (i_4 : Int) < ((List.length l_0 : Nat) : Int) then
 if 0 ≤ i_4 then
 if i_4 < ((List.length l_0 : Nat) : Int) then
 if Eq (α := Int) (rd T44 l_0 i_4).1 1 then
 if (ByteArray.mk #[112, 97, 114, 97, 108, 108, 101, 108]).size + (ByteArray.mk #[64]).size ≤ 211106232532992 then
 if 0 ≤ i_4 then
 if i_4 < ((List.length l_0 : Nat) : Int) then
 (spec_FormatInt k (rd T44 l_0 i_4).2.1).bind fun r1 =>
 if ((ByteArray.mk #[112, 97, 114, 97, 108, 108, 101, 108]) ++ (ByteArray.mk #[64])).size + r1.size ≤ 211106232532992 then
 if (List.length s0 + List.length ([(((ByteArray.mk #[112, 97, 114, 97, 108, 108, 101, 108]) ++ (ByteArray.mk #[64])) ++ r1)])) * 16 ≤ 211106232532992 then
 spec_FormatFaults.l0 k m l_0 (IntKind.wrap .i64 (i_4 + 1)) (s0 ++ [(((ByteArray.mk #[112, 97, 114, 97, 108, 108, 101, 108]) ++ (ByteArray.mk #[64])) ++ r1)]) else none else none else none else none else none
 else if Eq (α := Int) (rd T44 l_0 i_4).1 2 then
 if (ByteArray.mk #[99, 114, 111, 115, 115, 105, 110, 103]).size + (ByteArray.mk #[64]).size ≤ 211106232532992 then
 if 0 ≤ i_4 then
 if i_4 < ((List.length l_0 : Nat) : Int) then
 (spec_FormatInt k (rd T44 l_0 i_4).2.1).bind fun r2 =>
 if ((ByteArray.mk #[99, 114, 111, 115, 115, 105, 110, 103]) ++ (ByteArray.mk #[64])).size + r2.size ≤ 211106232532992 then
 if (List.length s0 + List.length ([(((ByteArray.mk #[99, 114, 111, 115, 115, 105, 110, 103]) ++ (ByteArray.mk #[64])) ++ r2)])) * 16 ≤ 211106232532992 then
 spec_FormatFaults.l0 k m l_0 (IntKind.wrap .i64 (i_4 + 1)) (s0 ++ [(((ByteArray.mk #[99, 114, 111, 115, 115, 105, 110, 103]) ++ (ByteArray.mk #[64])) ++ r2)]) else none else none else none else none else none
 else if Eq (α := Int) (rd T44 l_0 i_4).1 3 then
 if (ByteArray.mk #[108, 101, 97, 112]).size + (ByteArray.mk #[64]).size ≤ 211106232532992 then
 if 0 ≤ i_4 then
 if i_4 < ((List.length l_0 : Nat) : Int) then
 (spec_FormatInt k (rd T44 l_0 i_4).2.1).bind fun r3 =>
 if ((ByteArray.mk #[108, 101, 97, 112]) ++ (ByteArray.mk #[64])).size + r3.size ≤ 211106232532992 then
 if (List.length s0 + List.length ([(((ByteArray.mk #[108, 101, 97, 112]) ++ (ByteArray.mk #[64])) ++ r3)])) * 16 ≤ 211106232532992 then
 spec_FormatFaults.l0 k m l_0 (IntKind.wrap .i64 (i_4 + 1)) (s0 ++ [(((ByteArray.mk #[108, 101, 97, 112]) ++ (ByteArray.mk #[64])) ++ r3)]) else none else none else none else none else none
 else if (ByteArray.mk #[111, 116, 104, 101, 114]).size + (ByteArray.mk #[64]).size ≤ 211106232532992 then
 if 0 ≤ i_4 then
 if i_4 < ((List.length l_0 : Nat) : Int) then
 (spec_FormatInt k (rd T44 l_0 i_4).2.1).bind fun r4 =>
 if ((ByteArray.mk #[111, 116, 104, 101, 114]) ++ (ByteArray.mk #[64])).size + r4.size ≤ 211106232532992 then
 if (List.length s0 + List.length ([(((ByteArray.mk #[111, 116, 104, 101, 114]) ++ (ByteArray.mk #[64])) ++ r4)])) * 16 ≤ 211106232532992 then
 spec_FormatFaults.l0 k m l_0 (IntKind.wrap .i64 (i_4 + 1)) (s0 ++ [(((ByteArray.mk #[111, 116, 104, 101, 114]) ++ (ByteArray.mk #[64])) ++ r4)]) else none else none else none else none else none else none else none
 else (spec_l39Join k s0).bind fun r5 =>
 some r5 := by kernel_rfl
theorem impl_FormatFaults_eq (k : Nat) (l_0 : (List DT44)) : impl_FormatFaults (k + 1) l_0 =
 (impl_spaced_impl_Fault_24 k l_0).bind fun r1 =>
 some r1 := by kernel_rfl
theorem laws_eqFaultS_eq (k : Nat) (a_0 : (List DT44)) (b_1 : (List DT44)) : laws_eqFaultS (k + 1) a_0 b_1 =
 if (((List.length a_0 : Nat) : Int) : Int) ≠ ((List.length b_1 : Nat) : Int) then
 some false
 else laws_eqFaultS.l0 k k a_0 b_1 0 := by kernel_rfl
theorem laws_eqFaultS.l0_eq (k m : Nat) (a_0 : (List DT44)) (b_1 : (List DT44)) (i_5 : Int) : laws_eqFaultS.l0 k (m + 1) a_0 b_1 i_5 =
 if (i_5 : Int) < ((List.length a_0 : Nat) : Int) then
 if 0 ≤ i_5 then
 if i_5 < ((List.length a_0 : Nat) : Int) then
 if 0 ≤ i_5 then
 if i_5 < ((List.length b_1 : Nat) : Int) then
 (laws_eqFault k (rd T44 a_0 i_5) (rd T44 b_1 i_5)).bind fun r1 =>
 if ¬ (r1 = true) then
 some false
 else laws_eqFaultS.l0 k m a_0 b_1 (IntKind.wrap .i64 (i_5 + 1)) else none else none else none else none
 else some true := by kernel_rfl
theorem laws_toFault_eq (k : Nat) (a_0 : DT44) : laws_toFault (k + 1) a_0 =
 some a_0 := by kernel_rfl
theorem spec_FormatInt_eq (k : Nat) (n_0 : Int) : spec_FormatInt (k + 1) n_0 =
 if (n_0 : Int) = 0 then
 some (ByteArray.mk #[48])
 else spec_FormatInt.l0 k k n_0 (ByteArray.mk #[]) n_0 := by kernel_rfl
theorem spec_FormatInt.l0_eq (k m : Nat) (n_0 : Int) (s_3 : ByteArray) (x_4 : Int) : spec_FormatInt.l0 k (m + 1) n_0 s_3 x_4 =
 if (x_4 : Int) ≠ 0 then
 if 10 = (0 : Int) then
 none
 else if ((Int.tmod x_4 10) : Int) < 0 then
 if (ofBytes ([IntKind.wrap .u8 (IntKind.wrap .i64 (48 + (IntKind.wrap .i64 (-(Int.tmod x_4 10)))))])).size + s_3.size ≤ 211106232532992 then
 if 10 = (0 : Int) then
 none
 else spec_FormatInt.l0 k m n_0 ((ofBytes ([IntKind.wrap .u8 (IntKind.wrap .i64 (48 + (IntKind.wrap .i64 (-(Int.tmod x_4 10)))))])) ++ s_3) (IntKind.wrap .i64 (Int.tdiv x_4 10)) else none
 else if (ofBytes ([IntKind.wrap .u8 (IntKind.wrap .i64 (48 + (Int.tmod x_4 10)))])).size + s_3.size ≤ 211106232532992 then
 if 10 = (0 : Int) then
 none
 else spec_FormatInt.l0 k m n_0 ((ofBytes ([IntKind.wrap .u8 (IntKind.wrap .i64 (48 + (Int.tmod x_4 10)))])) ++ s_3) (IntKind.wrap .i64 (Int.tdiv x_4 10)) else none
 else if (n_0 : Int) < 0 then
 if (ByteArray.mk #[45]).size + s_3.size ≤ 211106232532992 then
 some ((ByteArray.mk #[45]) ++ s_3) else none
 else some s_3 := by kernel_rfl
theorem spec_l39Join_eq (k : Nat) (l_0 : (List ByteArray)) : spec_l39Join (k + 1) l_0 =
 spec_l39Join.l0 k k l_0 (ByteArray.mk #[]) 0 := by kernel_rfl
theorem spec_l39Join.l0_eq (k m : Nat) (l_0 : (List ByteArray)) (s_3 : ByteArray) (i_4 : Int) : spec_l39Join.l0 k (m + 1) l_0 s_3 i_4 =
 if (i_4 : Int) < ((List.length l_0 : Nat) : Int) then
 if (0 : Int) < i_4 then
 if s_3.size + (ByteArray.mk #[32]).size ≤ 211106232532992 then
 if 0 ≤ i_4 then
 if i_4 < ((List.length l_0 : Nat) : Int) then
 if (s_3 ++ (ByteArray.mk #[32])).size + (rd .str l_0 i_4).size ≤ 211106232532992 then
 spec_l39Join.l0 k m l_0 ((s_3 ++ (ByteArray.mk #[32])) ++ (rd .str l_0 i_4)) (IntKind.wrap .i64 (i_4 + 1)) else none else none else none else none
 else if 0 ≤ i_4 then
 if i_4 < ((List.length l_0 : Nat) : Int) then
 if s_3.size + (rd .str l_0 i_4).size ≤ 211106232532992 then
 spec_l39Join.l0 k m l_0 (s_3 ++ (rd .str l_0 i_4)) (IntKind.wrap .i64 (i_4 + 1)) else none else none else none
 else if (((List.length l_0 : Nat) : Int) : Int) = 0 then
 some (ByteArray.mk #[45])
 else some s_3 := by kernel_rfl
theorem impl_spaced_impl_Fault_24_eq (k : Nat) (l_0 : (List DT44)) : impl_spaced_impl_Fault_24 (k + 1) l_0 =
 if (((List.length l_0 : Nat) : Int) : Int) = 0 then
 some (ByteArray.mk #[45])
 else impl_spaced_impl_Fault_24.l0 k k l_0 ((List.length l_0 : Nat) : Int) 0 [] := by kernel_rfl
theorem impl_spaced_impl_Fault_24.l0_eq (k m : Nat) (t_12 : (List DT44)) (t_13 : Int) (t_14 : Int) (s0 : (List ByteArray)) : impl_spaced_impl_Fault_24.l0 k (m + 1) t_12 t_13 t_14 s0 =
 if (t_14 : Int) < t_13 then
 if 0 ≤ t_14 then
 if t_14 < ((List.length t_12 : Nat) : Int) then
 (impl_FormatFaults_1 k (rd T44 t_12 t_14)).bind fun r1 =>
 if (List.length s0 + List.length [r1]) * 16 ≤ 211106232532992 then
 impl_spaced_impl_Fault_24.l0 k m t_12 t_13 (IntKind.wrap .i64 (t_14 + 1)) (s0 ++ [r1]) else none else none else none
 else (strings_Join k s0 (ByteArray.mk #[32])).bind fun r2 =>
 some r2 := by kernel_rfl
theorem laws_eqFault_eq (k : Nat) (a_0 : DT44) (b_1 : DT44) : laws_eqFault (k + 1) a_0 b_1 =
 if (a_0.1 : Int) ≠ b_1.1 then
 some false
 else if (a_0.2.1 : Int) ≠ b_1.2.1 then
 some false
 else some true := by kernel_rfl
theorem impl_FormatFaults_1_eq (k : Nat) (f_0 : DT44) : impl_FormatFaults_1 (k + 1) f_0 =
 (impl_InRange k f_0.1 1 3).bind fun r1 =>
 if r1 = true then
 if 0 ≤ (IntKind.wrap .i64 (f_0.1 - 1)) then
 if (IntKind.wrap .i64 (f_0.1 - 1)) < ((List.length ([(ByteArray.mk #[112, 97, 114, 97, 108, 108, 101, 108]), (ByteArray.mk #[99, 114, 111, 115, 115, 105, 110, 103]), (ByteArray.mk #[108, 101, 97, 112])]) : Nat) : Int) then
 if (rd .str ([(ByteArray.mk #[112, 97, 114, 97, 108, 108, 101, 108]), (ByteArray.mk #[99, 114, 111, 115, 115, 105, 110, 103]), (ByteArray.mk #[108, 101, 97, 112])]) (IntKind.wrap .i64 (f_0.1 - 1))).size + (ByteArray.mk #[64]).size ≤ 211106232532992 then
 (impl_FormatInt k f_0.2.1).bind fun r2 =>
 if ((rd .str ([(ByteArray.mk #[112, 97, 114, 97, 108, 108, 101, 108]), (ByteArray.mk #[99, 114, 111, 115, 115, 105, 110, 103]), (ByteArray.mk #[108, 101, 97, 112])]) (IntKind.wrap .i64 (f_0.1 - 1))) ++ (ByteArray.mk #[64])).size + r2.size ≤ 211106232532992 then
 some (((rd .str ([(ByteArray.mk #[112, 97, 114, 97, 108, 108, 101, 108]), (ByteArray.mk #[99, 114, 111, 115, 115, 105, 110, 103]), (ByteArray.mk #[108, 101, 97, 112])]) (IntKind.wrap .i64 (f_0.1 - 1))) ++ (ByteArray.mk #[64])) ++ r2) else none else none else none else none
 else if (ByteArray.mk #[111, 116, 104, 101, 114]).size + (ByteArray.mk #[64]).size ≤ 211106232532992 then
 (impl_FormatInt k f_0.2.1).bind fun r3 =>
 if ((ByteArray.mk #[111, 116, 104, 101, 114]) ++ (ByteArray.mk #[64])).size + r3.size ≤ 211106232532992 then
 some (((ByteArray.mk #[111, 116, 104, 101, 114]) ++ (ByteArray.mk #[64])) ++ r3) else none else none := by kernel_rfl
theorem strings_Join_eq (k : Nat) (elems_0 : (List ByteArray)) (sep_1 : ByteArray) : strings_Join (k + 1) elems_0 sep_1 = primJoin .str [.val (.list .str) elems_0, .val .str sep_1] := by kernel_rfl
theorem impl_InRange_eq (k : Nat) (n_0 : Int) (low_1 : Int) (high_2 : Int) : impl_InRange (k + 1) n_0 low_1 high_2 =
 if (low_1 : Int) ≤ n_0 then
 some (decide ((n_0 : Int) ≤ high_2))
 else some false := by kernel_rfl
theorem impl_FormatInt_eq (k : Nat) (n_0 : Int) : impl_FormatInt (k + 1) n_0 =
 (strconv_Itoa k n_0).bind fun r1 =>
 some r1 := by kernel_rfl
theorem strconv_Itoa_eq (k : Nat) (i_0 : Int) : strconv_Itoa (k + 1) i_0 = primItoa .str [.val (.int .i64) i_0] := by kernel_rfl
end Go.QFnExactFormatFaults
