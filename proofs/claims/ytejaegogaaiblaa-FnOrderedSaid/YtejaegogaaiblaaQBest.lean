/- What impl.BestOrder calls, as equations; printed by pe.py. No condition. -/
import Derived.Test.YtejaegogaaiblaaEv
import Derived.Test.YtejaegogaaiblaaProg
import Derived.KernelRfl
set_option linter.unusedVariables false
open Go Go.Flat
namespace Go.QBest
abbrev T31 : Ty := .pair (.int .i64) (.pair (.list (.int .i64)) .unit)
abbrev DT31 := Int × ((List Int) × Unit)
abbrev T66 : Ty := .pair (.list (.int .u8)) (.pair (.int .i64) (.pair (.int .i64) .unit))
abbrev DT66 := (List Int) × (Int × (Int × Unit))
noncomputable def C : Cfg := {
  P := Go.Proofs.Try.prog,
  tt := [(1, none), (2, some (.int .i64)), (3, some (.int .i64)), (4, some .bool), (5, some (.int .u8)), (6, some (.int .u8)), (9, some .str), (10, some .str), (11, some .str), (12, some (.int .u64)), (15, none), (16, none), (17, none), (21, some (.int .i32)), (22, some (.list (.int .u8))), (23, none), (24, some (.dlist T31)), (25, some (.list (.int .i64))), (27, none), (28, none), (29, none), (30, none), (31, some T31), (32, some T31), (34, none), (36, none), (37, none), (38, none), (39, some (.dlist T31)), (40, none), (41, none), (42, none), (43, none), (44, none), (45, none), (46, none), (47, none), (48, none), (49, none), (50, none), (51, none), (52, none), (53, none), (54, none), (55, none), (56, none), (57, none), (58, none), (59, none), (60, none), (61, none), (62, some T31), (63, none), (64, none), (65, none), (66, some T66), (67, some T66), (68, none), (69, none), (70, none), (71, none), (72, some (.int .u64)), (73, none), (79, none), (80, some (.int .u32)), (81, some (.int .u8)), (82, some (.int .u8)), (83, none), (84, none), (85, some (.int .i32)), (86, some (.int .i32))],
  vars := [(8, [0, 1, 5, 18, 19, 20]), (32, [0, 1, 2, 9, 10, 11]), (37, [1, 5, 8, 9, 10]), (44, [0, 1, 7, 8]), (45, [0, 1, 7, 8])],
  sigs := [],
  ptrs := [15, 16, 17, 46, 84] }
noncomputable def impl_AreWorks (k : Nat) (l_0 : (List DT31)) : Option Bool := run C k 9 .bool [.val (.dlist T31) l_0]
noncomputable def impl_OrderCost (k : Nat) (l_0 : (List DT31)) (order_1 : (List Int)) : Option Int := run C k 8 (.int .i64) [.val (.dlist T31) l_0, .val (.list (.int .i64)) order_1]
noncomputable def impl_OrderCost.l0 (k m : Nat) (l_0 : (List DT31)) (order_1 : (List Int)) (sum_5 : Int) (t_18 : (List Int)) (t_19 : Int) (t_20 : Int) : Option Int := loopRun C k 8 (.int .i64) [0, 0] [.r, .r, .r, .l, .r, .b] [] [0, 1, 5, 18, 19, 20] m ⟨[.one (.cell (.list false T31 l_0)), .one (.cell (.list false (.int .i64) order_1)), .one (.cell (.int .i64 sum_5)), .one (.cell (.list false (.int .i64) t_18)), .one (.cell (.int .i64 t_19)), .one (.cell (.int .i64 t_20))], []⟩
noncomputable def impl_clone_int (k : Nat) (l_0 : (List Int)) : Option (List Int) := run C k 27 (.list (.int .i64)) [.val (.list (.int .i64)) l_0]
noncomputable def slices_Contains___int_int (k : Nat) (s_0 : (List Int)) (v_1 : Int) : Option Bool := run C k 28 .bool [.val (.list (.int .i64)) s_0, .val (.int .i64) v_1]
noncomputable def slices_ContainsFunc_impl_Work_31 (k : Nat) (s_0 : (List DT31)) : Option Bool := run C k 30 .bool [.val (.dlist T31) s_0, .clo 31 []]
noncomputable def impl_InRange (k : Nat) (n_0 : Int) (low_1 : Int) (high_2 : Int) : Option Bool := run C k 29 .bool [.val (.int .i64) n_0, .val (.int .i64) low_1, .val (.int .i64) high_2]
noncomputable def impl_Moves (k : Nat) (a_0 : DT31) (b_1 : DT31) : Option Int := run C k 13 (.int .i64) [.val T31 a_0, .val T31 b_1]
noncomputable def slices_Index___int_int (k : Nat) (s_0 : (List Int)) (v_1 : Int) : Option Int := run C k 44 (.int .i64) [.val (.list (.int .i64)) s_0, .val (.int .i64) v_1]
noncomputable def slices_Index___int_int.l0 (k m : Nat) (s_0 : (List Int)) (v_1 : Int) (t_7 : Int) (t_8 : Int) : Option Int := loopRun C k 44 (.int .i64) [0, 0] [.r, .l, .r, .b] [] [0, 1, 7, 8] m ⟨[.one (.cell (.list false (.int .i64) s_0)), .one (.cell (.int .i64 v_1)), .one (.cell (.int .i64 t_7)), .one (.cell (.int .i64 t_8))], []⟩
noncomputable def slices_IndexFunc_impl_Work_31 (k : Nat) (s_0 : (List DT31)) : Option Int := run C k 45 (.int .i64) [.val (.dlist T31) s_0, .clo 31 []]
noncomputable def slices_IndexFunc_impl_Work_31.l0 (k m : Nat) (s_0 : (List DT31)) (t_7 : Int) (t_8 : Int) : Option Int := loopRun C k 45 (.int .i64) [0, 0] [.r, .l, .r, .b] [] [0, 1, 7, 8] m ⟨[.one (.cell (.list false T31 s_0)), .one (.cell (.clo 31 [])), .one (.cell (.int .i64 t_7)), .one (.cell (.int .i64 t_8))], []⟩
noncomputable def impl_lacking (k : Nat) (a_0 : (List Int)) (b_1 : (List Int)) : Option Int := run C k 37 (.int .i64) [.val (.list (.int .i64)) a_0, .val (.list (.int .i64)) b_1]
noncomputable def impl_lacking.l0 (k m : Nat) (b_1 : (List Int)) (count_5 : Int) (t_8 : (List Int)) (t_9 : Int) (t_10 : Int) : Option Int := loopRun C k 37 (.int .i64) [0, 0] [.r, .r, .l, .r, .b] [] [1, 5, 8, 9, 10] m ⟨[.one (.cell (.list false (.int .i64) b_1)), .one (.cell (.int .i64 count_5)), .one (.cell (.list false (.int .i64) t_8)), .one (.cell (.int .i64 t_9)), .one (.cell (.int .i64 t_10))], []⟩
noncomputable def impl_AreWorks_1 (k : Nat) (w_0 : DT31) : Option Bool := run C k 31 .bool [.val T31 w_0]
noncomputable def impl_ascending (k : Nat) (l_0 : (List Int)) (low_1 : Int) (high_2 : Int) : Option Bool := run C k 32 .bool [.val (.list (.int .i64)) l_0, .val (.int .i64) low_1, .val (.int .i64) high_2]
noncomputable def impl_ascending.l0 (k m : Nat) (l_0 : (List Int)) (low_1 : Int) (high_2 : Int) (t_9 : (List Int)) (t_10 : Int) (t_11 : Int) : Option Bool := loopRun C k 32 .bool [0, 0, 0] [.r, .l, .r, .b] [] [0, 1, 2, 9, 10, 11] m ⟨[.one (.cell (.list false (.int .i64) l_0)), .one (.cell (.int .i64 low_1)), .one (.cell (.int .i64 high_2)), .one (.cell (.list false (.int .i64) t_9)), .one (.cell (.int .i64 t_10)), .one (.cell (.int .i64 t_11))], []⟩
theorem impl_AreWorks_eq (k : Nat) (l_0 : (List DT31)) : impl_AreWorks (k + 1) l_0 =
 if (((List.length l_0 : Nat) : Int) : Int) ≤ 6 then
 (slices_ContainsFunc_impl_Work_31 k l_0).bind fun r1 =>
 some (decide (¬ (r1 = true)))
 else some false := by kernel_rfl
theorem impl_OrderCost_eq (k : Nat) (l_0 : (List DT31)) (order_1 : (List Int)) : impl_OrderCost (k + 1) l_0 order_1 =
 (impl_AreWorks k l_0).bind fun r1 =>
 if ¬ (r1 = true) then
 some (-1)
 else if (((List.length order_1 : Nat) : Int) : Int) ≠ ((List.length l_0 : Nat) : Int) then
 some (-1)
 else impl_OrderCost.l0 k k l_0 order_1 0 order_1 ((List.length order_1 : Nat) : Int) 0 := by kernel_rfl
theorem impl_OrderCost.l0_eq (k m : Nat) (l_0 : (List DT31)) (order_1 : (List Int)) (sum_5 : Int) (t_18 : (List Int)) (t_19 : Int) (t_20 : Int) : impl_OrderCost.l0 k (m + 1) l_0 order_1 sum_5 t_18 t_19 t_20 =
 if (t_20 : Int) < t_19 then
 if 0 ≤ t_20 then
 if t_20 < ((List.length t_18 : Nat) : Int) then
 (impl_InRange k (rd (.int .i64) t_18 t_20) 0 (IntKind.wrap .i64 (((List.length l_0 : Nat) : Int) - 1))).bind fun r2 =>
 if ¬ (r2 = true) then
 some (-1)
 else if 0 ≤ t_20 then
 if t_20 ≤ ((List.length order_1 : Nat) : Int) then
 (slices_Contains___int_int k (List.take ((Int.toNat t_20) - (Int.toNat 0)) (List.drop (Int.toNat 0) order_1)) (rd (.int .i64) t_18 t_20)).bind fun r3 =>
 if r3 = true then
 some (-1)
 else if (0 : Int) < t_20 then
 if 0 ≤ (IntKind.wrap .i64 (t_20 - 1)) then
 if (IntKind.wrap .i64 (t_20 - 1)) < ((List.length order_1 : Nat) : Int) then
 if LE.le (α := Int) 0 (rd (.int .i64) order_1 (IntKind.wrap .i64 (t_20 - 1))) then
 if LT.lt (α := Int) (rd (.int .i64) order_1 (IntKind.wrap .i64 (t_20 - 1))) ((List.length l_0 : Nat) : Int) then
 if LE.le (α := Int) 0 (rd (.int .i64) t_18 t_20) then
 if LT.lt (α := Int) (rd (.int .i64) t_18 t_20) ((List.length l_0 : Nat) : Int) then
 (impl_Moves k (rd T31 l_0 (rd (.int .i64) order_1 (IntKind.wrap .i64 (t_20 - 1)))) (rd T31 l_0 (rd (.int .i64) t_18 t_20))).bind fun r4 =>
 impl_OrderCost.l0 k m l_0 order_1 (IntKind.wrap .i64 (sum_5 + r4)) t_18 t_19 (IntKind.wrap .i64 (t_20 + 1)) else none else none else none else none else none else none
 else impl_OrderCost.l0 k m l_0 order_1 sum_5 t_18 t_19 (IntKind.wrap .i64 (t_20 + 1)) else none else none else none else none
 else some sum_5 := by kernel_rfl
theorem impl_clone_int_eq (k : Nat) (l_0 : (List Int)) : impl_clone_int (k + 1) l_0 =
 if (List.length ([] : (List Int)) + List.length l_0) * 8 ≤ 211106232532992 then
 some (([] : (List Int)) ++ l_0) else none := by kernel_rfl
theorem slices_Contains___int_int_eq (k : Nat) (s_0 : (List Int)) (v_1 : Int) : slices_Contains___int_int (k + 1) s_0 v_1 =
 (slices_Index___int_int k s_0 v_1).bind fun r1 =>
 some (decide ((0 : Int) ≤ r1)) := by kernel_rfl
theorem slices_ContainsFunc_impl_Work_31_eq (k : Nat) (s_0 : (List DT31)) : slices_ContainsFunc_impl_Work_31 (k + 1) s_0 =
 (slices_IndexFunc_impl_Work_31 k s_0).bind fun r1 =>
 some (decide ((0 : Int) ≤ r1)) := by kernel_rfl
theorem impl_InRange_eq (k : Nat) (n_0 : Int) (low_1 : Int) (high_2 : Int) : impl_InRange (k + 1) n_0 low_1 high_2 =
 if (low_1 : Int) ≤ n_0 then
 some (decide ((n_0 : Int) ≤ high_2))
 else some false := by kernel_rfl
theorem impl_Moves_eq (k : Nat) (a_0 : DT31) (b_1 : DT31) : impl_Moves (k + 1) a_0 b_1 =
 (impl_lacking k a_0.2.1 b_1.2.1).bind fun r1 =>
 (impl_lacking k b_1.2.1 a_0.2.1).bind fun r2 =>
 some (IntKind.wrap .i64 (r1 + r2)) := by kernel_rfl
theorem slices_Index___int_int_eq (k : Nat) (s_0 : (List Int)) (v_1 : Int) : slices_Index___int_int (k + 1) s_0 v_1 =
 slices_Index___int_int.l0 k k s_0 v_1 ((List.length s_0 : Nat) : Int) 0 := by kernel_rfl
theorem slices_Index___int_int.l0_eq (k m : Nat) (s_0 : (List Int)) (v_1 : Int) (t_7 : Int) (t_8 : Int) : slices_Index___int_int.l0 k (m + 1) s_0 v_1 t_7 t_8 =
 if (t_8 : Int) < t_7 then
 if 0 ≤ t_8 then
 if t_8 < ((List.length s_0 : Nat) : Int) then
 if Eq (α := Int) v_1 (rd (.int .i64) s_0 t_8) then
 some t_8
 else slices_Index___int_int.l0 k m s_0 v_1 t_7 (IntKind.wrap .i64 (t_8 + 1)) else none else none
 else some (-1) := by kernel_rfl
theorem slices_IndexFunc_impl_Work_31_eq (k : Nat) (s_0 : (List DT31)) : slices_IndexFunc_impl_Work_31 (k + 1) s_0 =
 slices_IndexFunc_impl_Work_31.l0 k k s_0 ((List.length s_0 : Nat) : Int) 0 := by kernel_rfl
theorem slices_IndexFunc_impl_Work_31.l0_eq (k m : Nat) (s_0 : (List DT31)) (t_7 : Int) (t_8 : Int) : slices_IndexFunc_impl_Work_31.l0 k (m + 1) s_0 t_7 t_8 =
 if (t_8 : Int) < t_7 then
 if 0 ≤ t_8 then
 if t_8 < ((List.length s_0 : Nat) : Int) then
 (impl_AreWorks_1 k (rd T31 s_0 t_8)).bind fun r1 =>
 if r1 = true then
 some t_8
 else slices_IndexFunc_impl_Work_31.l0 k m s_0 t_7 (IntKind.wrap .i64 (t_8 + 1)) else none else none
 else some (-1) := by kernel_rfl
theorem impl_lacking_eq (k : Nat) (a_0 : (List Int)) (b_1 : (List Int)) : impl_lacking (k + 1) a_0 b_1 =
 impl_lacking.l0 k k b_1 0 a_0 ((List.length a_0 : Nat) : Int) 0 := by kernel_rfl
theorem impl_lacking.l0_eq (k m : Nat) (b_1 : (List Int)) (count_5 : Int) (t_8 : (List Int)) (t_9 : Int) (t_10 : Int) : impl_lacking.l0 k (m + 1) b_1 count_5 t_8 t_9 t_10 =
 if (t_10 : Int) < t_9 then
 if 0 ≤ t_10 then
 if t_10 < ((List.length t_8 : Nat) : Int) then
 (slices_Contains___int_int k b_1 (rd (.int .i64) t_8 t_10)).bind fun r1 =>
 if ¬ (r1 = true) then
 impl_lacking.l0 k m b_1 (IntKind.wrap .i64 (count_5 + 1)) t_8 t_9 (IntKind.wrap .i64 (t_10 + 1))
 else impl_lacking.l0 k m b_1 count_5 t_8 t_9 (IntKind.wrap .i64 (t_10 + 1)) else none else none
 else some count_5 := by kernel_rfl
theorem impl_AreWorks_1_eq (k : Nat) (w_0 : DT31) : impl_AreWorks_1 (k + 1) w_0 =
 (impl_InRange k w_0.1 1 10000000).bind fun r1 =>
 if ¬ (r1 = true) then
 some true
 else (impl_ascending k w_0.2.1 1 99).bind fun r2 =>
 some (decide (¬ (r2 = true))) := by kernel_rfl
theorem impl_ascending_eq (k : Nat) (l_0 : (List Int)) (low_1 : Int) (high_2 : Int) : impl_ascending (k + 1) l_0 low_1 high_2 =
 impl_ascending.l0 k k l_0 low_1 high_2 l_0 ((List.length l_0 : Nat) : Int) 0 := by kernel_rfl
theorem impl_ascending.l0_eq (k m : Nat) (l_0 : (List Int)) (low_1 : Int) (high_2 : Int) (t_9 : (List Int)) (t_10 : Int) (t_11 : Int) : impl_ascending.l0 k (m + 1) l_0 low_1 high_2 t_9 t_10 t_11 =
 if (t_11 : Int) < t_10 then
 if 0 ≤ t_11 then
 if t_11 < ((List.length t_9 : Nat) : Int) then
 (impl_InRange k (rd (.int .i64) t_9 t_11) low_1 high_2).bind fun r1 =>
 if ¬ (r1 = true) then
 some false
 else if (0 : Int) < t_11 then
 if 0 ≤ (IntKind.wrap .i64 (t_11 - 1)) then
 if (IntKind.wrap .i64 (t_11 - 1)) < ((List.length l_0 : Nat) : Int) then
 if LE.le (α := Int) (rd (.int .i64) t_9 t_11) (rd (.int .i64) l_0 (IntKind.wrap .i64 (t_11 - 1))) then
 some false
 else impl_ascending.l0 k m l_0 low_1 high_2 t_9 t_10 (IntKind.wrap .i64 (t_11 + 1)) else none else none
 else impl_ascending.l0 k m l_0 low_1 high_2 t_9 t_10 (IntKind.wrap .i64 (t_11 + 1)) else none else none
 else some true := by kernel_rfl
end Go.QBest
