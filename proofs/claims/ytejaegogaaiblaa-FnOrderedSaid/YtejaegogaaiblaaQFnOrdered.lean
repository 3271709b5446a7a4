/- The functions that the law FnOrdered reaches, as equations; printed by pe.py. No condition. -/
import Derived.Test.YtejaegogaaiblaaPrim
import Derived.Test.YtejaegogaaiblaaPureBest
import Derived.Test.YtejaegogaaiblaaBestF
import Derived.Test.YtejaegogaaiblaaProg
import Derived.KernelRfl
set_option linter.unusedVariables false
open Go Go.Flat
namespace Go.QFnOrdered
abbrev T31 : Ty := .pair (.int .i64) (.pair (.list (.int .i64)) .unit)
abbrev DT31 := Int × ((List Int) × Unit)
abbrev T66 : Ty := .pair (.list (.int .u8)) (.pair (.int .i64) (.pair (.int .i64) .unit))
abbrev DT66 := (List Int) × (Int × (Int × Unit))
noncomputable def C : Cfg := {
  P := Go.Proofs.Try.prog,
  tt := [(1, none), (2, some (.int .i64)), (3, some (.int .i64)), (4, some .bool), (5, some (.int .u8)), (6, some (.int .u8)), (9, some .str), (10, some .str), (11, some .str), (12, some (.int .u64)), (15, none), (16, none), (17, none), (21, some (.int .i32)), (22, some (.list (.int .u8))), (23, none), (24, some (.dlist T31)), (25, some (.list (.int .i64))), (27, none), (28, none), (29, none), (30, none), (31, some T31), (32, some T31), (34, none), (36, none), (37, none), (38, none), (39, some (.dlist T31)), (40, none), (41, none), (42, none), (43, none), (44, none), (45, none), (46, none), (47, none), (48, none), (49, none), (50, none), (51, none), (52, none), (53, none), (54, none), (55, none), (56, none), (57, none), (58, none), (59, none), (60, none), (61, none), (62, some T31), (63, none), (64, none), (65, none), (66, some T66), (67, some T66), (68, none), (69, none), (70, none), (71, none), (72, some (.int .u64)), (73, none), (79, none), (80, some (.int .u32)), (81, some (.int .u8)), (82, some (.int .u8)), (83, none), (84, none), (85, some (.int .i32)), (86, some (.int .i32))],
  vars := [(3, [0, 3, 4, 5, 6, 7, 8]), (8, [0, 1, 5, 18, 19, 20]), (10, [0, 3]), (14, [5, 22, 23, 24]), (23, [0, 3, 4]), (24, [0, 3, 4]), (32, [0, 1, 2, 9, 10, 11]), (34, [0, 3]), (37, [1, 5, 8, 9, 10]), (39, [0, 1, 2, 7]), (42, [0, 1, 5, 6]), (44, [0, 1, 7, 8]), (45, [0, 1, 7, 8]), (47, [0, 1, 5, 6]), (48, [0, 1, 5]), (51, [2, 3, 5, 6, 7])],
  sigs := [(23, { lend := some 1000, made := T66 }), (24, { lend := some 0 }), (25, { lend := some 0 }), (35, { lend := some 0 }), (36, { lend := some 0 }), (39, { io := [2] }), (42, { lend := some 0 }), (43, { lend := some 0 }), (50, { lend := some 0 })],
  prim := fun f => bif Nat.beq f 7 then some (primBest Go.QBest.awB Go.QBest.costF) else none,
  ptrs := [15, 16, 17, 46, 84],
  gives := [25] }
noncomputable def laws_FnOrdered (k : Nat) (code_0 : (List Int)) : Option Bool := run C k 3 .bool [.val (.list (.int .u8)) code_0]
noncomputable def laws_FnOrdered.l0 (k m : Nat) (code_0 : (List Int)) (n_6 : Int) (i_8 : Int) (s0 : (List DT31)) (s1 : (List Int)) (s2 : (List Int)) (s3 : (List Int)) : Option Bool := loopRun C k 3 .bool [0] [.r, .r, .r, .r, .r, .r, .r, .r, .r, .l, .r, .b] [] [0, 3, 4, 5, 6, 7, 8] m ⟨[.one (.cell (.list true (.int .u8) code_0)), .one (.cell (.dref 1)), .one (.cell (.ref 5)), .one (.cell (.ref 9)), .one (.cell (.int .i64 n_6)), .one (.cell (.ref 13)), .one (.cell (.int .i64 i_8))], [.deep T31 s0 none, .arr (.int .i64) s1 .open, .arr (.int .i64) s2 .open, .arr (.int .i64) s3 .open]⟩
noncomputable def laws_big (k : Nat) (code_0 : (List Int)) : Option Bool := run C k 5 .bool [.val (.list (.int .u8)) code_0]
noncomputable def spec_DrawOrderCost (k : Nat) (code_0 : (List Int)) : Option ((List DT31) × ((List Int) × Unit)) := run C k 6 (.pair (.dlist T31) (.pair (.list (.int .i64)) .unit)) [.val (.list (.int .u8)) code_0]
noncomputable def impl_BestOrder (k : Nat) (l_0 : (List DT31)) : Option (List Int) := run C k 7 (.list (.int .i64)) [.val (.dlist T31) l_0]
noncomputable def impl_OrderCost (k : Nat) (l_0 : (List DT31)) (order_1 : (List Int)) : Option Int := run C k 8 (.int .i64) [.val (.dlist T31) l_0, .val (.list (.int .i64)) order_1]
noncomputable def impl_OrderCost.l0 (k m : Nat) (l_0 : (List DT31)) (order_1 : (List Int)) (sum_5 : Int) (t_18 : (List Int)) (t_19 : Int) (t_20 : Int) : Option Int := loopRun C k 8 (.int .i64) [0, 0] [.r, .r, .r, .l, .r, .b] [] [0, 1, 5, 18, 19, 20] m ⟨[.one (.cell (.list false T31 l_0)), .one (.cell (.list false (.int .i64) order_1)), .one (.cell (.int .i64 sum_5)), .one (.cell (.list false (.int .i64) t_18)), .one (.cell (.int .i64 t_19)), .one (.cell (.int .i64 t_20))], []⟩
noncomputable def impl_AreWorks (k : Nat) (l_0 : (List DT31)) : Option Bool := run C k 9 .bool [.val (.dlist T31) l_0]
noncomputable def spec_AreWorks (k : Nat) (l_0 : (List DT31)) : Option Bool := run C k 10 .bool [.val (.dlist T31) l_0]
noncomputable def spec_AreWorks.l0 (k m : Nat) (l_0 : (List DT31)) (i_3 : Int) : Option Bool := loopRun C k 10 .bool [0] [.r, .l, .r, .b] [] [0, 3] m ⟨[.one (.cell (.list false T31 l_0)), .one (.cell (.int .i64 i_3))], []⟩
noncomputable def spec_DrawMoves (k : Nat) (code_0 : (List Int)) : Option (DT31 × (DT31 × Unit)) := run C k 11 (.pair T31 (.pair T31 .unit)) [.val (.list (.int .u8)) code_0]
noncomputable def spec_DrawProgramMs (k : Nat) (code_0 : (List Int)) : Option ((List DT31) × (Int × Unit)) := run C k 12 (.pair (.dlist T31) (.pair (.int .i64) .unit)) [.val (.list (.int .u8)) code_0]
noncomputable def impl_Moves (k : Nat) (a_0 : DT31) (b_1 : DT31) : Option Int := run C k 13 (.int .i64) [.val T31 a_0, .val T31 b_1]
noncomputable def impl_ProgramMs (k : Nat) (l_0 : (List DT31)) (pause_1 : Int) : Option Int := run C k 14 (.int .i64) [.val (.dlist T31) l_0, .val (.int .i64) pause_1]
noncomputable def impl_ProgramMs.l0 (k m : Nat) (sum_5 : Int) (t_22 : (List DT31)) (t_23 : Int) (t_24 : Int) : Option Int := loopRun C k 14 (.int .i64) [0, 0] [.r, .r, .r, .l, .r, .b] [] [5, 22, 23, 24] m ⟨[.one (.cell (.int .i64 sum_5)), .one (.cell (.list false T31 t_22)), .one (.cell (.int .i64 t_23)), .one (.cell (.int .i64 t_24))], []⟩
noncomputable def spec_l1New (k : Nat) (code_0 : (List Int)) : Option DT66 := run C k 23 T66 [.val (.list (.int .u8)) code_0]
noncomputable def spec_l1New.l0 (k m : Nat) (code_0 : (List Int)) (h_3 : Int) (i_4 : Int) : Option DT66 := loopRunM C k 23 T66 1 [.r, .r, .l, .r, .b] [] [0, 3, 4] m ⟨[.one (.cell (.list true (.int .u8) code_0)), .one (.cell (.int .i64 h_3)), .one (.cell (.int .i64 i_4))], []⟩
noncomputable def spec_l38Any (k : Nat) (c_0 : DT66) : Option ((List DT31) × DT66) := run C k 24 (.pair (.dlist T31) T66) [.ioBox T66 c_0]
noncomputable def spec_l38Any.l0 (k m : Nat) (i_4 : Int) (b0_0 : (List Int)) (b0_1 : Int) (b0_2 : Int) (s1 : (List DT31)) : Option ((List DT31) × DT66) := loopRunB C k 24 (.pair (.dlist T31) T66) 0 T66 1 [.r, .r, .l, .r, .b] [] [0, 3, 4] m ⟨[.one (.cell (.ptr 1 0)), .one (.cell (.dref 5)), .one (.cell (.int .i64 i_4))], [.box (some T66) [.list true (.int .u8) b0_0, .int .i64 b0_1, .int .i64 b0_2], .deep T31 s1 none]⟩
noncomputable def spec_BestOrder (k : Nat) (l_0 : (List DT31)) : Option (List Int) := run C k 16 (.list (.int .i64)) [.val (.dlist T31) l_0]
noncomputable def spec_l1Below (k : Nat) (c_0 : DT66) (n_1 : Int) : Option (Int × DT66) := run C k 25 (.pair (.int .i64) T66) [.ioBox T66 c_0, .val (.int .i64) n_1]
noncomputable def impl_InRange (k : Nat) (n_0 : Int) (low_1 : Int) (high_2 : Int) : Option Bool := run C k 29 .bool [.val (.int .i64) n_0, .val (.int .i64) low_1, .val (.int .i64) high_2]
noncomputable def slices_Contains___int_int (k : Nat) (s_0 : (List Int)) (v_1 : Int) : Option Bool := run C k 28 .bool [.val (.list (.int .i64)) s_0, .val (.int .i64) v_1]
noncomputable def slices_ContainsFunc_impl_Work_31 (k : Nat) (s_0 : (List DT31)) : Option Bool := run C k 30 .bool [.val (.dlist T31) s_0, .clo 31 []]
noncomputable def spec_l1In (k : Nat) (x_0 : Int) (least_1 : Int) (most_2 : Int) : Option Bool := run C k 33 .bool [.val (.int .i64) x_0, .val (.int .i64) least_1, .val (.int .i64) most_2]
noncomputable def spec_l30Ids (k : Nat) (l_0 : (List Int)) : Option Bool := run C k 34 .bool [.val (.list (.int .i64)) l_0]
noncomputable def spec_l30Ids.l0 (k m : Nat) (l_0 : (List Int)) (i_3 : Int) : Option Bool := loopRun C k 34 .bool [0] [.r, .l, .r, .b] [] [0, 3] m ⟨[.one (.cell (.list false (.int .i64) l_0)), .one (.cell (.int .i64 i_3))], []⟩
noncomputable def spec_l38Two (k : Nat) (c_0 : DT66) : Option ((DT31 × (DT31 × Unit)) × DT66) := run C k 35 (.pair (.pair T31 (.pair T31 .unit)) T66) [.ioBox T66 c_0]
noncomputable def spec_l1Int (k : Nat) (c_0 : DT66) (list_1 : (List Int)) : Option (Int × DT66) := run C k 36 (.pair (.int .i64) T66) [.ioBox T66 c_0, .val (.list (.int .i64)) list_1]
noncomputable def impl_lacking (k : Nat) (a_0 : (List Int)) (b_1 : (List Int)) : Option Int := run C k 37 (.int .i64) [.val (.list (.int .i64)) a_0, .val (.list (.int .i64)) b_1]
noncomputable def impl_lacking.l0 (k m : Nat) (b_1 : (List Int)) (count_5 : Int) (t_8 : (List Int)) (t_9 : Int) (t_10 : Int) : Option Int := loopRun C k 37 (.int .i64) [0, 0] [.r, .r, .l, .r, .b] [] [1, 5, 8, 9, 10] m ⟨[.one (.cell (.list false (.int .i64) b_1)), .one (.cell (.int .i64 count_5)), .one (.cell (.list false (.int .i64) t_8)), .one (.cell (.int .i64 t_9)), .one (.cell (.int .i64 t_10))], []⟩
noncomputable def spec_l30Some (k : Nat) (c_0 : DT66) (rare_1 : Int) : Option ((List Int) × DT66) := run C k 42 (.pair (.list (.int .i64)) T66) [.ioBox T66 c_0, .val (.int .i64) rare_1]
noncomputable def spec_l30Some.l0 (k m : Nat) (rare_1 : Int) (i_6 : Int) (b0_0 : (List Int)) (b0_1 : Int) (b0_2 : Int) (s1 : (List Int)) : Option ((List Int) × DT66) := loopRunB C k 42 (.pair (.list (.int .i64)) T66) 0 T66 2 [.r, .r, .l, .r, .b] [] [0, 1, 5, 6] m ⟨[.one (.cell (.ptr 1 0)), .one (.cell (.int .i64 rare_1)), .one (.cell (.ref 5)), .one (.cell (.int .i64 i_6))], [.box (some T66) [.list true (.int .u8) b0_0, .int .i64 b0_1, .int .i64 b0_2], .arr (.int .i64) s1 .open]⟩
noncomputable def spec_l38Try (k : Nat) (l_0 : (List DT31)) (order_1 : (List Int)) (best_2 : (List Int)) : Option (List Int) := run C k 39 (.list (.int .i64)) [.val (.dlist T31) l_0, .val (.list (.int .i64)) order_1, .give (.list (.int .i64)) best_2]
noncomputable def spec_l38Try.l0 (k m : Nat) (l_0 : (List DT31)) (order_1 : (List Int)) (i_7 : Int) (s0 : (List Int)) : Option (List Int) := loopRun C k 39 (.list (.int .i64)) [0, 0, 0] [.r, .r, .l, .r, .b] [] [0, 1, 2, 7] m ⟨[.one (.cell (.list false T31 l_0)), .one (.cell (.list false (.int .i64) order_1)), .one (.cell (.ref 1)), .one (.cell (.int .i64 i_7))], [.arr (.int .i64) s0 .open]⟩
noncomputable def spec_l1Byte (k : Nat) (c_0 : DT66) : Option (Int × DT66) := run C k 43 (.pair (.int .i64) T66) [.ioBox T66 c_0]
noncomputable def slices_Index___int_int (k : Nat) (s_0 : (List Int)) (v_1 : Int) : Option Int := run C k 44 (.int .i64) [.val (.list (.int .i64)) s_0, .val (.int .i64) v_1]
noncomputable def slices_Index___int_int.l0 (k m : Nat) (s_0 : (List Int)) (v_1 : Int) (t_7 : Int) (t_8 : Int) : Option Int := loopRun C k 44 (.int .i64) [0, 0] [.r, .l, .r, .b] [] [0, 1, 7, 8] m ⟨[.one (.cell (.list false (.int .i64) s_0)), .one (.cell (.int .i64 v_1)), .one (.cell (.int .i64 t_7)), .one (.cell (.int .i64 t_8))], []⟩
noncomputable def slices_IndexFunc_impl_Work_31 (k : Nat) (s_0 : (List DT31)) : Option Int := run C k 45 (.int .i64) [.val (.dlist T31) s_0, .clo 31 []]
noncomputable def slices_IndexFunc_impl_Work_31.l0 (k m : Nat) (s_0 : (List DT31)) (t_7 : Int) (t_8 : Int) : Option Int := loopRun C k 45 (.int .i64) [0, 0] [.r, .l, .r, .b] [] [0, 1, 7, 8] m ⟨[.one (.cell (.list false T31 s_0)), .one (.cell (.clo 31 [])), .one (.cell (.int .i64 t_7)), .one (.cell (.int .i64 t_8))], []⟩
noncomputable def spec_l1Once (k : Nat) (c_0 : DT66) (n_1 : Int) : Option (Bool × DT66) := run C k 50 (.pair .bool T66) [.ioBox T66 c_0, .val (.int .i64) n_1]
noncomputable def spec_OrderCost (k : Nat) (l_0 : (List DT31)) (order_1 : (List Int)) : Option Int := run C k 47 (.int .i64) [.val (.dlist T31) l_0, .val (.list (.int .i64)) order_1]
noncomputable def spec_OrderCost.l0 (k m : Nat) (l_0 : (List DT31)) (order_1 : (List Int)) (n_5 : Int) (i_6 : Int) : Option Int := loopRun C k 47 (.int .i64) [0, 0] [.r, .r, .r, .l, .r, .b] [] [0, 1, 5, 6] m ⟨[.one (.cell (.list false T31 l_0)), .one (.cell (.list false (.int .i64) order_1)), .one (.cell (.int .i64 n_5)), .one (.cell (.int .i64 i_6))], []⟩
noncomputable def spec_l27Has (k : Nat) (l_0 : (List Int)) (n_1 : Int) : Option Bool := run C k 48 .bool [.val (.list (.int .i64)) l_0, .val (.int .i64) n_1]
noncomputable def spec_l27Has.l0 (k m : Nat) (l_0 : (List Int)) (n_1 : Int) (i_5 : Int) : Option Bool := loopRun C k 48 .bool [0, 0] [.r, .l, .r, .b] [] [0, 1, 5] m ⟨[.one (.cell (.list false (.int .i64) l_0)), .one (.cell (.int .i64 n_1)), .one (.cell (.int .i64 i_5))], []⟩
noncomputable def impl_AreWorks_1 (k : Nat) (w_0 : DT31) : Option Bool := run C k 31 .bool [.val T31 w_0]
noncomputable def spec_Moves (k : Nat) (a_0 : DT31) (b_1 : DT31) : Option Int := run C k 51 (.int .i64) [.val T31 a_0, .val T31 b_1]
noncomputable def spec_Moves.l0 (k m : Nat) (n_5 : Int) (i_6 : Int) (b0_0 : Int) (b0_1 : (List Int)) (b1_0 : Int) (b1_1 : (List Int)) : Option Int := loopRun C k 51 (.int .i64) [0, 0] [.r, .r, .l, .r, .b] [] [2, 3, 5, 6] m ⟨[.one (.cell (.ptr 1 0)), .one (.cell (.ptr 5 0)), .one (.cell (.int .i64 n_5)), .one (.cell (.int .i64 i_6))], [.box (some T31) [.int .i64 b0_0, .list false (.int .i64) b0_1], .box (some T31) [.int .i64 b1_0, .list false (.int .i64) b1_1]]⟩
noncomputable def spec_Moves.l1 (k m : Nat) (n_5 : Int) (i_6 : Int) (i_7 : Int) (b0_0 : Int) (b0_1 : (List Int)) (b1_0 : Int) (b1_1 : (List Int)) : Option Int := loopRun C k 51 (.int .i64) [0, 0] [.r, .r, .r, .l, .r, .b] [] [2, 3, 5, 6, 7] m ⟨[.one (.cell (.ptr 1 0)), .one (.cell (.ptr 5 0)), .one (.cell (.int .i64 n_5)), .one (.cell (.int .i64 i_6)), .one (.cell (.int .i64 i_7))], [.box (some T31) [.int .i64 b0_0, .list false (.int .i64) b0_1], .box (some T31) [.int .i64 b1_0, .list false (.int .i64) b1_1]]⟩
noncomputable def impl_ascending (k : Nat) (l_0 : (List Int)) (low_1 : Int) (high_2 : Int) : Option Bool := run C k 32 .bool [.val (.list (.int .i64)) l_0, .val (.int .i64) low_1, .val (.int .i64) high_2]
noncomputable def impl_ascending.l0 (k m : Nat) (l_0 : (List Int)) (low_1 : Int) (high_2 : Int) (t_9 : (List Int)) (t_10 : Int) (t_11 : Int) : Option Bool := loopRun C k 32 .bool [0, 0, 0] [.r, .l, .r, .b] [] [0, 1, 2, 9, 10, 11] m ⟨[.one (.cell (.list false (.int .i64) l_0)), .one (.cell (.int .i64 low_1)), .one (.cell (.int .i64 high_2)), .one (.cell (.list false (.int .i64) t_9)), .one (.cell (.int .i64 t_10)), .one (.cell (.int .i64 t_11))], []⟩
theorem laws_FnOrdered_eq (k : Nat) (code_0 : (List Int)) : laws_FnOrdered (k + 1) code_0 =
 (laws_big k code_0).bind fun r1 =>
 if r1 = true then
 some true
 else (spec_DrawOrderCost k code_0).bind fun r2 =>
 (impl_BestOrder k r2.1).bind fun r3 =>
 (impl_OrderCost k r2.1 r3).bind fun r4 =>
 (impl_AreWorks k r2.1).bind fun r5 =>
 (spec_AreWorks k r2.1).bind fun r6 =>
 if ¬ ((decide (r5 = true)) = (decide (r6 = true))) then
 some false
 else (impl_AreWorks k r2.1).bind fun r7 =>
 if ¬ (r7 = true) then
 some (decide ((((List.length r3 : Nat) : Int) : Int) = 0))
 else if (((List.length r3 : Nat) : Int) : Int) ≠ ((List.length r2.1 : Nat) : Int) then
 some false
 else if (r4 : Int) < 0 then
 some false
 else laws_FnOrdered.l0 k k code_0 r4 0 r2.1 r2.2.1 r3 [] := by kernel_rfl
theorem laws_FnOrdered.l0_eq (k m : Nat) (code_0 : (List Int)) (n_6 : Int) (i_8 : Int) (s0 : (List DT31)) (s1 : (List Int)) (s2 : (List Int)) (s3 : (List Int)) : laws_FnOrdered.l0 k (m + 1) code_0 n_6 i_8 s0 s1 s2 s3 =
 if (i_8 : Int) < ((List.length s2 : Nat) : Int) then
 if 0 ≤ i_8 then
 if i_8 < ((List.length s2 : Nat) : Int) then
 if (List.length ([(rd (.int .i64) s2 i_8)] : (List Int)) + List.length s3) * 8 ≤ 211106232532992 then
 laws_FnOrdered.l0 k m code_0 n_6 (IntKind.wrap .i64 (i_8 + 1)) s0 s1 s2 (([(rd (.int .i64) s2 i_8)] : (List Int)) ++ s3) else none else none else none
 else (impl_OrderCost k s0 s1).bind fun r8 =>
 (impl_OrderCost k s0 s3).bind fun r9 =>
 if (r9 : Int) ≠ n_6 then
 some false
 else if (0 : Int) ≤ r8 then
 if (r8 : Int) < n_6 then
 some false
 else (spec_DrawMoves k code_0).bind fun r10 =>
 (spec_DrawProgramMs k code_0).bind fun r11 =>
 (impl_Moves k r10.1 r10.2.1).bind fun r12 =>
 (impl_Moves k r10.2.1 r10.1).bind fun r13 =>
 if (r12 : Int) = r13 then
 (impl_Moves k r10.1 r10.1).bind fun r14 =>
 if (r14 : Int) = 0 then
 (impl_ProgramMs k r11.1 r11.2.1).bind fun r15 =>
 some (decide ((0 : Int) ≤ r15))
 else some false
 else some false
 else (spec_DrawMoves k code_0).bind fun r16 =>
 (spec_DrawProgramMs k code_0).bind fun r17 =>
 (impl_Moves k r16.1 r16.2.1).bind fun r18 =>
 (impl_Moves k r16.2.1 r16.1).bind fun r19 =>
 if (r18 : Int) = r19 then
 (impl_Moves k r16.1 r16.1).bind fun r20 =>
 if (r20 : Int) = 0 then
 (impl_ProgramMs k r17.1 r17.2.1).bind fun r21 =>
 some (decide ((0 : Int) ≤ r21))
 else some false
 else some false := by kernel_rfl
theorem laws_big_eq (k : Nat) (code_0 : (List Int)) : laws_big (k + 1) code_0 =
 some (decide ((1048576 : Int) < ((List.length code_0 : Nat) : Int))) := by kernel_rfl
theorem spec_DrawOrderCost_eq (k : Nat) (code_0 : (List Int)) : spec_DrawOrderCost (k + 1) code_0 =
 (spec_l1New k code_0).bind fun r1 =>
 (spec_l38Any k r1).bind fun r2 =>
 (spec_BestOrder k r2.1).bind fun r3 =>
 if (1 : Int) < ((List.length r3 : Nat) : Int) then
 (spec_l1Below k r2.2 4).bind fun r4 =>
 if (r4.1 : Int) = 0 then
 if 0 ≤ 1 then
 if 1 < ((List.length r3 : Nat) : Int) then
 if 0 ≤ 0 then
 if 0 < ((List.length r3 : Nat) : Int) then
 some (r2.1, ((List.set r3 (Int.toNat 0) (rd (.int .i64) r3 1)), ())) else none else none else none else none
 else if (r4.1 : Int) = 1 then
 if 0 ≤ (IntKind.wrap .i64 (((List.length r3 : Nat) : Int) - 1)) then
 if (IntKind.wrap .i64 (((List.length r3 : Nat) : Int) - 1)) < ((List.length r3 : Nat) : Int) then
 if 0 ≤ (IntKind.wrap .i64 (((List.length r3 : Nat) : Int) - 1)) then
 if (IntKind.wrap .i64 (((List.length r3 : Nat) : Int) - 1)) ≤ ((List.length r3 : Nat) : Int) then
 if (List.length ([(rd (.int .i64) r3 (IntKind.wrap .i64 (((List.length r3 : Nat) : Int) - 1)))] : (List Int)) + List.length (List.take ((Int.toNat (IntKind.wrap .i64 (((List.length r3 : Nat) : Int) - 1))) - (Int.toNat 0)) (List.drop (Int.toNat 0) r3))) * 8 ≤ 211106232532992 then
 some (r2.1, ((([(rd (.int .i64) r3 (IntKind.wrap .i64 (((List.length r3 : Nat) : Int) - 1)))] : (List Int)) ++ (List.take ((Int.toNat (IntKind.wrap .i64 (((List.length r3 : Nat) : Int) - 1))) - (Int.toNat 0)) (List.drop (Int.toNat 0) r3))), ())) else none else none else none else none else none
 else some (r2.1, (r3, ()))
 else some (r2.1, (r3, ())) := by kernel_rfl
theorem impl_BestOrder_eq (k : Nat) (l_0 : (List DT31)) : impl_BestOrder (k + 1) l_0 = (primBest Go.QBest.awB Go.QBest.costF) (.list (.int .i64)) [.val (.dlist T31) l_0] := by kernel_rfl
theorem impl_OrderCost_eq (k : Nat) (l_0 : (List DT31)) (order_1 : (List Int)) : impl_OrderCost (k + 1) l_0 order_1 =
 (impl_AreWorks k l_0).bind fun r1 =>
 if ¬ (r1 = true) then
 some (-1)
 else if (((List.length order_1 : Nat) : Int) : Int) ≠ ((List.length l_0 : Nat) : Int) then
 some (-1)
 else impl_OrderCost.l0 k k l_0 order_1 0 order_1 ((List.length order_1 : Nat) : Int) 0 := by kernel_rfl
theorem impl_OrderCost.l0_eq (k m : Nat) (l_0 : (List DT31)) (order_1 : (List Int)) (sum_5 : Int) (t_18 : (List Int)) (t_19 : Int) (t_20 : Int) : impl_OrderCost.l0 k (m + 1) l_0 order_1 sum_5 t_18 t_19 t_20 =
 if (t_20 : Int) < t_19 then
 if 0 ≤ t_20 then
 if t_20 < ((List.length t_18 : Nat) : Int) then
 (impl_InRange k (rd (.int .i64) t_18 t_20) 0 (IntKind.wrap .i64 (((List.length l_0 : Nat) : Int) - 1))).bind fun r2 =>
 if ¬ (r2 = true) then
 some (-1)
 else if 0 ≤ t_20 then
 if t_20 ≤ ((List.length order_1 : Nat) : Int) then
 (slices_Contains___int_int k (List.take ((Int.toNat t_20) - (Int.toNat 0)) (List.drop (Int.toNat 0) order_1)) (rd (.int .i64) t_18 t_20)).bind fun r3 =>
 if r3 = true then
 some (-1)
 else if (0 : Int) < t_20 then
 if 0 ≤ (IntKind.wrap .i64 (t_20 - 1)) then
 if (IntKind.wrap .i64 (t_20 - 1)) < ((List.length order_1 : Nat) : Int) then
 if LE.le (α := Int) 0 (rd (.int .i64) order_1 (IntKind.wrap .i64 (t_20 - 1))) then
 if LT.lt (α := Int) (rd (.int .i64) order_1 (IntKind.wrap .i64 (t_20 - 1))) ((List.length l_0 : Nat) : Int) then
 if LE.le (α := Int) 0 (rd (.int .i64) t_18 t_20) then
 if LT.lt (α := Int) (rd (.int .i64) t_18 t_20) ((List.length l_0 : Nat) : Int) then
 (impl_Moves k (rd T31 l_0 (rd (.int .i64) order_1 (IntKind.wrap .i64 (t_20 - 1)))) (rd T31 l_0 (rd (.int .i64) t_18 t_20))).bind fun r4 =>
 impl_OrderCost.l0 k m l_0 order_1 (IntKind.wrap .i64 (sum_5 + r4)) t_18 t_19 (IntKind.wrap .i64 (t_20 + 1)) else none else none else none else none else none else none
 else impl_OrderCost.l0 k m l_0 order_1 sum_5 t_18 t_19 (IntKind.wrap .i64 (t_20 + 1)) else none else none else none else none
 else some sum_5 := by kernel_rfl
theorem impl_AreWorks_eq (k : Nat) (l_0 : (List DT31)) : impl_AreWorks (k + 1) l_0 =
 if (((List.length l_0 : Nat) : Int) : Int) ≤ 6 then
 (slices_ContainsFunc_impl_Work_31 k l_0).bind fun r1 =>
 some (decide (¬ (r1 = true)))
 else some false := by kernel_rfl
theorem spec_AreWorks_eq (k : Nat) (l_0 : (List DT31)) : spec_AreWorks (k + 1) l_0 =
 spec_AreWorks.l0 k k l_0 0 := by kernel_rfl
theorem spec_AreWorks.l0_eq (k m : Nat) (l_0 : (List DT31)) (i_3 : Int) : spec_AreWorks.l0 k (m + 1) l_0 i_3 =
 if (i_3 : Int) < ((List.length l_0 : Nat) : Int) then
 if 0 ≤ i_3 then
 if i_3 < ((List.length l_0 : Nat) : Int) then
 (spec_l1In k (rd T31 l_0 i_3).1 1 10000000).bind fun r1 =>
 if ¬ (r1 = true) then
 some false
 else if 0 ≤ i_3 then
 if i_3 < ((List.length l_0 : Nat) : Int) then
 (spec_l30Ids k (rd T31 l_0 i_3).2.1).bind fun r2 =>
 if ¬ (r2 = true) then
 some false
 else spec_AreWorks.l0 k m l_0 (IntKind.wrap .i64 (i_3 + 1)) else none else none else none else none
 else some (decide ((((List.length l_0 : Nat) : Int) : Int) ≤ 6)) := by kernel_rfl
theorem spec_DrawMoves_eq (k : Nat) (code_0 : (List Int)) : spec_DrawMoves (k + 1) code_0 =
 (spec_l1New k code_0).bind fun r1 =>
 (spec_l38Two k r1).bind fun r2 =>
 some r2.1 := by kernel_rfl
theorem spec_DrawProgramMs_eq (k : Nat) (code_0 : (List Int)) : spec_DrawProgramMs (k + 1) code_0 =
 (spec_l1New k code_0).bind fun r1 =>
 (spec_l38Any k r1).bind fun r2 =>
 (spec_l1Int k r2.2 ([0, 100, 10000000, 10000001, (-1)])).bind fun r3 =>
 some (r2.1, (r3.1, ())) := by kernel_rfl
theorem impl_Moves_eq (k : Nat) (a_0 : DT31) (b_1 : DT31) : impl_Moves (k + 1) a_0 b_1 =
 (impl_lacking k a_0.2.1 b_1.2.1).bind fun r1 =>
 (impl_lacking k b_1.2.1 a_0.2.1).bind fun r2 =>
 some (IntKind.wrap .i64 (r1 + r2)) := by kernel_rfl
theorem impl_ProgramMs_eq (k : Nat) (l_0 : (List DT31)) (pause_1 : Int) : impl_ProgramMs (k + 1) l_0 pause_1 =
 (impl_AreWorks k l_0).bind fun r1 =>
 if ¬ (r1 = true) then
 some 0
 else (impl_InRange k pause_1 0 10000000).bind fun r2 =>
 if ¬ (r2 = true) then
 some 0
 else impl_ProgramMs.l0 k k (IntKind.wrap .i64 (pause_1 * (max (IntKind.wrap .i64 (((List.length l_0 : Nat) : Int) - 1)) 0 : Int))) l_0 ((List.length l_0 : Nat) : Int) 0 := by kernel_rfl
theorem impl_ProgramMs.l0_eq (k m : Nat) (sum_5 : Int) (t_22 : (List DT31)) (t_23 : Int) (t_24 : Int) : impl_ProgramMs.l0 k (m + 1) sum_5 t_22 t_23 t_24 =
 if (t_24 : Int) < t_23 then
 if 0 ≤ t_24 then
 if t_24 < ((List.length t_22 : Nat) : Int) then
 impl_ProgramMs.l0 k m (IntKind.wrap .i64 (sum_5 + (rd T31 t_22 t_24).1)) t_22 t_23 (IntKind.wrap .i64 (t_24 + 1)) else none else none
 else some sum_5 := by kernel_rfl
theorem spec_l1New_eq (k : Nat) (code_0 : (List Int)) : spec_l1New (k + 1) code_0 =
 spec_l1New.l0 k k code_0 (IntKind.wrap .i64 (193017 + ((List.length code_0 : Nat) : Int))) 0 := by kernel_rfl
theorem spec_l1New.l0_eq (k m : Nat) (code_0 : (List Int)) (h_3 : Int) (i_4 : Int) : spec_l1New.l0 k (m + 1) code_0 h_3 i_4 =
 if (i_4 : Int) < ((List.length code_0 : Nat) : Int) then
 if (i_4 : Int) < 4000 then
 if 0 ≤ i_4 then
 if i_4 < ((List.length code_0 : Nat) : Int) then
 spec_l1New.l0 k m code_0 (IntKind.wrap .i64 (((BitVec.ofInt (IntKind.bits .i64) (IntKind.wrap .i64 ((IntKind.wrap .i64 ((IntKind.wrap .i64 (h_3 * 137)) + (IntKind.wrap .i64 ((rd (.int .u8) code_0 i_4))))) + 11)) &&& BitVec.ofInt (IntKind.bits .i64) 1073741823).toNat : Nat))) (IntKind.wrap .i64 (i_4 + 1)) else none else none
 else some (code_0, (0, (h_3, ())))
 else some (code_0, (0, (h_3, ()))) := by kernel_rfl
theorem spec_l38Any_eq (k : Nat) (c_0 : DT66) : spec_l38Any (k + 1) c_0 =
 (spec_l1Below k c_0 6).bind fun r1 =>
 spec_l38Any.l0 k k r1.1 r1.2.1 r1.2.2.1 r1.2.2.2.1 [] := by kernel_rfl
theorem spec_l38Any.l0_eq (k m : Nat) (i_4 : Int) (b0_0 : (List Int)) (b0_1 : Int) (b0_2 : Int) (s1 : (List DT31)) : spec_l38Any.l0 k (m + 1) i_4 b0_0 b0_1 b0_2 s1 =
 if (0 : Int) < i_4 then
 (spec_l1Below k (b0_0, (b0_1, (b0_2, ()))) 5000).bind fun r2 =>
 (spec_l30Some k r2.2 2).bind fun r3 =>
 if (List.length s1 + List.length ([(IntKind.wrap .i64 (1 + r2.1), (r3.1, ()))] : (List DT31))) * 32 ≤ 211106232532992 then
 spec_l38Any.l0 k m (IntKind.wrap .i64 (i_4 - 1)) r3.2.1 r3.2.2.1 r3.2.2.2.1 (s1 ++ ([(IntKind.wrap .i64 (1 + r2.1), (r3.1, ()))] : (List DT31))) else none
 else if (0 : Int) < ((List.length s1 : Nat) : Int) then
 (spec_l1Below k (b0_0, (b0_1, (b0_2, ()))) 9).bind fun r4 =>
 if (r4.1 : Int) = 0 then
 (spec_l1Int k r4.2 ([0, 10000000, 10000001])).bind fun r5 =>
 if 0 ≤ 0 then
 if 0 < ((List.length s1 : Nat) : Int) then
 some ((setAt T31 s1 0 (fun yy => (r5.1, yy.2))), r5.2) else none else none
 else if (r4.1 : Int) = 1 then
 (spec_l1Int k r4.2 ([5, 6, 100])).bind fun r6 =>
 if 0 ≤ 0 then
 if 0 < ((List.length s1 : Nat) : Int) then
 some ((List.set s1 (Int.toNat 0) ((rd T31 s1 0).1, ([5, r6.1], (rd T31 s1 0).2.2))), r6.2) else none else none
 else some (s1, r4.2)
 else some (s1, (b0_0, (b0_1, (b0_2, ())))) := by kernel_rfl
theorem spec_BestOrder_eq (k : Nat) (l_0 : (List DT31)) : spec_BestOrder (k + 1) l_0 =
 (spec_AreWorks k l_0).bind fun r1 =>
 if ¬ (r1 = true) then
 some []
 else if (((List.length l_0 : Nat) : Int) : Int) = 0 then
 some []
 else (spec_l38Try k l_0 [] []).bind fun r2 =>
 some r2 := by kernel_rfl
theorem spec_l1Below_eq (k : Nat) (c_0 : DT66) (n_1 : Int) : spec_l1Below (k + 1) c_0 n_1 =
 if (n_1 : Int) ≤ 0 then
 some (0, c_0)
 else if (n_1 : Int) ≤ 256 then
 (spec_l1Byte k c_0).bind fun r1 =>
 if n_1 = (0 : Int) then
 none
 else some ((Int.tmod r1.1 n_1), r1.2)
 else (spec_l1Byte k c_0).bind fun r2 =>
 (spec_l1Byte k r2.2).bind fun r3 =>
 (spec_l1Byte k r3.2).bind fun r4 =>
 if n_1 = (0 : Int) then
 none
 else some ((Int.tmod (IntKind.wrap .i64 ((IntKind.wrap .i64 ((IntKind.wrap .i64 (r2.1 * 65536)) + (IntKind.wrap .i64 (r3.1 * 256)))) + r4.1)) n_1), r4.2) := by kernel_rfl
theorem impl_InRange_eq (k : Nat) (n_0 : Int) (low_1 : Int) (high_2 : Int) : impl_InRange (k + 1) n_0 low_1 high_2 =
 if (low_1 : Int) ≤ n_0 then
 some (decide ((n_0 : Int) ≤ high_2))
 else some false := by kernel_rfl
theorem slices_Contains___int_int_eq (k : Nat) (s_0 : (List Int)) (v_1 : Int) : slices_Contains___int_int (k + 1) s_0 v_1 =
 (slices_Index___int_int k s_0 v_1).bind fun r1 =>
 some (decide ((0 : Int) ≤ r1)) := by kernel_rfl
theorem slices_ContainsFunc_impl_Work_31_eq (k : Nat) (s_0 : (List DT31)) : slices_ContainsFunc_impl_Work_31 (k + 1) s_0 =
 (slices_IndexFunc_impl_Work_31 k s_0).bind fun r1 =>
 some (decide ((0 : Int) ≤ r1)) := by kernel_rfl
theorem spec_l1In_eq (k : Nat) (x_0 : Int) (least_1 : Int) (most_2 : Int) : spec_l1In (k + 1) x_0 least_1 most_2 =
 if (least_1 : Int) ≤ x_0 then
 some (decide ((x_0 : Int) ≤ most_2))
 else some false := by kernel_rfl
theorem spec_l30Ids_eq (k : Nat) (l_0 : (List Int)) : spec_l30Ids (k + 1) l_0 =
 spec_l30Ids.l0 k k l_0 0 := by kernel_rfl
theorem spec_l30Ids.l0_eq (k m : Nat) (l_0 : (List Int)) (i_3 : Int) : spec_l30Ids.l0 k (m + 1) l_0 i_3 =
 if (i_3 : Int) < ((List.length l_0 : Nat) : Int) then
 if 0 ≤ i_3 then
 if i_3 < ((List.length l_0 : Nat) : Int) then
 (spec_l1In k (rd (.int .i64) l_0 i_3) 1 99).bind fun r1 =>
 if ¬ (r1 = true) then
 some false
 else if (0 : Int) < i_3 then
 if 0 ≤ (IntKind.wrap .i64 (i_3 - 1)) then
 if (IntKind.wrap .i64 (i_3 - 1)) < ((List.length l_0 : Nat) : Int) then
 if 0 ≤ i_3 then
 if i_3 < ((List.length l_0 : Nat) : Int) then
 if LE.le (α := Int) (rd (.int .i64) l_0 i_3) (rd (.int .i64) l_0 (IntKind.wrap .i64 (i_3 - 1))) then
 some false
 else spec_l30Ids.l0 k m l_0 (IntKind.wrap .i64 (i_3 + 1)) else none else none else none else none
 else spec_l30Ids.l0 k m l_0 (IntKind.wrap .i64 (i_3 + 1)) else none else none
 else some true := by kernel_rfl
theorem spec_l38Two_eq (k : Nat) (c_0 : DT66) : spec_l38Two (k + 1) c_0 =
 (spec_l30Some k c_0 2).bind fun r1 =>
 (spec_l30Some k r1.2 2).bind fun r2 =>
 some (((5, (r1.1, ())), ((6, (r2.1, ())), ())), r2.2) := by kernel_rfl
theorem spec_l1Int_eq (k : Nat) (c_0 : DT66) (list_1 : (List Int)) : spec_l1Int (k + 1) c_0 list_1 =
 (spec_l1Below k c_0 ((List.length list_1 : Nat) : Int)).bind fun r1 =>
 if 0 ≤ r1.1 then
 if r1.1 < ((List.length list_1 : Nat) : Int) then
 some ((rd (.int .i64) list_1 r1.1), r1.2) else none else none := by kernel_rfl
theorem impl_lacking_eq (k : Nat) (a_0 : (List Int)) (b_1 : (List Int)) : impl_lacking (k + 1) a_0 b_1 =
 impl_lacking.l0 k k b_1 0 a_0 ((List.length a_0 : Nat) : Int) 0 := by kernel_rfl
theorem impl_lacking.l0_eq (k m : Nat) (b_1 : (List Int)) (count_5 : Int) (t_8 : (List Int)) (t_9 : Int) (t_10 : Int) : impl_lacking.l0 k (m + 1) b_1 count_5 t_8 t_9 t_10 =
 if (t_10 : Int) < t_9 then
 if 0 ≤ t_10 then
 if t_10 < ((List.length t_8 : Nat) : Int) then
 (slices_Contains___int_int k b_1 (rd (.int .i64) t_8 t_10)).bind fun r1 =>
 if ¬ (r1 = true) then
 impl_lacking.l0 k m b_1 (IntKind.wrap .i64 (count_5 + 1)) t_8 t_9 (IntKind.wrap .i64 (t_10 + 1))
 else impl_lacking.l0 k m b_1 count_5 t_8 t_9 (IntKind.wrap .i64 (t_10 + 1)) else none else none
 else some count_5 := by kernel_rfl
theorem spec_l30Some_eq (k : Nat) (c_0 : DT66) (rare_1 : Int) : spec_l30Some (k + 1) c_0 rare_1 =
 spec_l30Some.l0 k k rare_1 1 c_0.1 c_0.2.1 c_0.2.2.1 [] := by kernel_rfl
theorem spec_l30Some.l0_eq (k m : Nat) (rare_1 : Int) (i_6 : Int) (b0_0 : (List Int)) (b0_1 : Int) (b0_2 : Int) (s1 : (List Int)) : spec_l30Some.l0 k (m + 1) rare_1 i_6 b0_0 b0_1 b0_2 s1 =
 if (i_6 : Int) ≤ 5 then
 (spec_l1Once k (b0_0, (b0_1, (b0_2, ()))) rare_1).bind fun r1 =>
 if ¬ (r1.1 = true) then
 if (List.length s1 + List.length ([i_6] : (List Int))) * 8 ≤ 211106232532992 then
 spec_l30Some.l0 k m rare_1 (IntKind.wrap .i64 (i_6 + 1)) r1.2.1 r1.2.2.1 r1.2.2.2.1 (s1 ++ ([i_6] : (List Int))) else none
 else spec_l30Some.l0 k m rare_1 (IntKind.wrap .i64 (i_6 + 1)) r1.2.1 r1.2.2.1 r1.2.2.2.1 s1
 else some (s1, (b0_0, (b0_1, (b0_2, ())))) := by kernel_rfl
theorem spec_l38Try_eq (k : Nat) (l_0 : (List DT31)) (order_1 : (List Int)) (best_2 : (List Int)) : spec_l38Try (k + 1) l_0 order_1 best_2 =
 if (((List.length order_1 : Nat) : Int) : Int) = ((List.length l_0 : Nat) : Int) then
 if (((List.length best_2 : Nat) : Int) : Int) < ((List.length l_0 : Nat) : Int) then
 if (List.length ([] : (List Int)) + List.length order_1) * 8 ≤ 211106232532992 then
 some (([] : (List Int)) ++ order_1) else none
 else (spec_OrderCost k l_0 order_1).bind fun r1 =>
 (spec_OrderCost k l_0 best_2).bind fun r2 =>
 if (r1 : Int) < r2 then
 if (List.length ([] : (List Int)) + List.length order_1) * 8 ≤ 211106232532992 then
 some (([] : (List Int)) ++ order_1) else none
 else some best_2
 else spec_l38Try.l0 k k l_0 order_1 0 best_2 := by kernel_rfl
theorem spec_l38Try.l0_eq (k m : Nat) (l_0 : (List DT31)) (order_1 : (List Int)) (i_7 : Int) (s0 : (List Int)) : spec_l38Try.l0 k (m + 1) l_0 order_1 i_7 s0 =
 if (i_7 : Int) < ((List.length l_0 : Nat) : Int) then
 (spec_l27Has k order_1 i_7).bind fun r3 =>
 if ¬ (r3 = true) then
 if (List.length ([] : (List Int)) + List.length order_1) * 8 ≤ 211106232532992 then
 if (List.length (([] : (List Int)) ++ order_1) + List.length ([i_7] : (List Int))) * 8 ≤ 211106232532992 then
 (spec_l38Try k l_0 ((([] : (List Int)) ++ order_1) ++ ([i_7] : (List Int))) s0).bind fun r4 =>
 spec_l38Try.l0 k m l_0 order_1 (IntKind.wrap .i64 (i_7 + 1)) r4 else none else none
 else spec_l38Try.l0 k m l_0 order_1 (IntKind.wrap .i64 (i_7 + 1)) s0
 else some s0 := by kernel_rfl
theorem spec_l1Byte_eq (k : Nat) (c_0 : DT66) : spec_l1Byte (k + 1) c_0 =
 if (33 : Int) < 0 then
 none
 else if (47 : Int) < 0 then
 none
 else if (c_0.2.1 : Int) < ((List.length c_0.1 : Nat) : Int) then
 if 0 ≤ c_0.2.1 then
 if c_0.2.1 < ((List.length c_0.1 : Nat) : Int) then
 some (IntKind.wrap .i64 (((BitVec.ofInt (IntKind.bits .i64) (IntKind.wrap .i64 ((IntKind.wrap .i64 (((BitVec.ofInt (IntKind.bits .i64) (IntKind.wrap .i64 (((BitVec.ofInt (IntKind.bits .i64) (Int.fdiv (IntKind.wrap .i64 ((IntKind.wrap .i64 (c_0.2.2.1 * 6364136223846793005)) + 1442695040888963407)) (2 ^ (min (Int.toNat 33) (IntKind.bits .i64)))) ^^^ BitVec.ofInt (IntKind.bits .i64) (Int.fdiv (IntKind.wrap .i64 ((IntKind.wrap .i64 (c_0.2.2.1 * 6364136223846793005)) + 1442695040888963407)) (2 ^ (min (Int.toNat 47) (IntKind.bits .i64))))).toNat : Nat))) &&& BitVec.ofInt (IntKind.bits .i64) 255).toNat : Nat))) + (IntKind.wrap .i64 ((rd (.int .u8) c_0.1 c_0.2.1))))) &&& BitVec.ofInt (IntKind.bits .i64) 255).toNat : Nat)), (c_0.1, (IntKind.wrap .i64 (c_0.2.1 + 1), (IntKind.wrap .i64 ((IntKind.wrap .i64 (c_0.2.2.1 * 6364136223846793005)) + 1442695040888963407), ())))) else none else none
 else some (IntKind.wrap .i64 (((BitVec.ofInt (IntKind.bits .i64) (IntKind.wrap .i64 (((BitVec.ofInt (IntKind.bits .i64) (Int.fdiv (IntKind.wrap .i64 ((IntKind.wrap .i64 (c_0.2.2.1 * 6364136223846793005)) + 1442695040888963407)) (2 ^ (min (Int.toNat 33) (IntKind.bits .i64)))) ^^^ BitVec.ofInt (IntKind.bits .i64) (Int.fdiv (IntKind.wrap .i64 ((IntKind.wrap .i64 (c_0.2.2.1 * 6364136223846793005)) + 1442695040888963407)) (2 ^ (min (Int.toNat 47) (IntKind.bits .i64))))).toNat : Nat))) &&& BitVec.ofInt (IntKind.bits .i64) 255).toNat : Nat)), (c_0.1, (c_0.2.1, (IntKind.wrap .i64 ((IntKind.wrap .i64 (c_0.2.2.1 * 6364136223846793005)) + 1442695040888963407), ())))) := by kernel_rfl
theorem slices_Index___int_int_eq (k : Nat) (s_0 : (List Int)) (v_1 : Int) : slices_Index___int_int (k + 1) s_0 v_1 =
 slices_Index___int_int.l0 k k s_0 v_1 ((List.length s_0 : Nat) : Int) 0 := by kernel_rfl
theorem slices_Index___int_int.l0_eq (k m : Nat) (s_0 : (List Int)) (v_1 : Int) (t_7 : Int) (t_8 : Int) : slices_Index___int_int.l0 k (m + 1) s_0 v_1 t_7 t_8 =
 if (t_8 : Int) < t_7 then
 if 0 ≤ t_8 then
 if t_8 < ((List.length s_0 : Nat) : Int) then
 if Eq (α := Int) v_1 (rd (.int .i64) s_0 t_8) then
 some t_8
 else slices_Index___int_int.l0 k m s_0 v_1 t_7 (IntKind.wrap .i64 (t_8 + 1)) else none else none
 else some (-1) := by kernel_rfl
theorem slices_IndexFunc_impl_Work_31_eq (k : Nat) (s_0 : (List DT31)) : slices_IndexFunc_impl_Work_31 (k + 1) s_0 =
 slices_IndexFunc_impl_Work_31.l0 k k s_0 ((List.length s_0 : Nat) : Int) 0 := by kernel_rfl
theorem slices_IndexFunc_impl_Work_31.l0_eq (k m : Nat) (s_0 : (List DT31)) (t_7 : Int) (t_8 : Int) : slices_IndexFunc_impl_Work_31.l0 k (m + 1) s_0 t_7 t_8 =
 if (t_8 : Int) < t_7 then
 if 0 ≤ t_8 then
 if t_8 < ((List.length s_0 : Nat) : Int) then
 (impl_AreWorks_1 k (rd T31 s_0 t_8)).bind fun r1 =>
 if r1 = true then
 some t_8
 else slices_IndexFunc_impl_Work_31.l0 k m s_0 t_7 (IntKind.wrap .i64 (t_8 + 1)) else none else none
 else some (-1) := by kernel_rfl
theorem spec_l1Once_eq (k : Nat) (c_0 : DT66) (n_1 : Int) : spec_l1Once (k + 1) c_0 n_1 =
 (spec_l1Below k c_0 n_1).bind fun r1 =>
 some (decide ((r1.1 : Int) = 0), r1.2) := by kernel_rfl
theorem spec_OrderCost_eq (k : Nat) (l_0 : (List DT31)) (order_1 : (List Int)) : spec_OrderCost (k + 1) l_0 order_1 =
 (spec_AreWorks k l_0).bind fun r1 =>
 if ¬ (r1 = true) then
 some (-1)
 else if (((List.length order_1 : Nat) : Int) : Int) ≠ ((List.length l_0 : Nat) : Int) then
 some (-1)
 else spec_OrderCost.l0 k k l_0 order_1 0 0 := by kernel_rfl
theorem spec_OrderCost.l0_eq (k m : Nat) (l_0 : (List DT31)) (order_1 : (List Int)) (n_5 : Int) (i_6 : Int) : spec_OrderCost.l0 k (m + 1) l_0 order_1 n_5 i_6 =
 if (i_6 : Int) < ((List.length order_1 : Nat) : Int) then
 if 0 ≤ i_6 then
 if i_6 < ((List.length order_1 : Nat) : Int) then
 (spec_l1In k (rd (.int .i64) order_1 i_6) 0 (IntKind.wrap .i64 (((List.length l_0 : Nat) : Int) - 1))).bind fun r2 =>
 if ¬ (r2 = true) then
 some (-1)
 else if 0 ≤ i_6 then
 if i_6 ≤ ((List.length order_1 : Nat) : Int) then
 if 0 ≤ i_6 then
 if i_6 < ((List.length order_1 : Nat) : Int) then
 (spec_l27Has k (List.take ((Int.toNat i_6) - (Int.toNat 0)) (List.drop (Int.toNat 0) order_1)) (rd (.int .i64) order_1 i_6)).bind fun r3 =>
 if r3 = true then
 some (-1)
 else if (0 : Int) < i_6 then
 if 0 ≤ (IntKind.wrap .i64 (i_6 - 1)) then
 if (IntKind.wrap .i64 (i_6 - 1)) < ((List.length order_1 : Nat) : Int) then
 if LE.le (α := Int) 0 (rd (.int .i64) order_1 (IntKind.wrap .i64 (i_6 - 1))) then
 if LT.lt (α := Int) (rd (.int .i64) order_1 (IntKind.wrap .i64 (i_6 - 1))) ((List.length l_0 : Nat) : Int) then
 if 0 ≤ i_6 then
 if i_6 < ((List.length order_1 : Nat) : Int) then
 if LE.le (α := Int) 0 (rd (.int .i64) order_1 i_6) then
 if LT.lt (α := Int) (rd (.int .i64) order_1 i_6) ((List.length l_0 : Nat) : Int) then
 (spec_Moves k (rd T31 l_0 (rd (.int .i64) order_1 (IntKind.wrap .i64 (i_6 - 1)))) (rd T31 l_0 (rd (.int .i64) order_1 i_6))).bind fun r4 =>
 spec_OrderCost.l0 k m l_0 order_1 (IntKind.wrap .i64 (n_5 + r4)) (IntKind.wrap .i64 (i_6 + 1)) else none else none else none else none else none else none else none else none
 else spec_OrderCost.l0 k m l_0 order_1 n_5 (IntKind.wrap .i64 (i_6 + 1)) else none else none else none else none else none else none
 else some n_5 := by kernel_rfl
theorem spec_l27Has_eq (k : Nat) (l_0 : (List Int)) (n_1 : Int) : spec_l27Has (k + 1) l_0 n_1 =
 spec_l27Has.l0 k k l_0 n_1 0 := by kernel_rfl
theorem spec_l27Has.l0_eq (k m : Nat) (l_0 : (List Int)) (n_1 : Int) (i_5 : Int) : spec_l27Has.l0 k (m + 1) l_0 n_1 i_5 =
 if (i_5 : Int) < ((List.length l_0 : Nat) : Int) then
 if 0 ≤ i_5 then
 if i_5 < ((List.length l_0 : Nat) : Int) then
 if Eq (α := Int) (rd (.int .i64) l_0 i_5) n_1 then
 some true
 else spec_l27Has.l0 k m l_0 n_1 (IntKind.wrap .i64 (i_5 + 1)) else none else none
 else some false := by kernel_rfl
theorem impl_AreWorks_1_eq (k : Nat) (w_0 : DT31) : impl_AreWorks_1 (k + 1) w_0 =
 (impl_InRange k w_0.1 1 10000000).bind fun r1 =>
 if ¬ (r1 = true) then
 some true
 else (impl_ascending k w_0.2.1 1 99).bind fun r2 =>
 some (decide (¬ (r2 = true))) := by kernel_rfl
theorem spec_Moves_eq (k : Nat) (a_0 : DT31) (b_1 : DT31) : spec_Moves (k + 1) a_0 b_1 =
 spec_Moves.l0 k k 0 0 a_0.1 a_0.2.1 b_1.1 b_1.2.1 := by kernel_rfl
theorem spec_Moves.l0_eq (k m : Nat) (n_5 : Int) (i_6 : Int) (b0_0 : Int) (b0_1 : (List Int)) (b1_0 : Int) (b1_1 : (List Int)) : spec_Moves.l0 k (m + 1) n_5 i_6 b0_0 b0_1 b1_0 b1_1 =
 if (i_6 : Int) < ((List.length b0_1 : Nat) : Int) then
 if 0 ≤ i_6 then
 if i_6 < ((List.length b0_1 : Nat) : Int) then
 (spec_l27Has k b1_1 (rd (.int .i64) b0_1 i_6)).bind fun r1 =>
 if ¬ (r1 = true) then
 spec_Moves.l0 k m (IntKind.wrap .i64 (n_5 + 1)) (IntKind.wrap .i64 (i_6 + 1)) b0_0 b0_1 b1_0 b1_1
 else spec_Moves.l0 k m n_5 (IntKind.wrap .i64 (i_6 + 1)) b0_0 b0_1 b1_0 b1_1 else none else none
 else spec_Moves.l1 k k n_5 i_6 0 b0_0 b0_1 b1_0 b1_1 := by kernel_rfl
theorem spec_Moves.l1_eq (k m : Nat) (n_5 : Int) (i_6 : Int) (i_7 : Int) (b0_0 : Int) (b0_1 : (List Int)) (b1_0 : Int) (b1_1 : (List Int)) : spec_Moves.l1 k (m + 1) n_5 i_6 i_7 b0_0 b0_1 b1_0 b1_1 =
 if (i_7 : Int) < ((List.length b1_1 : Nat) : Int) then
 if 0 ≤ i_7 then
 if i_7 < ((List.length b1_1 : Nat) : Int) then
 (spec_l27Has k b0_1 (rd (.int .i64) b1_1 i_7)).bind fun r2 =>
 if ¬ (r2 = true) then
 spec_Moves.l1 k m (IntKind.wrap .i64 (n_5 + 1)) i_6 (IntKind.wrap .i64 (i_7 + 1)) b0_0 b0_1 b1_0 b1_1
 else spec_Moves.l1 k m n_5 i_6 (IntKind.wrap .i64 (i_7 + 1)) b0_0 b0_1 b1_0 b1_1 else none else none
 else some n_5 := by kernel_rfl
theorem impl_ascending_eq (k : Nat) (l_0 : (List Int)) (low_1 : Int) (high_2 : Int) : impl_ascending (k + 1) l_0 low_1 high_2 =
 impl_ascending.l0 k k l_0 low_1 high_2 l_0 ((List.length l_0 : Nat) : Int) 0 := by kernel_rfl
theorem impl_ascending.l0_eq (k m : Nat) (l_0 : (List Int)) (low_1 : Int) (high_2 : Int) (t_9 : (List Int)) (t_10 : Int) (t_11 : Int) : impl_ascending.l0 k (m + 1) l_0 low_1 high_2 t_9 t_10 t_11 =
 if (t_11 : Int) < t_10 then
 if 0 ≤ t_11 then
 if t_11 < ((List.length t_9 : Nat) : Int) then
 (impl_InRange k (rd (.int .i64) t_9 t_11) low_1 high_2).bind fun r1 =>
 if ¬ (r1 = true) then
 some false
 else if (0 : Int) < t_11 then
 if 0 ≤ (IntKind.wrap .i64 (t_11 - 1)) then
 if (IntKind.wrap .i64 (t_11 - 1)) < ((List.length l_0 : Nat) : Int) then
 if LE.le (α := Int) (rd (.int .i64) t_9 t_11) (rd (.int .i64) l_0 (IntKind.wrap .i64 (t_11 - 1))) then
 some false
 else impl_ascending.l0 k m l_0 low_1 high_2 t_9 t_10 (IntKind.wrap .i64 (t_11 + 1)) else none else none
 else impl_ascending.l0 k m l_0 low_1 high_2 t_9 t_10 (IntKind.wrap .i64 (t_11 + 1)) else none else none
 else some true := by kernel_rfl
end Go.QFnOrdered
