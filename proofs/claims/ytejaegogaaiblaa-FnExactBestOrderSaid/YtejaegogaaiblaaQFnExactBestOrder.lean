/- The functions that the law FnExactBestOrder reaches, as equations; printed by pe.py. No condition. -/
import Derived.Test.YtejaegogaaiblaaPrim
import Derived.Test.YtejaegogaaiblaaPureBest
import Derived.Test.YtejaegogaaiblaaBestF
import Derived.Test.YtejaegogaaiblaaProg
import Derived.KernelRfl
set_option linter.unusedVariables false
open Go Go.Flat
namespace Go.QFnExactBestOrder
abbrev T31 : Ty := .pair (.int .i64) (.pair (.list (.int .i64)) .unit)
abbrev DT31 := Int × ((List Int) × Unit)
abbrev T66 : Ty := .pair (.list (.int .u8)) (.pair (.int .i64) (.pair (.int .i64) .unit))
abbrev DT66 := (List Int) × (Int × (Int × Unit))
noncomputable def C : Cfg := {
  P := Go.Proofs.Try.prog,
  tt := [(1, none), (2, some (.int .i64)), (3, some (.int .i64)), (4, some .bool), (5, some (.int .u8)), (6, some (.int .u8)), (9, some .str), (10, some .str), (11, some .str), (12, some (.int .u64)), (15, none), (16, none), (17, none), (21, some (.int .i32)), (22, some (.list (.int .u8))), (23, none), (24, some (.dlist T31)), (25, some (.list (.int .i64))), (27, none), (28, none), (29, none), (30, none), (31, some T31), (32, some T31), (34, none), (36, none), (37, none), (38, none), (39, some (.dlist T31)), (40, none), (41, none), (42, none), (43, none), (44, none), (45, none), (46, none), (47, none), (48, none), (49, none), (50, none), (51, none), (52, none), (53, none), (54, none), (55, none), (56, none), (57, none), (58, none), (59, none), (60, none), (61, none), (62, some T31), (63, none), (64, none), (65, none), (66, some T66), (67, some T66), (68, none), (69, none), (70, none), (71, none), (72, some (.int .u64)), (73, none), (79, none), (80, some (.int .u32)), (81, some (.int .u8)), (82, some (.int .u8)), (83, none), (84, none), (85, some (.int .i32)), (86, some (.int .i32))],
  vars := [(10, [0, 3]), (15, [0, 1, 5]), (17, [0, 3, 4]), (18, [0, 1, 5]), (19, [0, 1, 5]), (20, [0, 1, 5]), (21, [0, 1, 5]), (22, [0, 1, 5]), (34, [0, 3]), (39, [0, 1, 2, 7]), (47, [0, 1, 5, 6]), (48, [0, 1, 5]), (49, [0, 3, 4]), (51, [2, 3, 5, 6, 7])],
  sigs := [(20, { lend := some 0 }), (21, { lend := some 0 }), (39, { io := [2] })],
  prim := fun f => bif Nat.beq f 7 then some (primBest Go.QBest.awB Go.QBest.costF) else none,
  ptrs := [15, 16, 17, 46, 84],
  gives := [32] }
noncomputable def laws_FnExactBestOrder (k : Nat) (aL_0 : (List DT31)) : Option Bool := run C k 4 .bool [.val (.dlist T31) aL_0]
noncomputable def laws_szWorkS (k : Nat) (a_0 : (List DT31)) (left_1 : Int) : Option Int := run C k 15 (.int .i64) [.val (.dlist T31) a_0, .val (.int .i64) left_1]
noncomputable def laws_szWorkS.l0 (k m : Nat) (a_0 : (List DT31)) (left_1 : Int) (i_5 : Int) : Option Int := loopRun C k 15 (.int .i64) [0, 0] [.r, .r, .r, .l, .r, .b] [] [0, 1, 5] m ⟨[.one (.cell (.list false T31 a_0)), .one (.cell (.int .i64 left_1)), .one (.cell (.int .i64 i_5))], []⟩
noncomputable def laws_toWorkS (k : Nat) (a_0 : (List DT31)) : Option (List DT31) := run C k 17 (.dlist T31) [.val (.dlist T31) a_0]
noncomputable def laws_toWorkS.l0 (k m : Nat) (a_0 : (List DT31)) (i_4 : Int) (s0 : (List DT31)) : Option (List DT31) := loopRun C k 17 (.dlist T31) [0] [.r, .r, .l, .r, .b] [] [0, 3, 4] m ⟨[.one (.cell (.list false T31 a_0)), .one (.cell (.dref 1)), .one (.cell (.int .i64 i_4))], [.deep T31 s0 none]⟩
noncomputable def spec_BestOrder (k : Nat) (l_0 : (List DT31)) : Option (List Int) := run C k 16 (.list (.int .i64)) [.val (.dlist T31) l_0]
noncomputable def impl_BestOrder (k : Nat) (l_0 : (List DT31)) : Option (List Int) := run C k 7 (.list (.int .i64)) [.val (.dlist T31) l_0]
noncomputable def laws_eqIntS (k : Nat) (a_0 : (List Int)) (b_1 : (List Int)) : Option Bool := run C k 18 .bool [.val (.list (.int .i64)) a_0, .val (.list (.int .i64)) b_1]
noncomputable def laws_eqIntS.l0 (k m : Nat) (a_0 : (List Int)) (b_1 : (List Int)) (i_5 : Int) : Option Bool := loopRun C k 18 .bool [0, 0] [.r, .r, .l, .r, .b] [] [0, 1, 5] m ⟨[.one (.cell (.list false (.int .i64) a_0)), .one (.cell (.list false (.int .i64) b_1)), .one (.cell (.int .i64 i_5))], []⟩
noncomputable def laws_eqWorkS (k : Nat) (a_0 : (List DT31)) (b_1 : (List DT31)) : Option Bool := run C k 19 .bool [.val (.dlist T31) a_0, .val (.dlist T31) b_1]
noncomputable def laws_eqWorkS.l0 (k m : Nat) (a_0 : (List DT31)) (b_1 : (List DT31)) (i_5 : Int) : Option Bool := loopRun C k 19 .bool [0, 0] [.r, .r, .l, .r, .b] [] [0, 1, 5] m ⟨[.one (.cell (.list false T31 a_0)), .one (.cell (.list false T31 b_1)), .one (.cell (.int .i64 i_5))], []⟩
noncomputable def laws_markWorkS (k : Nat) (a_0 : (List DT31)) (k_1 : Int) : Option (Int × (List DT31)) := run C k 20 (.pair (.int .i64) (.dlist T31)) [.lend (.dlist T31) a_0, .val (.int .i64) k_1]
noncomputable def laws_markWorkS.l0 (k m : Nat) (k_1 : Int) (i_5 : Int) (s0 : (List DT31)) : Option (Int × (List DT31)) := loopRunL C k 20 (.pair (.int .i64) (.dlist T31)) 0 (.dlist T31) 2 [.r, .l, .r, .b] [] [0, 1, 5] m ⟨[.one (.cell (.dref 1)), .one (.cell (.int .i64 k_1)), .one (.cell (.int .i64 i_5))], [.deep T31 s0 (some 0)]⟩
noncomputable def laws_markIntS (k : Nat) (a_0 : (List Int)) (k_1 : Int) : Option (Int × (List Int)) := run C k 21 (.pair (.int .i64) (.list (.int .i64))) [.lend (.list (.int .i64)) a_0, .val (.int .i64) k_1]
noncomputable def laws_markIntS.l0 (k m : Nat) (k_1 : Int) (i_5 : Int) (s0 : (List Int)) : Option (Int × (List Int)) := loopRunL C k 21 (.pair (.int .i64) (.list (.int .i64))) 0 (.list (.int .i64)) 2 [.r, .l, .r, .b] [] [0, 1, 5] m ⟨[.one (.cell (.ref 1)), .one (.cell (.int .i64 k_1)), .one (.cell (.int .i64 i_5))], [.arr (.int .i64) s0 (.pinned 0)]⟩
noncomputable def laws_heldIntS (k : Nat) (a_0 : (List Int)) (k_1 : Int) : Option Int := run C k 22 (.int .i64) [.val (.list (.int .i64)) a_0, .val (.int .i64) k_1]
noncomputable def laws_heldIntS.l0 (k m : Nat) (a_0 : (List Int)) (k_1 : Int) (i_5 : Int) : Option Int := loopRun C k 22 (.int .i64) [0, 0] [.r, .l, .r, .b] [] [0, 1, 5] m ⟨[.one (.cell (.list false (.int .i64) a_0)), .one (.cell (.int .i64 k_1)), .one (.cell (.int .i64 i_5))], []⟩
noncomputable def laws_szWork (k : Nat) (a_0 : DT31) (left_1 : Int) : Option Int := run C k 38 (.int .i64) [.val T31 a_0, .val (.int .i64) left_1]
noncomputable def laws_toWork (k : Nat) (a_0 : DT31) : Option DT31 := run C k 40 T31 [.val T31 a_0]
noncomputable def spec_AreWorks (k : Nat) (l_0 : (List DT31)) : Option Bool := run C k 10 .bool [.val (.dlist T31) l_0]
noncomputable def spec_AreWorks.l0 (k m : Nat) (l_0 : (List DT31)) (i_3 : Int) : Option Bool := loopRun C k 10 .bool [0] [.r, .l, .r, .b] [] [0, 3] m ⟨[.one (.cell (.list false T31 l_0)), .one (.cell (.int .i64 i_3))], []⟩
noncomputable def spec_l38Try (k : Nat) (l_0 : (List DT31)) (order_1 : (List Int)) (best_2 : (List Int)) : Option (List Int) := run C k 39 (.list (.int .i64)) [.val (.dlist T31) l_0, .val (.list (.int .i64)) order_1, .give (.list (.int .i64)) best_2]
noncomputable def spec_l38Try.l0 (k m : Nat) (l_0 : (List DT31)) (order_1 : (List Int)) (i_7 : Int) (s0 : (List Int)) : Option (List Int) := loopRun C k 39 (.list (.int .i64)) [0, 0, 0] [.r, .r, .l, .r, .b] [] [0, 1, 2, 7] m ⟨[.one (.cell (.list false T31 l_0)), .one (.cell (.list false (.int .i64) order_1)), .one (.cell (.ref 1)), .one (.cell (.int .i64 i_7))], [.arr (.int .i64) s0 .open]⟩
noncomputable def laws_eqWork (k : Nat) (a_0 : DT31) (b_1 : DT31) : Option Bool := run C k 41 .bool [.val T31 a_0, .val T31 b_1]
noncomputable def laws_szIntS (k : Nat) (a_0 : (List Int)) (left_1 : Int) : Option Int := run C k 46 (.int .i64) [.val (.list (.int .i64)) a_0, .val (.int .i64) left_1]
noncomputable def laws_toIntS (k : Nat) (a_0 : (List Int)) : Option (List Int) := run C k 49 (.list (.int .i64)) [.val (.list (.int .i64)) a_0]
noncomputable def laws_toIntS.l0 (k m : Nat) (a_0 : (List Int)) (i_4 : Int) (s0 : (List Int)) : Option (List Int) := loopRun C k 49 (.list (.int .i64)) [0] [.r, .r, .l, .r, .b] [] [0, 3, 4] m ⟨[.one (.cell (.list false (.int .i64) a_0)), .one (.cell (.ref 1)), .one (.cell (.int .i64 i_4))], [.arr (.int .i64) s0 .open]⟩
noncomputable def spec_l1In (k : Nat) (x_0 : Int) (least_1 : Int) (most_2 : Int) : Option Bool := run C k 33 .bool [.val (.int .i64) x_0, .val (.int .i64) least_1, .val (.int .i64) most_2]
noncomputable def spec_l30Ids (k : Nat) (l_0 : (List Int)) : Option Bool := run C k 34 .bool [.val (.list (.int .i64)) l_0]
noncomputable def spec_l30Ids.l0 (k m : Nat) (l_0 : (List Int)) (i_3 : Int) : Option Bool := loopRun C k 34 .bool [0] [.r, .l, .r, .b] [] [0, 3] m ⟨[.one (.cell (.list false (.int .i64) l_0)), .one (.cell (.int .i64 i_3))], []⟩
noncomputable def spec_OrderCost (k : Nat) (l_0 : (List DT31)) (order_1 : (List Int)) : Option Int := run C k 47 (.int .i64) [.val (.dlist T31) l_0, .val (.list (.int .i64)) order_1]
noncomputable def spec_OrderCost.l0 (k m : Nat) (l_0 : (List DT31)) (order_1 : (List Int)) (n_5 : Int) (i_6 : Int) : Option Int := loopRun C k 47 (.int .i64) [0, 0] [.r, .r, .r, .l, .r, .b] [] [0, 1, 5, 6] m ⟨[.one (.cell (.list false T31 l_0)), .one (.cell (.list false (.int .i64) order_1)), .one (.cell (.int .i64 n_5)), .one (.cell (.int .i64 i_6))], []⟩
noncomputable def spec_l27Has (k : Nat) (l_0 : (List Int)) (n_1 : Int) : Option Bool := run C k 48 .bool [.val (.list (.int .i64)) l_0, .val (.int .i64) n_1]
noncomputable def spec_l27Has.l0 (k m : Nat) (l_0 : (List Int)) (n_1 : Int) (i_5 : Int) : Option Bool := loopRun C k 48 .bool [0, 0] [.r, .l, .r, .b] [] [0, 1, 5] m ⟨[.one (.cell (.list false (.int .i64) l_0)), .one (.cell (.int .i64 n_1)), .one (.cell (.int .i64 i_5))], []⟩
noncomputable def spec_Moves (k : Nat) (a_0 : DT31) (b_1 : DT31) : Option Int := run C k 51 (.int .i64) [.val T31 a_0, .val T31 b_1]
noncomputable def spec_Moves.l0 (k m : Nat) (n_5 : Int) (i_6 : Int) (b0_0 : Int) (b0_1 : (List Int)) (b1_0 : Int) (b1_1 : (List Int)) : Option Int := loopRun C k 51 (.int .i64) [0, 0] [.r, .r, .l, .r, .b] [] [2, 3, 5, 6] m ⟨[.one (.cell (.ptr 1 0)), .one (.cell (.ptr 5 0)), .one (.cell (.int .i64 n_5)), .one (.cell (.int .i64 i_6))], [.box (some T31) [.int .i64 b0_0, .list false (.int .i64) b0_1], .box (some T31) [.int .i64 b1_0, .list false (.int .i64) b1_1]]⟩
noncomputable def spec_Moves.l1 (k m : Nat) (n_5 : Int) (i_6 : Int) (i_7 : Int) (b0_0 : Int) (b0_1 : (List Int)) (b1_0 : Int) (b1_1 : (List Int)) : Option Int := loopRun C k 51 (.int .i64) [0, 0] [.r, .r, .r, .l, .r, .b] [] [2, 3, 5, 6, 7] m ⟨[.one (.cell (.ptr 1 0)), .one (.cell (.ptr 5 0)), .one (.cell (.int .i64 n_5)), .one (.cell (.int .i64 i_6)), .one (.cell (.int .i64 i_7))], [.box (some T31) [.int .i64 b0_0, .list false (.int .i64) b0_1], .box (some T31) [.int .i64 b1_0, .list false (.int .i64) b1_1]]⟩
theorem laws_FnExactBestOrder_eq (k : Nat) (aL_0 : (List DT31)) : laws_FnExactBestOrder (k + 1) aL_0 =
 (laws_szWorkS k aL_0 1048576).bind fun r1 =>
 if (r1 : Int) < 0 then
 some true
 else (laws_toWorkS k aL_0).bind fun r2 =>
 (spec_BestOrder k r2).bind fun r3 =>
 (laws_toWorkS k aL_0).bind fun r4 =>
 (impl_BestOrder k r4).bind fun r5 =>
 (laws_eqIntS k r5 r3).bind fun r6 =>
 if ¬ (r6 = true) then
 some false
 else (laws_toWorkS k aL_0).bind fun r7 =>
 (laws_eqWorkS k r4 r7).bind fun r8 =>
 if ¬ (r8 = true) then
 some false
 else (laws_markWorkS k r4 1).bind fun r9 =>
 if (r9.1 : Int) < 0 then
 some false
 else (laws_eqIntS k r5 r3).bind fun r10 =>
 if ¬ (r10 = true) then
 some false
 else (laws_markIntS k r5 1).bind fun r11 =>
 (laws_heldIntS k r11.2 1).bind fun r12 =>
 if (r12 : Int) < 0 then
 some false
 else if (r12 : Int) ≠ r11.1 then
 some false
 else (laws_toWorkS k aL_0).bind fun r13 =>
 (impl_BestOrder k r13).bind fun r14 =>
 (laws_eqIntS k r14 r3).bind fun r15 =>
 if ¬ (r15 = true) then
 some false
 else (laws_heldIntS k r11.2 1).bind fun r16 =>
 if (r16 : Int) < 0 then
 some false
 else if (r16 : Int) ≠ r11.1 then
 some false
 else some true := by kernel_rfl
theorem laws_szWorkS_eq (k : Nat) (a_0 : (List DT31)) (left_1 : Int) : laws_szWorkS (k + 1) a_0 left_1 =
 if ((IntKind.wrap .i64 (left_1 - ((List.length a_0 : Nat) : Int))) : Int) < 0 then
 some (-1)
 else laws_szWorkS.l0 k k a_0 (IntKind.wrap .i64 (left_1 - ((List.length a_0 : Nat) : Int))) 0 := by kernel_rfl
theorem laws_szWorkS.l0_eq (k m : Nat) (a_0 : (List DT31)) (left_1 : Int) (i_5 : Int) : laws_szWorkS.l0 k (m + 1) a_0 left_1 i_5 =
 if (i_5 : Int) < ((List.length a_0 : Nat) : Int) then
 if 0 ≤ i_5 then
 if i_5 < ((List.length a_0 : Nat) : Int) then
 (laws_szWork k (rd T31 a_0 i_5) left_1).bind fun r1 =>
 if (r1 : Int) < 0 then
 some (-1)
 else laws_szWorkS.l0 k m a_0 r1 (IntKind.wrap .i64 (i_5 + 1)) else none else none
 else some left_1 := by kernel_rfl
theorem laws_toWorkS_eq (k : Nat) (a_0 : (List DT31)) : laws_toWorkS (k + 1) a_0 =
 if 0 ≤ ((List.length a_0 : Nat) : Int) then
 if ((List.length a_0 : Nat) : Int) ≤ ((List.length a_0 : Nat) : Int) then
 if ((List.length a_0 : Nat) : Int) * 32 ≤ 211106232532992 then
 laws_toWorkS.l0 k k a_0 0 (List.replicate (Int.toNat ((List.length a_0 : Nat) : Int)) (Ty.dflt T31)) else none else none else none := by kernel_rfl
theorem laws_toWorkS.l0_eq (k m : Nat) (a_0 : (List DT31)) (i_4 : Int) (s0 : (List DT31)) : laws_toWorkS.l0 k (m + 1) a_0 i_4 s0 =
 if (i_4 : Int) < ((List.length a_0 : Nat) : Int) then
 if 0 ≤ i_4 then
 if i_4 < ((List.length a_0 : Nat) : Int) then
 (laws_toWork k (rd T31 a_0 i_4)).bind fun r1 =>
 if 0 ≤ i_4 then
 if i_4 < ((List.length s0 : Nat) : Int) then
 laws_toWorkS.l0 k m a_0 (IntKind.wrap .i64 (i_4 + 1)) (List.set s0 (Int.toNat i_4) r1) else none else none else none else none
 else some s0 := by kernel_rfl
theorem spec_BestOrder_eq (k : Nat) (l_0 : (List DT31)) : spec_BestOrder (k + 1) l_0 =
 (spec_AreWorks k l_0).bind fun r1 =>
 if ¬ (r1 = true) then
 some []
 else if (((List.length l_0 : Nat) : Int) : Int) = 0 then
 some []
 else (spec_l38Try k l_0 [] []).bind fun r2 =>
 some r2 := by kernel_rfl
theorem impl_BestOrder_eq (k : Nat) (l_0 : (List DT31)) : impl_BestOrder (k + 1) l_0 = (primBest Go.QBest.awB Go.QBest.costF) (.list (.int .i64)) [.val (.dlist T31) l_0] := by kernel_rfl
theorem laws_eqIntS_eq (k : Nat) (a_0 : (List Int)) (b_1 : (List Int)) : laws_eqIntS (k + 1) a_0 b_1 =
 if (((List.length a_0 : Nat) : Int) : Int) ≠ ((List.length b_1 : Nat) : Int) then
 some false
 else laws_eqIntS.l0 k k a_0 b_1 0 := by kernel_rfl
theorem laws_eqIntS.l0_eq (k m : Nat) (a_0 : (List Int)) (b_1 : (List Int)) (i_5 : Int) : laws_eqIntS.l0 k (m + 1) a_0 b_1 i_5 =
 if (i_5 : Int) < ((List.length a_0 : Nat) : Int) then
 if 0 ≤ i_5 then
 if i_5 < ((List.length a_0 : Nat) : Int) then
 if 0 ≤ i_5 then
 if i_5 < ((List.length b_1 : Nat) : Int) then
 if Ne (α := Int) (rd (.int .i64) a_0 i_5) (rd (.int .i64) b_1 i_5) then
 some false
 else laws_eqIntS.l0 k m a_0 b_1 (IntKind.wrap .i64 (i_5 + 1)) else none else none else none else none
 else some true := by kernel_rfl
theorem laws_eqWorkS_eq (k : Nat) (a_0 : (List DT31)) (b_1 : (List DT31)) : laws_eqWorkS (k + 1) a_0 b_1 =
 if (((List.length a_0 : Nat) : Int) : Int) ≠ ((List.length b_1 : Nat) : Int) then
 some false
 else laws_eqWorkS.l0 k k a_0 b_1 0 := by kernel_rfl
theorem laws_eqWorkS.l0_eq (k m : Nat) (a_0 : (List DT31)) (b_1 : (List DT31)) (i_5 : Int) : laws_eqWorkS.l0 k (m + 1) a_0 b_1 i_5 =
 if (i_5 : Int) < ((List.length a_0 : Nat) : Int) then
 if 0 ≤ i_5 then
 if i_5 < ((List.length a_0 : Nat) : Int) then
 if 0 ≤ i_5 then
 if i_5 < ((List.length b_1 : Nat) : Int) then
 (laws_eqWork k (rd T31 a_0 i_5) (rd T31 b_1 i_5)).bind fun r1 =>
 if ¬ (r1 = true) then
 some false
 else laws_eqWorkS.l0 k m a_0 b_1 (IntKind.wrap .i64 (i_5 + 1)) else none else none else none else none
 else some true := by kernel_rfl
theorem laws_markWorkS_eq (k : Nat) (a_0 : (List DT31)) (k_1 : Int) : laws_markWorkS (k + 1) a_0 k_1 =
 laws_markWorkS.l0 k k k_1 0 a_0 := by kernel_rfl
theorem laws_markWorkS.l0_eq (k m : Nat) (k_1 : Int) (i_5 : Int) (s0 : (List DT31)) : laws_markWorkS.l0 k (m + 1) k_1 i_5 s0 =
 if (i_5 : Int) < ((List.length s0 : Nat) : Int) then
 if 0 ≤ i_5 then
 if i_5 < ((List.length s0 : Nat) : Int) then
 if 0 ≤ i_5 then
 if i_5 < ((List.length (setAt T31 s0 i_5 (fun yy => (k_1, yy.2))) : Nat) : Int) then
 (laws_markIntS k (rd T31 (setAt T31 s0 i_5 (fun yy => (k_1, yy.2))) i_5).2.1 (IntKind.wrap .i64 (k_1 + 1))).bind fun r1 =>
 laws_markWorkS.l0 k m r1.1 (IntKind.wrap .i64 (i_5 + 1)) (setAt T31 (setAt T31 s0 i_5 (fun yy => (k_1, yy.2))) i_5 (fun yy => (yy.1, (r1.2, yy.2.2)))) else none else none else none else none
 else some (k_1, s0) := by kernel_rfl
theorem laws_markIntS_eq (k : Nat) (a_0 : (List Int)) (k_1 : Int) : laws_markIntS (k + 1) a_0 k_1 =
 laws_markIntS.l0 k k k_1 0 a_0 := by kernel_rfl
theorem laws_markIntS.l0_eq (k m : Nat) (k_1 : Int) (i_5 : Int) (s0 : (List Int)) : laws_markIntS.l0 k (m + 1) k_1 i_5 s0 =
 if (i_5 : Int) < ((List.length s0 : Nat) : Int) then
 if 0 ≤ i_5 then
 if i_5 < ((List.length s0 : Nat) : Int) then
 laws_markIntS.l0 k m (IntKind.wrap .i64 (k_1 + 1)) (IntKind.wrap .i64 (i_5 + 1)) (List.set s0 (Int.toNat i_5) k_1) else none else none
 else some (k_1, s0) := by kernel_rfl
theorem laws_heldIntS_eq (k : Nat) (a_0 : (List Int)) (k_1 : Int) : laws_heldIntS (k + 1) a_0 k_1 =
 laws_heldIntS.l0 k k a_0 k_1 0 := by kernel_rfl
theorem laws_heldIntS.l0_eq (k m : Nat) (a_0 : (List Int)) (k_1 : Int) (i_5 : Int) : laws_heldIntS.l0 k (m + 1) a_0 k_1 i_5 =
 if (i_5 : Int) < ((List.length a_0 : Nat) : Int) then
 if 0 ≤ i_5 then
 if i_5 < ((List.length a_0 : Nat) : Int) then
 if Ne (α := Int) (rd (.int .i64) a_0 i_5) k_1 then
 some (-1)
 else laws_heldIntS.l0 k m a_0 (IntKind.wrap .i64 (k_1 + 1)) (IntKind.wrap .i64 (i_5 + 1)) else none else none
 else some k_1 := by kernel_rfl
theorem laws_szWork_eq (k : Nat) (a_0 : DT31) (left_1 : Int) : laws_szWork (k + 1) a_0 left_1 =
 (laws_szIntS k a_0.2.1 left_1).bind fun r1 =>
 if (r1 : Int) < 0 then
 some (-1)
 else some r1 := by kernel_rfl
theorem laws_toWork_eq (k : Nat) (a_0 : DT31) : laws_toWork (k + 1) a_0 =
 (laws_toIntS k a_0.2.1).bind fun r1 =>
 some (a_0.1, (r1, ())) := by kernel_rfl
theorem spec_AreWorks_eq (k : Nat) (l_0 : (List DT31)) : spec_AreWorks (k + 1) l_0 =
 spec_AreWorks.l0 k k l_0 0 := by kernel_rfl
theorem spec_AreWorks.l0_eq (k m : Nat) (l_0 : (List DT31)) (i_3 : Int) : spec_AreWorks.l0 k (m + 1) l_0 i_3 =
 if (i_3 : Int) < ((List.length l_0 : Nat) : Int) then
 if 0 ≤ i_3 then
 if i_3 < ((List.length l_0 : Nat) : Int) then
 (spec_l1In k (rd T31 l_0 i_3).1 1 10000000).bind fun r1 =>
 if ¬ (r1 = true) then
 some false
 else if 0 ≤ i_3 then
 if i_3 < ((List.length l_0 : Nat) : Int) then
 (spec_l30Ids k (rd T31 l_0 i_3).2.1).bind fun r2 =>
 if ¬ (r2 = true) then
 some false
 else spec_AreWorks.l0 k m l_0 (IntKind.wrap .i64 (i_3 + 1)) else none else none else none else none
 else some (decide ((((List.length l_0 : Nat) : Int) : Int) ≤ 6)) := by kernel_rfl
theorem spec_l38Try_eq (k : Nat) (l_0 : (List DT31)) (order_1 : (List Int)) (best_2 : (List Int)) : spec_l38Try (k + 1) l_0 order_1 best_2 =
 if (((List.length order_1 : Nat) : Int) : Int) = ((List.length l_0 : Nat) : Int) then
 if (((List.length best_2 : Nat) : Int) : Int) < ((List.length l_0 : Nat) : Int) then
 if (List.length ([] : (List Int)) + List.length order_1) * 8 ≤ 211106232532992 then
 some (([] : (List Int)) ++ order_1) else none
 else (spec_OrderCost k l_0 order_1).bind fun r1 =>
 (spec_OrderCost k l_0 best_2).bind fun r2 =>
 if (r1 : Int) < r2 then
 if (List.length ([] : (List Int)) + List.length order_1) * 8 ≤ 211106232532992 then
 some (([] : (List Int)) ++ order_1) else none
 else some best_2
 else spec_l38Try.l0 k k l_0 order_1 0 best_2 := by kernel_rfl
theorem spec_l38Try.l0_eq (k m : Nat) (l_0 : (List DT31)) (order_1 : (List Int)) (i_7 : Int) (s0 : (List Int)) : spec_l38Try.l0 k (m + 1) l_0 order_1 i_7 s0 =
 if (i_7 : Int) < ((List.length l_0 : Nat) : Int) then
 (spec_l27Has k order_1 i_7).bind fun r3 =>
 if ¬ (r3 = true) then
 if (List.length ([] : (List Int)) + List.length order_1) * 8 ≤ 211106232532992 then
 if (List.length (([] : (List Int)) ++ order_1) + List.length ([i_7] : (List Int))) * 8 ≤ 211106232532992 then
 (spec_l38Try k l_0 ((([] : (List Int)) ++ order_1) ++ ([i_7] : (List Int))) s0).bind fun r4 =>
 spec_l38Try.l0 k m l_0 order_1 (IntKind.wrap .i64 (i_7 + 1)) r4 else none else none
 else spec_l38Try.l0 k m l_0 order_1 (IntKind.wrap .i64 (i_7 + 1)) s0
 else some s0 := by kernel_rfl
theorem laws_eqWork_eq (k : Nat) (a_0 : DT31) (b_1 : DT31) : laws_eqWork (k + 1) a_0 b_1 =
 if (a_0.1 : Int) ≠ b_1.1 then
 some false
 else (laws_eqIntS k a_0.2.1 b_1.2.1).bind fun r1 =>
 if ¬ (r1 = true) then
 some false
 else some true := by kernel_rfl
theorem laws_szIntS_eq (k : Nat) (a_0 : (List Int)) (left_1 : Int) : laws_szIntS (k + 1) a_0 left_1 =
 if ((IntKind.wrap .i64 (left_1 - ((List.length a_0 : Nat) : Int))) : Int) < 0 then
 some (-1)
 else some (IntKind.wrap .i64 (left_1 - ((List.length a_0 : Nat) : Int))) := by kernel_rfl
theorem laws_toIntS_eq (k : Nat) (a_0 : (List Int)) : laws_toIntS (k + 1) a_0 =
 if 0 ≤ ((List.length a_0 : Nat) : Int) then
 if ((List.length a_0 : Nat) : Int) ≤ ((List.length a_0 : Nat) : Int) then
 if ((List.length a_0 : Nat) : Int) * 8 ≤ 211106232532992 then
 laws_toIntS.l0 k k a_0 0 (List.replicate (Int.toNat ((List.length a_0 : Nat) : Int)) (Ty.dflt (.int .i64))) else none else none else none := by kernel_rfl
theorem laws_toIntS.l0_eq (k m : Nat) (a_0 : (List Int)) (i_4 : Int) (s0 : (List Int)) : laws_toIntS.l0 k (m + 1) a_0 i_4 s0 =
 if (i_4 : Int) < ((List.length a_0 : Nat) : Int) then
 if 0 ≤ i_4 then
 if i_4 < ((List.length a_0 : Nat) : Int) then
 if 0 ≤ i_4 then
 if i_4 < ((List.length s0 : Nat) : Int) then
 laws_toIntS.l0 k m a_0 (IntKind.wrap .i64 (i_4 + 1)) (List.set s0 (Int.toNat i_4) (rd (.int .i64) a_0 i_4)) else none else none else none else none
 else some s0 := by kernel_rfl
theorem spec_l1In_eq (k : Nat) (x_0 : Int) (least_1 : Int) (most_2 : Int) : spec_l1In (k + 1) x_0 least_1 most_2 =
 if (least_1 : Int) ≤ x_0 then
 some (decide ((x_0 : Int) ≤ most_2))
 else some false := by kernel_rfl
theorem spec_l30Ids_eq (k : Nat) (l_0 : (List Int)) : spec_l30Ids (k + 1) l_0 =
 spec_l30Ids.l0 k k l_0 0 := by kernel_rfl
theorem spec_l30Ids.l0_eq (k m : Nat) (l_0 : (List Int)) (i_3 : Int) : spec_l30Ids.l0 k (m + 1) l_0 i_3 =
 if (i_3 : Int) < ((List.length l_0 : Nat) : Int) then
 if 0 ≤ i_3 then
 if i_3 < ((List.length l_0 : Nat) : Int) then
 (spec_l1In k (rd (.int .i64) l_0 i_3) 1 99).bind fun r1 =>
 if ¬ (r1 = true) then
 some false
 else if (0 : Int) < i_3 then
 if 0 ≤ (IntKind.wrap .i64 (i_3 - 1)) then
 if (IntKind.wrap .i64 (i_3 - 1)) < ((List.length l_0 : Nat) : Int) then
 if 0 ≤ i_3 then
 if i_3 < ((List.length l_0 : Nat) : Int) then
 if LE.le (α := Int) (rd (.int .i64) l_0 i_3) (rd (.int .i64) l_0 (IntKind.wrap .i64 (i_3 - 1))) then
 some false
 else spec_l30Ids.l0 k m l_0 (IntKind.wrap .i64 (i_3 + 1)) else none else none else none else none
 else spec_l30Ids.l0 k m l_0 (IntKind.wrap .i64 (i_3 + 1)) else none else none
 else some true := by kernel_rfl
theorem spec_OrderCost_eq (k : Nat) (l_0 : (List DT31)) (order_1 : (List Int)) : spec_OrderCost (k + 1) l_0 order_1 =
 (spec_AreWorks k l_0).bind fun r1 =>
 if ¬ (r1 = true) then
 some (-1)
 else if (((List.length order_1 : Nat) : Int) : Int) ≠ ((List.length l_0 : Nat) : Int) then
 some (-1)
 else spec_OrderCost.l0 k k l_0 order_1 0 0 := by kernel_rfl
theorem spec_OrderCost.l0_eq (k m : Nat) (l_0 : (List DT31)) (order_1 : (List Int)) (n_5 : Int) (i_6 : Int) : spec_OrderCost.l0 k (m + 1) l_0 order_1 n_5 i_6 =
 if (i_6 : Int) < ((List.length order_1 : Nat) : Int) then
 if 0 ≤ i_6 then
 if i_6 < ((List.length order_1 : Nat) : Int) then
 (spec_l1In k (rd (.int .i64) order_1 i_6) 0 (IntKind.wrap .i64 (((List.length l_0 : Nat) : Int) - 1))).bind fun r2 =>
 if ¬ (r2 = true) then
 some (-1)
 else if 0 ≤ i_6 then
 if i_6 ≤ ((List.length order_1 : Nat) : Int) then
 if 0 ≤ i_6 then
 if i_6 < ((List.length order_1 : Nat) : Int) then
 (spec_l27Has k (List.take ((Int.toNat i_6) - (Int.toNat 0)) (List.drop (Int.toNat 0) order_1)) (rd (.int .i64) order_1 i_6)).bind fun r3 =>
 if r3 = true then
 some (-1)
 else if (0 : Int) < i_6 then
 if 0 ≤ (IntKind.wrap .i64 (i_6 - 1)) then
 if (IntKind.wrap .i64 (i_6 - 1)) < ((List.length order_1 : Nat) : Int) then
 if LE.le (α := Int) 0 (rd (.int .i64) order_1 (IntKind.wrap .i64 (i_6 - 1))) then
 if LT.lt (α := Int) (rd (.int .i64) order_1 (IntKind.wrap .i64 (i_6 - 1))) ((List.length l_0 : Nat) : Int) then
 if 0 ≤ i_6 then
 if i_6 < ((List.length order_1 : Nat) : Int) then
 if LE.le (α := Int) 0 (rd (.int .i64) order_1 i_6) then
 if LT.lt (α := Int) (rd (.int .i64) order_1 i_6) ((List.length l_0 : Nat) : Int) then
 (spec_Moves k (rd T31 l_0 (rd (.int .i64) order_1 (IntKind.wrap .i64 (i_6 - 1)))) (rd T31 l_0 (rd (.int .i64) order_1 i_6))).bind fun r4 =>
 spec_OrderCost.l0 k m l_0 order_1 (IntKind.wrap .i64 (n_5 + r4)) (IntKind.wrap .i64 (i_6 + 1)) else none else none else none else none else none else none else none else none
 else spec_OrderCost.l0 k m l_0 order_1 n_5 (IntKind.wrap .i64 (i_6 + 1)) else none else none else none else none else none else none
 else some n_5 := by kernel_rfl
theorem spec_l27Has_eq (k : Nat) (l_0 : (List Int)) (n_1 : Int) : spec_l27Has (k + 1) l_0 n_1 =
 spec_l27Has.l0 k k l_0 n_1 0 := by kernel_rfl
theorem spec_l27Has.l0_eq (k m : Nat) (l_0 : (List Int)) (n_1 : Int) (i_5 : Int) : spec_l27Has.l0 k (m + 1) l_0 n_1 i_5 =
 if (i_5 : Int) < ((List.length l_0 : Nat) : Int) then
 if 0 ≤ i_5 then
 if i_5 < ((List.length l_0 : Nat) : Int) then
 if Eq (α := Int) (rd (.int .i64) l_0 i_5) n_1 then
 some true
 else spec_l27Has.l0 k m l_0 n_1 (IntKind.wrap .i64 (i_5 + 1)) else none else none
 else some false := by kernel_rfl
theorem spec_Moves_eq (k : Nat) (a_0 : DT31) (b_1 : DT31) : spec_Moves (k + 1) a_0 b_1 =
 spec_Moves.l0 k k 0 0 a_0.1 a_0.2.1 b_1.1 b_1.2.1 := by kernel_rfl
theorem spec_Moves.l0_eq (k m : Nat) (n_5 : Int) (i_6 : Int) (b0_0 : Int) (b0_1 : (List Int)) (b1_0 : Int) (b1_1 : (List Int)) : spec_Moves.l0 k (m + 1) n_5 i_6 b0_0 b0_1 b1_0 b1_1 =
 if (i_6 : Int) < ((List.length b0_1 : Nat) : Int) then
 if 0 ≤ i_6 then
 if i_6 < ((List.length b0_1 : Nat) : Int) then
 (spec_l27Has k b1_1 (rd (.int .i64) b0_1 i_6)).bind fun r1 =>
 if ¬ (r1 = true) then
 spec_Moves.l0 k m (IntKind.wrap .i64 (n_5 + 1)) (IntKind.wrap .i64 (i_6 + 1)) b0_0 b0_1 b1_0 b1_1
 else spec_Moves.l0 k m n_5 (IntKind.wrap .i64 (i_6 + 1)) b0_0 b0_1 b1_0 b1_1 else none else none
 else spec_Moves.l1 k k n_5 i_6 0 b0_0 b0_1 b1_0 b1_1 := by kernel_rfl
theorem spec_Moves.l1_eq (k m : Nat) (n_5 : Int) (i_6 : Int) (i_7 : Int) (b0_0 : Int) (b0_1 : (List Int)) (b1_0 : Int) (b1_1 : (List Int)) : spec_Moves.l1 k (m + 1) n_5 i_6 i_7 b0_0 b0_1 b1_0 b1_1 =
 if (i_7 : Int) < ((List.length b1_1 : Nat) : Int) then
 if 0 ≤ i_7 then
 if i_7 < ((List.length b1_1 : Nat) : Int) then
 (spec_l27Has k b0_1 (rd (.int .i64) b1_1 i_7)).bind fun r2 =>
 if ¬ (r2 = true) then
 spec_Moves.l1 k m (IntKind.wrap .i64 (n_5 + 1)) i_6 (IntKind.wrap .i64 (i_7 + 1)) b0_0 b0_1 b1_0 b1_1
 else spec_Moves.l1 k m n_5 i_6 (IntKind.wrap .i64 (i_7 + 1)) b0_0 b0_1 b1_0 b1_1 else none else none
 else some n_5 := by kernel_rfl
end Go.QFnExactBestOrder
