/- The functions that the law FnExactCountHappenings reaches, as equations; printed by pe.py. No condition. -/
import Derived.Test.YtboaihbcaoofcaaEv
import Derived.Test.YtboaihbcaoofcaaProg
import Derived.KernelRfl
set_option linter.unusedVariables false
open Go Go.Flat
namespace Go.QFnExactCountHappenings
abbrev T43 : Ty := .pair (.int .i64) (.pair (.int .i64) .unit)
abbrev DT43 := Int × (Int × Unit)
abbrev T158 : Ty := .pair (.int .i64) T43
abbrev DT158 := Int × DT43
abbrev T74 : Ty := .pair (.int .i64) T158
abbrev DT74 := Int × DT158
abbrev T78 : Ty := .pair (.int .i64) (.pair (.int .i64) (.pair (.int .i64) (.pair (.list (.int .i64)) .unit)))
abbrev DT78 := Int × (Int × (Int × ((List Int) × Unit)))
abbrev T80 : Ty := .pair (.int .i64) T74
abbrev DT80 := Int × DT74
abbrev T82 : Ty := .pair (.int .i64) (.pair (.int .i64) (.pair T74 (.pair T43 (.pair T78 (.pair T80 .unit)))))
abbrev DT82 := Int × (Int × (DT74 × (DT43 × (DT78 × (DT80 × Unit)))))
abbrev T50 : Ty := .pair (.list T74) (.pair T43 (.pair (.list T43) (.pair (.list T78) (.pair (.list (.int .i64)) (.pair (.list T80) (.pair (.list T43) T43))))))
abbrev DT50 := (List DT74) × (DT43 × ((List DT43) × ((List DT78) × ((List Int) × ((List DT80) × ((List DT43) × DT43))))))
noncomputable def C : Cfg := {
  P := Go.Proofs.Try.prog,
  tt := [(1, none), (2, some (.int .i64)), (3, some (.int .i64)), (4, some .bool), (5, some (.int .u8)), (6, some (.int .u8)), (9, some .str), (10, some .str), (11, some .str), (12, some (.int .u64)), (15, none), (16, none), (17, none), (21, some (.int .i32)), (22, some (.list T43)), (23, none), (24, none), (25, some (.list T43)), (26, none), (27, none), (28, none), (29, some (.list T82)), (30, none), (31, none), (32, some (.list T82)), (33, none), (34, none), (35, none), (36, some (.list T74)), (37, none), (38, none), (39, some (.list T74)), (40, none), (41, none), (42, none), (43, some T43), (44, some T43), (45, some (.list T43)), (46, some (.list T78)), (47, some (.list (.int .i64))), (48, some (.list T80)), (49, some (.list T43)), (50, some T50), (51, some T50), (52, none), (53, none), (54, some T43), (55, some (.list T43)), (56, some (.list T78)), (57, some (.list T80)), (58, some (.list T43)), (59, some T50), (60, some T50), (61, none), (62, none), (63, none), (64, some (.list .str)), (65, none), (66, some T43), (67, some T43), (68, none), (69, none), (70, some T43), (71, none), (72, none), (73, none), (74, some T74), (75, some T74), (76, some T43), (77, some T43), (78, some T78), (79, some T78), (80, some T80), (81, some T80), (82, some T82), (83, some T82), (84, some T74), (85, some T43), (86, some T78), (87, some T80), (88, some T82), (89, some T82), (90, none), (91, none), (92, none), (93, none), (94, none), (95, none), (96, none), (97, none), (98, none), (99, none), (100, none), (101, some (.list (.list T158))), (103, none), (104, none), (105, none), (106, none), (107, none), (108, none), (109, none), (110, none), (111, none), (112, none), (113, none), (114, none), (115, none), (116, none), (117, none), (118, none), (119, none), (120, none), (121, none), (122, none), (123, none), (124, none), (125, none), (126, none), (127, none), (128, none), (129, none), (130, none), (131, none), (132, some (.list T158)), (134, none), (136, none), (137, none), (138, some T43), (139, some T43), (140, none), (141, some T43), (142, none), (143, none), (144, some (.list (.int .u8))), (147, none), (151, none), (152, none), (153, none), (154, none), (155, none), (156, none), (157, some (.int .u64)), (158, some T158), (159, some T158), (160, none), (161, none), (162, none), (163, none), (164, none), (165, none), (166, none), (167, none), (168, some (.int .i64)), (170, none), (171, none), (172, none), (173, none), (175, none), (176, none), (177, some (.int .u32)), (178, none), (179, some (.int .u64)), (180, none), (181, none), (183, none), (184, none), (185, some (.int .u64)), (186, none), (187, none), (188, none), (189, none), (190, none), (191, none), (192, none), (193, none), (194, none), (195, none), (196, none), (198, none), (199, none), (200, none), (201, none), (207, none), (208, some (.int .u8)), (209, some (.int .u8)), (210, none), (211, some (.int .i32)), (212, some (.int .i32)), (215, none)],
  vars := [(12, [0, 1, 5]), (13, [0, 1, 5, 6]), (14, [0, 3, 4]), (15, [1, 5, 8, 9, 10]), (16, [0, 1, 5]), (52, [0, 3, 4]), (60, [0, 1, 5])],
  sigs := [] }
noncomputable def laws_FnExactCountHappenings (k : Nat) (aList_0 : (List DT82)) (aKind_1 : Int) : Option Bool := run C k 4 .bool [.val (.list T82) aList_0, .val (.int .i64) aKind_1]
noncomputable def laws_szHappeningS (k : Nat) (a_0 : (List DT82)) (left_1 : Int) : Option Int := run C k 12 (.int .i64) [.val (.list T82) a_0, .val (.int .i64) left_1]
noncomputable def laws_szHappeningS.l0 (k m : Nat) (a_0 : (List DT82)) (left_1 : Int) (i_5 : Int) : Option Int := loopRun C k 12 (.int .i64) [0, 0] [.r, .r, .r, .l, .r, .b] [] [0, 1, 5] m ⟨[.one (.cell (.list false T82 a_0)), .one (.cell (.int .i64 left_1)), .one (.cell (.int .i64 i_5))], []⟩
noncomputable def laws_toHappeningS (k : Nat) (a_0 : (List DT82)) : Option (List DT82) := run C k 14 (.list T82) [.val (.list T82) a_0]
noncomputable def laws_toHappeningS.l0 (k m : Nat) (a_0 : (List DT82)) (i_4 : Int) (s0 : (List DT82)) : Option (List DT82) := loopRun C k 14 (.list T82) [0] [.r, .r, .l, .r, .b] [] [0, 3, 4] m ⟨[.one (.cell (.list false T82 a_0)), .one (.cell (.ref 1)), .one (.cell (.int .i64 i_4))], [.arr T82 s0 .open]⟩
noncomputable def spec_CountHappenings (k : Nat) (list_0 : (List DT82)) (kind_1 : Int) : Option Int := run C k 13 (.int .i64) [.val (.list T82) list_0, .val (.int .i64) kind_1]
noncomputable def spec_CountHappenings.l0 (k m : Nat) (list_0 : (List DT82)) (kind_1 : Int) (n_5 : Int) (i_6 : Int) : Option Int := loopRun C k 13 (.int .i64) [0, 0] [.r, .r, .l, .r, .b] [] [0, 1, 5, 6] m ⟨[.one (.cell (.list false T82 list_0)), .one (.cell (.int .i64 kind_1)), .one (.cell (.int .i64 n_5)), .one (.cell (.int .i64 i_6))], []⟩
noncomputable def impl_CountHappenings (k : Nat) (list_0 : (List DT82)) (kind_1 : Int) : Option Int := run C k 15 (.int .i64) [.val (.list T82) list_0, .val (.int .i64) kind_1]
noncomputable def impl_CountHappenings.l0 (k m : Nat) (kind_1 : Int) (count_5 : Int) (t_8 : (List DT82)) (t_9 : Int) (t_10 : Int) : Option Int := loopRun C k 15 (.int .i64) [0, 0] [.r, .r, .l, .r, .b] [] [1, 5, 8, 9, 10] m ⟨[.one (.cell (.int .i64 kind_1)), .one (.cell (.int .i64 count_5)), .one (.cell (.list false T82 t_8)), .one (.cell (.int .i64 t_9)), .one (.cell (.int .i64 t_10))], []⟩
noncomputable def laws_eqHappeningS (k : Nat) (a_0 : (List DT82)) (b_1 : (List DT82)) : Option Bool := run C k 16 .bool [.val (.list T82) a_0, .val (.list T82) b_1]
noncomputable def laws_eqHappeningS.l0 (k m : Nat) (a_0 : (List DT82)) (b_1 : (List DT82)) (i_5 : Int) : Option Bool := loopRun C k 16 .bool [0, 0] [.r, .r, .l, .r, .b] [] [0, 1, 5] m ⟨[.one (.cell (.list false T82 a_0)), .one (.cell (.list false T82 b_1)), .one (.cell (.int .i64 i_5))], []⟩
noncomputable def laws_szHappening (k : Nat) (a_0 : DT82) (left_1 : Int) : Option Int := run C k 33 (.int .i64) [.val T82 a_0, .val (.int .i64) left_1]
noncomputable def laws_toHappening (k : Nat) (a_0 : DT82) : Option DT82 := run C k 34 T82 [.val T82 a_0]
noncomputable def laws_eqHappening (k : Nat) (a_0 : DT82) (b_1 : DT82) : Option Bool := run C k 35 .bool [.val T82 a_0, .val T82 b_1]
noncomputable def laws_szPlayer (k : Nat) (a_0 : DT78) (left_1 : Int) : Option Int := run C k 66 (.int .i64) [.val T78 a_0, .val (.int .i64) left_1]
noncomputable def laws_toEvent (k : Nat) (a_0 : DT74) : Option DT74 := run C k 38 T74 [.val T74 a_0]
noncomputable def laws_toTempo (k : Nat) (a_0 : DT43) : Option DT43 := run C k 67 T43 [.val T43 a_0]
noncomputable def laws_toPlayer (k : Nat) (a_0 : DT78) : Option DT78 := run C k 68 T78 [.val T78 a_0]
noncomputable def laws_toMark (k : Nat) (a_0 : DT80) : Option DT80 := run C k 69 T80 [.val T80 a_0]
noncomputable def laws_eqEvent (k : Nat) (a_0 : DT74) (b_1 : DT74) : Option Bool := run C k 41 .bool [.val T74 a_0, .val T74 b_1]
noncomputable def laws_eqTempo (k : Nat) (a_0 : DT43) (b_1 : DT43) : Option Bool := run C k 70 .bool [.val T43 a_0, .val T43 b_1]
noncomputable def laws_eqPlayer (k : Nat) (a_0 : DT78) (b_1 : DT78) : Option Bool := run C k 71 .bool [.val T78 a_0, .val T78 b_1]
noncomputable def laws_eqMark (k : Nat) (a_0 : DT80) (b_1 : DT80) : Option Bool := run C k 72 .bool [.val T80 a_0, .val T80 b_1]
noncomputable def laws_szIntS (k : Nat) (a_0 : (List Int)) (left_1 : Int) : Option Int := run C k 44 (.int .i64) [.val (.list (.int .i64)) a_0, .val (.int .i64) left_1]
noncomputable def laws_toIntS (k : Nat) (a_0 : (List Int)) : Option (List Int) := run C k 52 (.list (.int .i64)) [.val (.list (.int .i64)) a_0]
noncomputable def laws_toIntS.l0 (k m : Nat) (a_0 : (List Int)) (i_4 : Int) (s0 : (List Int)) : Option (List Int) := loopRun C k 52 (.list (.int .i64)) [0] [.r, .r, .l, .r, .b] [] [0, 3, 4] m ⟨[.one (.cell (.list false (.int .i64) a_0)), .one (.cell (.ref 1)), .one (.cell (.int .i64 i_4))], [.arr (.int .i64) s0 .open]⟩
noncomputable def laws_eqIntS (k : Nat) (a_0 : (List Int)) (b_1 : (List Int)) : Option Bool := run C k 60 .bool [.val (.list (.int .i64)) a_0, .val (.list (.int .i64)) b_1]
noncomputable def laws_eqIntS.l0 (k m : Nat) (a_0 : (List Int)) (b_1 : (List Int)) (i_5 : Int) : Option Bool := loopRun C k 60 .bool [0, 0] [.r, .r, .l, .r, .b] [] [0, 1, 5] m ⟨[.one (.cell (.list false (.int .i64) a_0)), .one (.cell (.list false (.int .i64) b_1)), .one (.cell (.int .i64 i_5))], []⟩
theorem laws_FnExactCountHappenings_eq (k : Nat) (aList_0 : (List DT82)) (aKind_1 : Int) : laws_FnExactCountHappenings (k + 1) aList_0 aKind_1 =
 (laws_szHappeningS k aList_0 1048576).bind fun r1 =>
 if (r1 : Int) < 0 then
 some true
 else (laws_toHappeningS k aList_0).bind fun r2 =>
 (spec_CountHappenings k r2 aKind_1).bind fun r3 =>
 (laws_toHappeningS k aList_0).bind fun r4 =>
 (impl_CountHappenings k r4 aKind_1).bind fun r5 =>
 if (r5 : Int) ≠ r3 then
 some false
 else (laws_toHappeningS k aList_0).bind fun r6 =>
 (laws_eqHappeningS k r4 r6).bind fun r7 =>
 if ¬ (r7 = true) then
 some false
 else some true := by kernel_rfl
theorem laws_szHappeningS_eq (k : Nat) (a_0 : (List DT82)) (left_1 : Int) : laws_szHappeningS (k + 1) a_0 left_1 =
 if ((IntKind.wrap .i64 (left_1 - ((List.length a_0 : Nat) : Int))) : Int) < 0 then
 some (-1)
 else laws_szHappeningS.l0 k k a_0 (IntKind.wrap .i64 (left_1 - ((List.length a_0 : Nat) : Int))) 0 := by kernel_rfl
theorem laws_szHappeningS.l0_eq (k m : Nat) (a_0 : (List DT82)) (left_1 : Int) (i_5 : Int) : laws_szHappeningS.l0 k (m + 1) a_0 left_1 i_5 =
 if (i_5 : Int) < ((List.length a_0 : Nat) : Int) then
 if 0 ≤ i_5 then
 if i_5 < ((List.length a_0 : Nat) : Int) then
 (laws_szHappening k (rd T82 a_0 i_5) left_1).bind fun r1 =>
 if (r1 : Int) < 0 then
 some (-1)
 else laws_szHappeningS.l0 k m a_0 r1 (IntKind.wrap .i64 (i_5 + 1)) else none else none
 else some left_1 := by kernel_rfl
theorem laws_toHappeningS_eq (k : Nat) (a_0 : (List DT82)) : laws_toHappeningS (k + 1) a_0 =
 if 0 ≤ ((List.length a_0 : Nat) : Int) then
 if ((List.length a_0 : Nat) : Int) ≤ ((List.length a_0 : Nat) : Int) then
 if ((List.length a_0 : Nat) : Int) * 152 ≤ 211106232532992 then
 laws_toHappeningS.l0 k k a_0 0 (List.replicate (Int.toNat ((List.length a_0 : Nat) : Int)) (Ty.dflt T82)) else none else none else none := by kernel_rfl
theorem laws_toHappeningS.l0_eq (k m : Nat) (a_0 : (List DT82)) (i_4 : Int) (s0 : (List DT82)) : laws_toHappeningS.l0 k (m + 1) a_0 i_4 s0 =
 if (i_4 : Int) < ((List.length a_0 : Nat) : Int) then
 if 0 ≤ i_4 then
 if i_4 < ((List.length a_0 : Nat) : Int) then
 (laws_toHappening k (rd T82 a_0 i_4)).bind fun r1 =>
 if 0 ≤ i_4 then
 if i_4 < ((List.length s0 : Nat) : Int) then
 laws_toHappeningS.l0 k m a_0 (IntKind.wrap .i64 (i_4 + 1)) (List.set s0 (Int.toNat i_4) r1) else none else none else none else none
 else some s0 := by kernel_rfl
theorem spec_CountHappenings_eq (k : Nat) (list_0 : (List DT82)) (kind_1 : Int) : spec_CountHappenings (k + 1) list_0 kind_1 =
 spec_CountHappenings.l0 k k list_0 kind_1 0 0 := by kernel_rfl
theorem spec_CountHappenings.l0_eq (k m : Nat) (list_0 : (List DT82)) (kind_1 : Int) (n_5 : Int) (i_6 : Int) : spec_CountHappenings.l0 k (m + 1) list_0 kind_1 n_5 i_6 =
 if (i_6 : Int) < ((List.length list_0 : Nat) : Int) then
 if 0 ≤ i_6 then
 if i_6 < ((List.length list_0 : Nat) : Int) then
 if Eq (α := Int) (rd T82 list_0 i_6).1 kind_1 then
 spec_CountHappenings.l0 k m list_0 kind_1 (IntKind.wrap .i64 (n_5 + 1)) (IntKind.wrap .i64 (i_6 + 1))
 else spec_CountHappenings.l0 k m list_0 kind_1 n_5 (IntKind.wrap .i64 (i_6 + 1)) else none else none
 else some n_5 := by kernel_rfl
theorem impl_CountHappenings_eq (k : Nat) (list_0 : (List DT82)) (kind_1 : Int) : impl_CountHappenings (k + 1) list_0 kind_1 =
 impl_CountHappenings.l0 k k kind_1 0 list_0 ((List.length list_0 : Nat) : Int) 0 := by kernel_rfl
theorem impl_CountHappenings.l0_eq (k m : Nat) (kind_1 : Int) (count_5 : Int) (t_8 : (List DT82)) (t_9 : Int) (t_10 : Int) : impl_CountHappenings.l0 k (m + 1) kind_1 count_5 t_8 t_9 t_10 =
 if (t_10 : Int) < t_9 then
 if 0 ≤ t_10 then
 if t_10 < ((List.length t_8 : Nat) : Int) then
 if Eq (α := Int) (rd T82 t_8 t_10).1 kind_1 then
 impl_CountHappenings.l0 k m kind_1 (IntKind.wrap .i64 (count_5 + 1)) t_8 t_9 (IntKind.wrap .i64 (t_10 + 1))
 else impl_CountHappenings.l0 k m kind_1 count_5 t_8 t_9 (IntKind.wrap .i64 (t_10 + 1)) else none else none
 else some count_5 := by kernel_rfl
theorem laws_eqHappeningS_eq (k : Nat) (a_0 : (List DT82)) (b_1 : (List DT82)) : laws_eqHappeningS (k + 1) a_0 b_1 =
 if (((List.length a_0 : Nat) : Int) : Int) ≠ ((List.length b_1 : Nat) : Int) then
 some false
 else laws_eqHappeningS.l0 k k a_0 b_1 0 := by kernel_rfl
theorem laws_eqHappeningS.l0_eq (k m : Nat) (a_0 : (List DT82)) (b_1 : (List DT82)) (i_5 : Int) : laws_eqHappeningS.l0 k (m + 1) a_0 b_1 i_5 =
 if (i_5 : Int) < ((List.length a_0 : Nat) : Int) then
 if 0 ≤ i_5 then
 if i_5 < ((List.length a_0 : Nat) : Int) then
 if 0 ≤ i_5 then
 if i_5 < ((List.length b_1 : Nat) : Int) then
 (laws_eqHappening k (rd T82 a_0 i_5) (rd T82 b_1 i_5)).bind fun r1 =>
 if ¬ (r1 = true) then
 some false
 else laws_eqHappeningS.l0 k m a_0 b_1 (IntKind.wrap .i64 (i_5 + 1)) else none else none else none else none
 else some true := by kernel_rfl
theorem laws_szHappening_eq (k : Nat) (a_0 : DT82) (left_1 : Int) : laws_szHappening (k + 1) a_0 left_1 =
 (laws_szPlayer k a_0.2.2.2.2.1 left_1).bind fun r1 =>
 if (r1 : Int) < 0 then
 some (-1)
 else some r1 := by kernel_rfl
theorem laws_toHappening_eq (k : Nat) (a_0 : DT82) : laws_toHappening (k + 1) a_0 =
 (laws_toEvent k a_0.2.2.1).bind fun r1 =>
 (laws_toTempo k a_0.2.2.2.1).bind fun r2 =>
 (laws_toPlayer k a_0.2.2.2.2.1).bind fun r3 =>
 (laws_toMark k a_0.2.2.2.2.2.1).bind fun r4 =>
 some (a_0.1, (a_0.2.1, (r1, (r2, (r3, (r4, ())))))) := by kernel_rfl
theorem laws_eqHappening_eq (k : Nat) (a_0 : DT82) (b_1 : DT82) : laws_eqHappening (k + 1) a_0 b_1 =
 if (a_0.1 : Int) ≠ b_1.1 then
 some false
 else if (a_0.2.1 : Int) ≠ b_1.2.1 then
 some false
 else (laws_eqEvent k a_0.2.2.1 b_1.2.2.1).bind fun r1 =>
 if ¬ (r1 = true) then
 some false
 else (laws_eqTempo k a_0.2.2.2.1 b_1.2.2.2.1).bind fun r2 =>
 if ¬ (r2 = true) then
 some false
 else (laws_eqPlayer k a_0.2.2.2.2.1 b_1.2.2.2.2.1).bind fun r3 =>
 if ¬ (r3 = true) then
 some false
 else (laws_eqMark k a_0.2.2.2.2.2.1 b_1.2.2.2.2.2.1).bind fun r4 =>
 if ¬ (r4 = true) then
 some false
 else some true := by kernel_rfl
theorem laws_szPlayer_eq (k : Nat) (a_0 : DT78) (left_1 : Int) : laws_szPlayer (k + 1) a_0 left_1 =
 (laws_szIntS k a_0.2.2.2.1 left_1).bind fun r1 =>
 if (r1 : Int) < 0 then
 some (-1)
 else some r1 := by kernel_rfl
theorem laws_toEvent_eq (k : Nat) (a_0 : DT74) : laws_toEvent (k + 1) a_0 =
 some a_0 := by kernel_rfl
theorem laws_toTempo_eq (k : Nat) (a_0 : DT43) : laws_toTempo (k + 1) a_0 =
 some a_0 := by kernel_rfl
theorem laws_toPlayer_eq (k : Nat) (a_0 : DT78) : laws_toPlayer (k + 1) a_0 =
 (laws_toIntS k a_0.2.2.2.1).bind fun r1 =>
 some (a_0.1, (a_0.2.1, (a_0.2.2.1, (r1, ())))) := by kernel_rfl
theorem laws_toMark_eq (k : Nat) (a_0 : DT80) : laws_toMark (k + 1) a_0 =
 some a_0 := by kernel_rfl
theorem laws_eqEvent_eq (k : Nat) (a_0 : DT74) (b_1 : DT74) : laws_eqEvent (k + 1) a_0 b_1 =
 if (a_0.1 : Int) ≠ b_1.1 then
 some false
 else if (a_0.2.1 : Int) ≠ b_1.2.1 then
 some false
 else if (a_0.2.2.1 : Int) ≠ b_1.2.2.1 then
 some false
 else if (a_0.2.2.2.1 : Int) ≠ b_1.2.2.2.1 then
 some false
 else some true := by kernel_rfl
theorem laws_eqTempo_eq (k : Nat) (a_0 : DT43) (b_1 : DT43) : laws_eqTempo (k + 1) a_0 b_1 =
 if (a_0.1 : Int) ≠ b_1.1 then
 some false
 else if (a_0.2.1 : Int) ≠ b_1.2.1 then
 some false
 else some true := by kernel_rfl
theorem laws_eqPlayer_eq (k : Nat) (a_0 : DT78) (b_1 : DT78) : laws_eqPlayer (k + 1) a_0 b_1 =
 if (a_0.1 : Int) ≠ b_1.1 then
 some false
 else if (a_0.2.1 : Int) ≠ b_1.2.1 then
 some false
 else if (a_0.2.2.1 : Int) ≠ b_1.2.2.1 then
 some false
 else (laws_eqIntS k a_0.2.2.2.1 b_1.2.2.2.1).bind fun r1 =>
 if ¬ (r1 = true) then
 some false
 else some true := by kernel_rfl
theorem laws_eqMark_eq (k : Nat) (a_0 : DT80) (b_1 : DT80) : laws_eqMark (k + 1) a_0 b_1 =
 if (a_0.1 : Int) ≠ b_1.1 then
 some false
 else if (a_0.2.1 : Int) ≠ b_1.2.1 then
 some false
 else if (a_0.2.2.1 : Int) ≠ b_1.2.2.1 then
 some false
 else if (a_0.2.2.2.1 : Int) ≠ b_1.2.2.2.1 then
 some false
 else if (a_0.2.2.2.2.1 : Int) ≠ b_1.2.2.2.2.1 then
 some false
 else some true := by kernel_rfl
theorem laws_szIntS_eq (k : Nat) (a_0 : (List Int)) (left_1 : Int) : laws_szIntS (k + 1) a_0 left_1 =
 if ((IntKind.wrap .i64 (left_1 - ((List.length a_0 : Nat) : Int))) : Int) < 0 then
 some (-1)
 else some (IntKind.wrap .i64 (left_1 - ((List.length a_0 : Nat) : Int))) := by kernel_rfl
theorem laws_toIntS_eq (k : Nat) (a_0 : (List Int)) : laws_toIntS (k + 1) a_0 =
 if 0 ≤ ((List.length a_0 : Nat) : Int) then
 if ((List.length a_0 : Nat) : Int) ≤ ((List.length a_0 : Nat) : Int) then
 if ((List.length a_0 : Nat) : Int) * 8 ≤ 211106232532992 then
 laws_toIntS.l0 k k a_0 0 (List.replicate (Int.toNat ((List.length a_0 : Nat) : Int)) (Ty.dflt (.int .i64))) else none else none else none := by kernel_rfl
theorem laws_toIntS.l0_eq (k m : Nat) (a_0 : (List Int)) (i_4 : Int) (s0 : (List Int)) : laws_toIntS.l0 k (m + 1) a_0 i_4 s0 =
 if (i_4 : Int) < ((List.length a_0 : Nat) : Int) then
 if 0 ≤ i_4 then
 if i_4 < ((List.length a_0 : Nat) : Int) then
 if 0 ≤ i_4 then
 if i_4 < ((List.length s0 : Nat) : Int) then
 laws_toIntS.l0 k m a_0 (IntKind.wrap .i64 (i_4 + 1)) (List.set s0 (Int.toNat i_4) (rd (.int .i64) a_0 i_4)) else none else none else none else none
 else some s0 := by kernel_rfl
theorem laws_eqIntS_eq (k : Nat) (a_0 : (List Int)) (b_1 : (List Int)) : laws_eqIntS (k + 1) a_0 b_1 =
 if (((List.length a_0 : Nat) : Int) : Int) ≠ ((List.length b_1 : Nat) : Int) then
 some false
 else laws_eqIntS.l0 k k a_0 b_1 0 := by kernel_rfl
theorem laws_eqIntS.l0_eq (k m : Nat) (a_0 : (List Int)) (b_1 : (List Int)) (i_5 : Int) : laws_eqIntS.l0 k (m + 1) a_0 b_1 i_5 =
 if (i_5 : Int) < ((List.length a_0 : Nat) : Int) then
 if 0 ≤ i_5 then
 if i_5 < ((List.length a_0 : Nat) : Int) then
 if 0 ≤ i_5 then
 if i_5 < ((List.length b_1 : Nat) : Int) then
 if Ne (α := Int) (rd (.int .i64) a_0 i_5) (rd (.int .i64) b_1 i_5) then
 some false
 else laws_eqIntS.l0 k m a_0 b_1 (IntKind.wrap .i64 (i_5 + 1)) else none else none else none else none
 else some true := by kernel_rfl
end Go.QFnExactCountHappenings
