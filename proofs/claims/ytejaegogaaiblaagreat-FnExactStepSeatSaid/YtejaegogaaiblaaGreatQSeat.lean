/- What impl.SeatPlayers calls, as equations; printed by pe.py. No condition. -/
import Derived.Test.YtejaegogaaiblaaGreatEv
import Derived.Test.YtejaegogaaiblaaGreatProg
import Derived.KernelRfl
set_option linter.unusedVariables false
open Go Go.Flat
namespace Go.QSeat
abbrev T23 : Ty := .pair (.int .i64) (.pair (.int .i64) .unit)
abbrev DT23 := Int × (Int × Unit)
abbrev T49 : Ty := .pair (.int .i64) (.pair (.int .i64) T23)
abbrev DT49 := Int × (Int × DT23)
abbrev T61 : Ty := .pair (.int .i64) (.pair (.int .i64) (.pair (.int .i64) (.pair (.list (.int .i64)) .unit)))
abbrev DT61 := Int × (Int × (Int × ((List Int) × Unit)))
abbrev T131 : Ty := .pair (.int .i64) T49
abbrev DT131 := Int × DT49
abbrev T30 : Ty := .pair (.list T49) (.pair T23 (.pair (.list T23) (.pair (.dlist T61) (.pair (.list (.int .i64)) (.pair (.list T131) (.pair (.list T23) T23))))))
abbrev DT30 := (List DT49) × (DT23 × ((List DT23) × ((List DT61) × ((List Int) × ((List DT131) × ((List DT23) × DT23))))))
abbrev T161 : Ty := .pair (.list (.int .u8)) T23
abbrev DT161 := (List Int) × DT23
noncomputable def C : Cfg := {
  P := Go.Proofs.Tryz.prog,
  tt := [(1, none), (2, some (.int .i64)), (3, some (.int .i64)), (4, some .bool), (5, some (.int .u8)), (6, some (.int .u8)), (9, some .str), (10, some .str), (11, some .str), (12, some (.int .u64)), (15, none), (16, none), (17, none), (21, some (.int .i32)), (22, some (.list T49)), (23, some T23), (24, some T23), (25, some (.list T23)), (26, some (.dlist T61)), (27, some (.list (.int .i64))), (28, some (.list T131)), (29, some (.list T23)), (30, some T30), (31, some T30), (32, none), (33, some (.list T49)), (34, some T23), (35, some (.list T23)), (36, some (.dlist T61)), (37, some (.list T131)), (38, some (.list T23)), (39, some T30), (40, some T30), (42, none), (43, none), (44, none), (45, none), (46, none), (47, some (.list (.int .u8))), (48, none), (49, some T49), (50, some T49), (52, none), (53, none), (54, some T23), (55, some T23), (57, none), (58, none), (60, none), (61, some T61), (62, some T61), (64, none), (65, none), (67, none), (68, none), (69, none), (70, none), (71, none), (72, none), (73, some T61), (74, none), (75, none), (76, none), (77, none), (78, none), (79, none), (80, none), (81, none), (82, none), (83, none), (84, none), (85, none), (87, none), (88, none), (89, none), (90, none), (91, none), (92, none), (93, none), (94, none), (95, none), (96, none), (97, none), (98, none), (99, none), (100, none), (101, none), (102, none), (103, none), (104, none), (105, none), (106, none), (107, none), (108, none), (109, none), (110, none), (111, none), (112, none), (113, none), (114, none), (115, none), (117, none), (118, none), (119, none), (120, none), (121, none), (122, none), (123, none), (125, none), (126, none), (127, none), (128, none), (129, none), (130, none), (131, some T131), (132, some T131), (133, none), (134, none), (135, none), (136, none), (137, none), (138, none), (139, none), (140, none), (141, some T23), (142, some T23), (143, none), (144, none), (145, none), (146, none), (147, some T49), (148, none), (149, some T23), (150, none), (151, some T131), (152, none), (153, some T23), (154, none), (155, none), (156, none), (157, none), (158, none), (159, none), (160, none), (161, some T161), (162, some T161), (163, none), (164, none), (165, none), (166, none), (167, none), (168, none), (169, none), (170, none), (171, none), (172, none), (173, none), (174, none), (175, none), (176, none), (177, none), (178, none), (179, none), (180, none), (181, none), (182, none), (183, none), (184, none), (185, none), (186, none), (187, none), (188, none), (189, none), (190, some (.int .u64)), (191, none), (192, none), (193, none), (194, none), (195, none), (196, none), (197, none), (198, none), (199, none), (200, none), (201, none), (202, none), (203, none), (209, none), (210, some (.int .u32)), (211, some (.int .u8)), (212, some (.int .u8)), (213, none), (214, none), (215, some (.int .i32)), (216, some (.int .i32))],
  vars := [(94, [0, 1, 7, 8]), (106, [0, 5, 6, 7]), (129, [0, 3, 7, 8, 9]), (141, [0, 1, 7, 8]), (171, [0, 1, 2, 9, 10, 11]), (172, [0, 1, 2, 9, 10, 11]), (185, [3, 6, 7, 8]), (197, [0, 1, 5, 6])],
  sigs := [(197, { io := [0] })],
  ptrs := [15, 16, 17, 97, 110, 214] }
noncomputable def impl_ArePlayers (k : Nat) (l_0 : (List DT61)) : Option Bool := run C k 129 .bool [.val (.dlist T61) l_0]
noncomputable def impl_ArePlayers.l0 (k m : Nat) (l_0 : (List DT61)) (t_7 : (List DT61)) (t_8 : Int) (t_9 : Int) (s0 : (List Int)) : Option Bool := loopRun C k 129 .bool [0] [.r, .r, .l, .r, .b] [] [0, 3, 7, 8, 9] m ⟨[.one (.cell (.list false T61 l_0)), .one (.cell (.ref 1)), .one (.cell (.list false T61 t_7)), .one (.cell (.int .i64 t_8)), .one (.cell (.int .i64 t_9))], [.arr (.int .i64) s0 .open]⟩
noncomputable def impl_IsScore (k : Nat) (l_0 : (List DT49)) : Option Bool := run C k 106 .bool [.val (.list T49) l_0]
noncomputable def impl_IsScore.l0 (k m : Nat) (l_0 : (List DT49)) (t_5 : (List DT49)) (t_6 : Int) (t_7 : Int) : Option Bool := loopRun C k 106 .bool [0] [.r, .l, .r, .b] [] [0, 5, 6, 7] m ⟨[.one (.cell (.list false T49 l_0)), .one (.cell (.list false T49 t_5)), .one (.cell (.int .i64 t_6)), .one (.cell (.int .i64 t_7))], []⟩
noncomputable def impl_InRange (k : Nat) (n_0 : Int) (low_1 : Int) (high_2 : Int) : Option Bool := run C k 105 .bool [.val (.int .i64) n_0, .val (.int .i64) low_1, .val (.int .i64) high_2]
noncomputable def slices_Contains___int_int (k : Nat) (s_0 : (List Int)) (v_1 : Int) : Option Bool := run C k 131 .bool [.val (.list (.int .i64)) s_0, .val (.int .i64) v_1]
noncomputable def impl_CanPlay (k : Nat) (p_0 : DT61) (l_1 : (List DT49)) (voice_2 : Int) : Option Bool := run C k 132 .bool [.val T61 p_0, .val (.list T49) l_1, .val (.int .i64) voice_2]
noncomputable def impl_ascending (k : Nat) (l_0 : (List Int)) (low_1 : Int) (high_2 : Int) : Option Bool := run C k 171 .bool [.val (.list (.int .i64)) l_0, .val (.int .i64) low_1, .val (.int .i64) high_2]
noncomputable def impl_ascending.l0 (k m : Nat) (l_0 : (List Int)) (low_1 : Int) (high_2 : Int) (t_9 : (List Int)) (t_10 : Int) (t_11 : Int) : Option Bool := loopRun C k 171 .bool [0, 0, 0] [.r, .l, .r, .b] [] [0, 1, 2, 9, 10, 11] m ⟨[.one (.cell (.list false (.int .i64) l_0)), .one (.cell (.int .i64 low_1)), .one (.cell (.int .i64 high_2)), .one (.cell (.list false (.int .i64) t_9)), .one (.cell (.int .i64 t_10)), .one (.cell (.int .i64 t_11))], []⟩
noncomputable def impl_eventOrder (k : Nat) (a_0 : DT49) (b_1 : DT49) : Option Int := run C k 143 (.int .i64) [.val T49 a_0, .val T49 b_1]
noncomputable def slices_Index___int_int (k : Nat) (s_0 : (List Int)) (v_1 : Int) : Option Int := run C k 94 (.int .i64) [.val (.list (.int .i64)) s_0, .val (.int .i64) v_1]
noncomputable def slices_Index___int_int.l0 (k m : Nat) (s_0 : (List Int)) (v_1 : Int) (t_7 : Int) (t_8 : Int) : Option Int := loopRun C k 94 (.int .i64) [0, 0] [.r, .l, .r, .b] [] [0, 1, 7, 8] m ⟨[.one (.cell (.list false (.int .i64) s_0)), .one (.cell (.int .i64 v_1)), .one (.cell (.int .i64 t_7)), .one (.cell (.int .i64 t_8))], []⟩
noncomputable def impl_VoiceOf (k : Nat) (l_0 : (List DT49)) (voice_1 : Int) : Option (List DT49) := run C k 173 (.list T49) [.val (.list T49) l_0, .val (.int .i64) voice_1]
noncomputable def impl_FitsRange (k : Nat) (l_0 : (List DT49)) (low_1 : Int) (high_2 : Int) : Option Bool := run C k 172 .bool [.val (.list T49) l_0, .val (.int .i64) low_1, .val (.int .i64) high_2]
noncomputable def impl_FitsRange.l0 (k m : Nat) (l_0 : (List DT49)) (low_1 : Int) (high_2 : Int) (t_9 : (List DT49)) (t_10 : Int) (t_11 : Int) : Option Bool := loopRun C k 172 .bool [0, 0, 0] [.r, .l, .r, .b] [] [0, 1, 2, 9, 10, 11] m ⟨[.one (.cell (.list false T49 l_0)), .one (.cell (.int .i64 low_1)), .one (.cell (.int .i64 high_2)), .one (.cell (.list false T49 t_9)), .one (.cell (.int .i64 t_10)), .one (.cell (.int .i64 t_11))], []⟩
noncomputable def cmp_Compare_int (k : Nat) (x_0 : Int) (y_1 : Int) : Option Int := run C k 186 (.int .i64) [.val (.int .i64) x_0, .val (.int .i64) y_1]
noncomputable def cmp_Or_int (k : Nat) (vals_0 : (List Int)) : Option Int := run C k 185 (.int .i64) [.val (.list (.int .i64)) vals_0]
noncomputable def cmp_Or_int.l0 (k m : Nat) (zero_3 : Int) (t_6 : (List Int)) (t_7 : Int) (t_8 : Int) : Option Int := loopRun C k 185 (.int .i64) [0] [.r, .r, .l, .r, .b] [] [3, 6, 7, 8] m ⟨[.one (.cell (.int .i64 zero_3)), .one (.cell (.list false (.int .i64) t_6)), .one (.cell (.int .i64 t_7)), .one (.cell (.int .i64 t_8))], []⟩
noncomputable def impl_clone_impl_Event (k : Nat) (l_0 : (List DT49)) : Option (List DT49) := run C k 145 (.list T49) [.val (.list T49) l_0]
noncomputable def slices_DeleteFunc_impl_Event_198 (k : Nat) (s_0 : (List DT49)) (c1_0 : Int) : Option (List DT49) := run C k 197 (.list T49) [.give (.list T49) s_0, .clo 198 [.ro (.int .i64) c1_0]]
noncomputable def slices_DeleteFunc_impl_Event_198.l0 (k m : Nat) (del_1_c : Int) (i_5 : Int) (j_6 : Int) (s0 : (List DT49)) : Option (List DT49) := loopRun C k 197 (.list T49) [0, 0] [.r, .r, .r, .l, .r, .b] [] [0, 1, 5, 6] m ⟨[.one (.cell (.ref 1)), .one (.cell (.clo 198 [.ro (.int .i64) del_1_c])), .one (.cell (.int .i64 i_5)), .one (.cell (.int .i64 j_6))], [.arr T49 s0 .open]⟩
noncomputable def cmp_isNaN_int (k : Nat) (x_0 : Int) : Option Bool := run C k 203 .bool [.val (.int .i64) x_0]
noncomputable def slices_IndexFunc_impl_Event_198 (k : Nat) (s_0 : (List DT49)) (c1_0 : Int) : Option Int := run C k 141 (.int .i64) [.val (.list T49) s_0, .clo 198 [.ro (.int .i64) c1_0]]
noncomputable def slices_IndexFunc_impl_Event_198.l0 (k m : Nat) (s_0 : (List DT49)) (f_1_c : Int) (t_7 : Int) (t_8 : Int) : Option Int := loopRun C k 141 (.int .i64) [0, 0] [.r, .l, .r, .b] [] [0, 1, 7, 8] m ⟨[.one (.cell (.list false T49 s_0)), .one (.cell (.clo 198 [.ro (.int .i64) f_1_c])), .one (.cell (.int .i64 t_7)), .one (.cell (.int .i64 t_8))], []⟩
noncomputable def impl_VoiceOf_1 (k : Nat) (e_0 : DT49) (a_1 : Int) : Option Bool := run C k 198 .bool [.val T49 e_0, .rp (.int .i64) a_1]
theorem impl_ArePlayers_eq (k : Nat) (l_0 : (List DT61)) : impl_ArePlayers (k + 1) l_0 =
 impl_ArePlayers.l0 k k l_0 l_0 ((List.length l_0 : Nat) : Int) 0 [] := by kernel_rfl
theorem impl_ArePlayers.l0_eq (k m : Nat) (l_0 : (List DT61)) (t_7 : (List DT61)) (t_8 : Int) (t_9 : Int) (s0 : (List Int)) : impl_ArePlayers.l0 k (m + 1) l_0 t_7 t_8 t_9 s0 =
 if (t_9 : Int) < t_8 then
 if 0 ≤ t_9 then
 if t_9 < ((List.length t_7 : Nat) : Int) then
 (impl_InRange k (rd T61 t_7 t_9).2.1 21 (rd T61 t_7 t_9).2.2.1).bind fun r1 =>
 if ¬ (r1 = true) then
 some false
 else if LT.lt (α := Int) 108 (rd T61 t_7 t_9).2.2.1 then
 some false
 else (impl_ascending k (rd T61 t_7 t_9).2.2.2.1 1 4).bind fun r2 =>
 if ¬ (r2 = true) then
 some false
 else if (List.length s0 + List.length ([(rd T61 t_7 t_9).1] : (List Int))) * 8 ≤ 211106232532992 then
 impl_ArePlayers.l0 k m l_0 t_7 t_8 (IntKind.wrap .i64 (t_9 + 1)) (s0 ++ ([(rd T61 t_7 t_9).1] : (List Int))) else none else none else none
 else if (((List.length l_0 : Nat) : Int) : Int) ≤ 8 then
 (impl_ascending k s0 1 99).bind fun r3 =>
 some (decide (r3 = true))
 else some false := by kernel_rfl
theorem impl_IsScore_eq (k : Nat) (l_0 : (List DT49)) : impl_IsScore (k + 1) l_0 =
 impl_IsScore.l0 k k l_0 l_0 ((List.length l_0 : Nat) : Int) 0 := by kernel_rfl
theorem impl_IsScore.l0_eq (k m : Nat) (l_0 : (List DT49)) (t_5 : (List DT49)) (t_6 : Int) (t_7 : Int) : impl_IsScore.l0 k (m + 1) l_0 t_5 t_6 t_7 =
 if (t_7 : Int) < t_6 then
 if 0 ≤ t_7 then
 if t_7 < ((List.length t_5 : Nat) : Int) then
 (impl_InRange k (rd T49 t_5 t_7).1 0 2000).bind fun r1 =>
 if ¬ (r1 = true) then
 some false
 else (impl_InRange k (rd T49 t_5 t_7).2.1 1 96).bind fun r2 =>
 if ¬ (r2 = true) then
 some false
 else (impl_InRange k (rd T49 t_5 t_7).2.2.1 21 108).bind fun r3 =>
 if ¬ (r3 = true) then
 some false
 else (impl_InRange k (rd T49 t_5 t_7).2.2.2.1 1 4).bind fun r4 =>
 if ¬ (r4 = true) then
 some false
 else if (0 : Int) < t_7 then
 if 0 ≤ (IntKind.wrap .i64 (t_7 - 1)) then
 if (IntKind.wrap .i64 (t_7 - 1)) < ((List.length l_0 : Nat) : Int) then
 (impl_eventOrder k (rd T49 l_0 (IntKind.wrap .i64 (t_7 - 1))) (rd T49 t_5 t_7)).bind fun r5 =>
 if (0 : Int) ≤ r5 then
 some false
 else impl_IsScore.l0 k m l_0 t_5 t_6 (IntKind.wrap .i64 (t_7 + 1)) else none else none
 else impl_IsScore.l0 k m l_0 t_5 t_6 (IntKind.wrap .i64 (t_7 + 1)) else none else none
 else some (decide ((((List.length l_0 : Nat) : Int) : Int) ≤ 40)) := by kernel_rfl
theorem impl_InRange_eq (k : Nat) (n_0 : Int) (low_1 : Int) (high_2 : Int) : impl_InRange (k + 1) n_0 low_1 high_2 =
 if (low_1 : Int) ≤ n_0 then
 some (decide ((n_0 : Int) ≤ high_2))
 else some false := by kernel_rfl
theorem slices_Contains___int_int_eq (k : Nat) (s_0 : (List Int)) (v_1 : Int) : slices_Contains___int_int (k + 1) s_0 v_1 =
 (slices_Index___int_int k s_0 v_1).bind fun r1 =>
 some (decide ((0 : Int) ≤ r1)) := by kernel_rfl
theorem impl_CanPlay_eq (k : Nat) (p_0 : DT61) (l_1 : (List DT49)) (voice_2 : Int) : impl_CanPlay (k + 1) p_0 l_1 voice_2 =
 (slices_Contains___int_int k p_0.2.2.2.1 voice_2).bind fun r1 =>
 if r1 = true then
 (impl_IsScore k l_1).bind fun r2 =>
 if r2 = true then
 (impl_VoiceOf k l_1 voice_2).bind fun r3 =>
 (impl_FitsRange k r3 p_0.2.1 p_0.2.2.1).bind fun r4 =>
 some (decide (r4 = true))
 else some false
 else some false := by kernel_rfl
theorem impl_ascending_eq (k : Nat) (l_0 : (List Int)) (low_1 : Int) (high_2 : Int) : impl_ascending (k + 1) l_0 low_1 high_2 =
 impl_ascending.l0 k k l_0 low_1 high_2 l_0 ((List.length l_0 : Nat) : Int) 0 := by kernel_rfl
theorem impl_ascending.l0_eq (k m : Nat) (l_0 : (List Int)) (low_1 : Int) (high_2 : Int) (t_9 : (List Int)) (t_10 : Int) (t_11 : Int) : impl_ascending.l0 k (m + 1) l_0 low_1 high_2 t_9 t_10 t_11 =
 if (t_11 : Int) < t_10 then
 if 0 ≤ t_11 then
 if t_11 < ((List.length t_9 : Nat) : Int) then
 (impl_InRange k (rd (.int .i64) t_9 t_11) low_1 high_2).bind fun r1 =>
 if ¬ (r1 = true) then
 some false
 else if (0 : Int) < t_11 then
 if 0 ≤ (IntKind.wrap .i64 (t_11 - 1)) then
 if (IntKind.wrap .i64 (t_11 - 1)) < ((List.length l_0 : Nat) : Int) then
 if LE.le (α := Int) (rd (.int .i64) t_9 t_11) (rd (.int .i64) l_0 (IntKind.wrap .i64 (t_11 - 1))) then
 some false
 else impl_ascending.l0 k m l_0 low_1 high_2 t_9 t_10 (IntKind.wrap .i64 (t_11 + 1)) else none else none
 else impl_ascending.l0 k m l_0 low_1 high_2 t_9 t_10 (IntKind.wrap .i64 (t_11 + 1)) else none else none
 else some true := by kernel_rfl
theorem impl_eventOrder_eq (k : Nat) (a_0 : DT49) (b_1 : DT49) : impl_eventOrder (k + 1) a_0 b_1 =
 (cmp_Compare_int k a_0.1 b_1.1).bind fun r1 =>
 (cmp_Compare_int k a_0.2.2.2.1 b_1.2.2.2.1).bind fun r2 =>
 (cmp_Compare_int k a_0.2.2.1 b_1.2.2.1).bind fun r3 =>
 (cmp_Or_int k ([r1, r2, r3])).bind fun r4 =>
 some r4 := by kernel_rfl
theorem slices_Index___int_int_eq (k : Nat) (s_0 : (List Int)) (v_1 : Int) : slices_Index___int_int (k + 1) s_0 v_1 =
 slices_Index___int_int.l0 k k s_0 v_1 ((List.length s_0 : Nat) : Int) 0 := by kernel_rfl
theorem slices_Index___int_int.l0_eq (k m : Nat) (s_0 : (List Int)) (v_1 : Int) (t_7 : Int) (t_8 : Int) : slices_Index___int_int.l0 k (m + 1) s_0 v_1 t_7 t_8 =
 if (t_8 : Int) < t_7 then
 if 0 ≤ t_8 then
 if t_8 < ((List.length s_0 : Nat) : Int) then
 if Eq (α := Int) v_1 (rd (.int .i64) s_0 t_8) then
 some t_8
 else slices_Index___int_int.l0 k m s_0 v_1 t_7 (IntKind.wrap .i64 (t_8 + 1)) else none else none
 else some (-1) := by kernel_rfl
theorem impl_VoiceOf_eq (k : Nat) (l_0 : (List DT49)) (voice_1 : Int) : impl_VoiceOf (k + 1) l_0 voice_1 =
 (impl_clone_impl_Event k l_0).bind fun r1 =>
 (slices_DeleteFunc_impl_Event_198 k r1 voice_1).bind fun r2 =>
 some r2 := by kernel_rfl
theorem impl_FitsRange_eq (k : Nat) (l_0 : (List DT49)) (low_1 : Int) (high_2 : Int) : impl_FitsRange (k + 1) l_0 low_1 high_2 =
 impl_FitsRange.l0 k k l_0 low_1 high_2 l_0 ((List.length l_0 : Nat) : Int) 0 := by kernel_rfl
theorem impl_FitsRange.l0_eq (k m : Nat) (l_0 : (List DT49)) (low_1 : Int) (high_2 : Int) (t_9 : (List DT49)) (t_10 : Int) (t_11 : Int) : impl_FitsRange.l0 k (m + 1) l_0 low_1 high_2 t_9 t_10 t_11 =
 if (t_11 : Int) < t_10 then
 if 0 ≤ t_11 then
 if t_11 < ((List.length t_9 : Nat) : Int) then
 (impl_InRange k (rd T49 t_9 t_11).2.2.1 low_1 high_2).bind fun r1 =>
 if ¬ (r1 = true) then
 some false
 else impl_FitsRange.l0 k m l_0 low_1 high_2 t_9 t_10 (IntKind.wrap .i64 (t_11 + 1)) else none else none
 else (impl_IsScore k l_0).bind fun r2 =>
 some (decide (r2 = true)) := by kernel_rfl
theorem cmp_Compare_int_eq (k : Nat) (x_0 : Int) (y_1 : Int) : cmp_Compare_int (k + 1) x_0 y_1 =
 (cmp_isNaN_int k x_0).bind fun r1 =>
 (cmp_isNaN_int k y_1).bind fun r2 =>
 if r1 = true then
 if r2 = true then
 some 0
 else some (-1)
 else if r2 = true then
 some 1
 else if (x_0 : Int) < y_1 then
 some (-1)
 else if (y_1 : Int) < x_0 then
 some 1
 else some 0 := by kernel_rfl
theorem cmp_Or_int_eq (k : Nat) (vals_0 : (List Int)) : cmp_Or_int (k + 1) vals_0 =
 cmp_Or_int.l0 k k 0 vals_0 ((List.length vals_0 : Nat) : Int) 0 := by kernel_rfl
theorem cmp_Or_int.l0_eq (k m : Nat) (zero_3 : Int) (t_6 : (List Int)) (t_7 : Int) (t_8 : Int) : cmp_Or_int.l0 k (m + 1) zero_3 t_6 t_7 t_8 =
 if (t_8 : Int) < t_7 then
 if 0 ≤ t_8 then
 if t_8 < ((List.length t_6 : Nat) : Int) then
 if Ne (α := Int) (rd (.int .i64) t_6 t_8) zero_3 then
 some (rd (.int .i64) t_6 t_8)
 else cmp_Or_int.l0 k m zero_3 t_6 t_7 (IntKind.wrap .i64 (t_8 + 1)) else none else none
 else some zero_3 := by kernel_rfl
theorem impl_clone_impl_Event_eq (k : Nat) (l_0 : (List DT49)) : impl_clone_impl_Event (k + 1) l_0 =
 if (List.length ([] : (List DT49)) + List.length l_0) * 32 ≤ 211106232532992 then
 some (([] : (List DT49)) ++ l_0) else none := by kernel_rfl
theorem slices_DeleteFunc_impl_Event_198_eq (k : Nat) (s_0 : (List DT49)) (c1_0 : Int) : slices_DeleteFunc_impl_Event_198 (k + 1) s_0 c1_0 =
 (slices_IndexFunc_impl_Event_198 k s_0 c1_0).bind fun r1 =>
 if (r1 : Int) = (-1) then
 some s_0
 else slices_DeleteFunc_impl_Event_198.l0 k k c1_0 r1 (IntKind.wrap .i64 (r1 + 1)) s_0 := by kernel_rfl
theorem slices_DeleteFunc_impl_Event_198.l0_eq (k m : Nat) (del_1_c : Int) (i_5 : Int) (j_6 : Int) (s0 : (List DT49)) : slices_DeleteFunc_impl_Event_198.l0 k (m + 1) del_1_c i_5 j_6 s0 =
 if (j_6 : Int) < ((List.length s0 : Nat) : Int) then
 if 0 ≤ j_6 then
 if j_6 < ((List.length s0 : Nat) : Int) then
 (impl_VoiceOf_1 k (rd T49 s0 j_6) del_1_c).bind fun r2 =>
 if ¬ (r2 = true) then
 if 0 ≤ i_5 then
 if i_5 < ((List.length s0 : Nat) : Int) then
 slices_DeleteFunc_impl_Event_198.l0 k m del_1_c (IntKind.wrap .i64 (i_5 + 1)) (IntKind.wrap .i64 (j_6 + 1)) (List.set s0 (Int.toNat i_5) (rd T49 s0 j_6)) else none else none
 else slices_DeleteFunc_impl_Event_198.l0 k m del_1_c i_5 (IntKind.wrap .i64 (j_6 + 1)) s0 else none else none
 else if 0 ≤ i_5 then
 if i_5 ≤ ((List.length s0 : Nat) : Int) then
 if 0 ≤ i_5 then
 if i_5 ≤ ((List.length (List.take (Int.toNat i_5) s0 ++ List.replicate ((Int.toNat ((List.length s0 : Nat) : Int)) - (Int.toNat i_5)) (Ty.dflt T49) ++ List.drop ((Int.toNat i_5) + ((Int.toNat ((List.length s0 : Nat) : Int)) - (Int.toNat i_5))) s0) : Nat) : Int) then
 some (List.take ((Int.toNat i_5) - (Int.toNat 0)) (List.drop (Int.toNat 0) (List.take (Int.toNat i_5) s0 ++ List.replicate ((Int.toNat ((List.length s0 : Nat) : Int)) - (Int.toNat i_5)) (Ty.dflt T49) ++ List.drop ((Int.toNat i_5) + ((Int.toNat ((List.length s0 : Nat) : Int)) - (Int.toNat i_5))) s0))) else none else none else none else none := by kernel_rfl
theorem cmp_isNaN_int_eq (k : Nat) (x_0 : Int) : cmp_isNaN_int (k + 1) x_0 =
 some (decide ((x_0 : Int) ≠ x_0)) := by kernel_rfl
theorem slices_IndexFunc_impl_Event_198_eq (k : Nat) (s_0 : (List DT49)) (c1_0 : Int) : slices_IndexFunc_impl_Event_198 (k + 1) s_0 c1_0 =
 slices_IndexFunc_impl_Event_198.l0 k k s_0 c1_0 ((List.length s_0 : Nat) : Int) 0 := by kernel_rfl
theorem slices_IndexFunc_impl_Event_198.l0_eq (k m : Nat) (s_0 : (List DT49)) (f_1_c : Int) (t_7 : Int) (t_8 : Int) : slices_IndexFunc_impl_Event_198.l0 k (m + 1) s_0 f_1_c t_7 t_8 =
 if (t_8 : Int) < t_7 then
 if 0 ≤ t_8 then
 if t_8 < ((List.length s_0 : Nat) : Int) then
 (impl_VoiceOf_1 k (rd T49 s_0 t_8) f_1_c).bind fun r1 =>
 if r1 = true then
 some t_8
 else slices_IndexFunc_impl_Event_198.l0 k m s_0 f_1_c t_7 (IntKind.wrap .i64 (t_8 + 1)) else none else none
 else some (-1) := by kernel_rfl
theorem impl_VoiceOf_1_eq (k : Nat) (e_0 : DT49) (a_1 : Int) : impl_VoiceOf_1 (k + 1) e_0 a_1 =
 some (decide ((e_0.2.2.2.1 : Int) ≠ a_1)) := by kernel_rfl
end Go.QSeat
