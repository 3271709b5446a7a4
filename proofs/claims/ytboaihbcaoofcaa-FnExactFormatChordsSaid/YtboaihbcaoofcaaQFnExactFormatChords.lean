/- The functions that the law FnExactFormatChords reaches, as equations; printed by pe.py. No condition. -/
import Derived.Test.YtboaihbcaoofcaaPrim
import Derived.Test.YtboaihbcaoofcaaProg
import Derived.KernelRfl
set_option linter.unusedVariables false
open Go Go.Flat
namespace Go.QFnExactFormatChords
abbrev T43 : Ty := .pair (.int .i64) (.pair (.int .i64) .unit)
abbrev DT43 := Int × (Int × Unit)
abbrev T158 : Ty := .pair (.int .i64) T43
abbrev DT158 := Int × DT43
abbrev T74 : Ty := .pair (.int .i64) T158
abbrev DT74 := Int × DT158
abbrev T78 : Ty := .pair (.int .i64) (.pair (.int .i64) (.pair (.int .i64) (.pair (.list (.int .i64)) .unit)))
abbrev DT78 := Int × (Int × (Int × ((List Int) × Unit)))
abbrev T80 : Ty := .pair (.int .i64) T74
abbrev DT80 := Int × DT74
abbrev T82 : Ty := .pair (.int .i64) (.pair (.int .i64) (.pair T74 (.pair T43 (.pair T78 (.pair T80 .unit)))))
abbrev DT82 := Int × (Int × (DT74 × (DT43 × (DT78 × (DT80 × Unit)))))
abbrev T50 : Ty := .pair (.list T74) (.pair T43 (.pair (.list T43) (.pair (.list T78) (.pair (.list (.int .i64)) (.pair (.list T80) (.pair (.list T43) T43))))))
abbrev DT50 := (List DT74) × (DT43 × ((List DT43) × ((List DT78) × ((List Int) × ((List DT80) × ((List DT43) × DT43))))))
noncomputable def C : Cfg := {
  P := Go.Proofs.Try.prog,
  tt := [(1, none), (2, some (.int .i64)), (3, some (.int .i64)), (4, some .bool), (5, some (.int .u8)), (6, some (.int .u8)), (9, some .str), (10, some .str), (11, some .str), (12, some (.int .u64)), (15, none), (16, none), (17, none), (21, some (.int .i32)), (22, some (.list T43)), (23, none), (24, none), (25, some (.list T43)), (26, none), (27, none), (28, none), (29, some (.list T82)), (30, none), (31, none), (32, some (.list T82)), (33, none), (34, none), (35, none), (36, some (.list T74)), (37, none), (38, none), (39, some (.list T74)), (40, none), (41, none), (42, none), (43, some T43), (44, some T43), (45, some (.list T43)), (46, some (.list T78)), (47, some (.list (.int .i64))), (48, some (.list T80)), (49, some (.list T43)), (50, some T50), (51, some T50), (52, none), (53, none), (54, some T43), (55, some (.list T43)), (56, some (.list T78)), (57, some (.list T80)), (58, some (.list T43)), (59, some T50), (60, some T50), (61, none), (62, none), (63, none), (64, some (.list .str)), (65, none), (66, some T43), (67, some T43), (68, none), (69, none), (70, some T43), (71, none), (72, none), (73, none), (74, some T74), (75, some T74), (76, some T43), (77, some T43), (78, some T78), (79, some T78), (80, some T80), (81, some T80), (82, some T82), (83, some T82), (84, some T74), (85, some T43), (86, some T78), (87, some T80), (88, some T82), (89, some T82), (90, none), (91, none), (92, none), (93, none), (94, none), (95, none), (96, none), (97, none), (98, none), (99, none), (100, none), (101, some (.list (.list T158))), (103, none), (104, none), (105, none), (106, none), (107, none), (108, none), (109, none), (110, none), (111, none), (112, none), (113, none), (114, none), (115, none), (116, none), (117, none), (118, none), (119, none), (120, none), (121, none), (122, none), (123, none), (124, none), (125, none), (126, none), (127, none), (128, none), (129, none), (130, none), (131, none), (132, some (.list T158)), (134, none), (136, none), (137, none), (138, some T43), (139, some T43), (140, none), (141, some T43), (142, none), (143, none), (144, some (.list (.int .u8))), (147, none), (151, none), (152, none), (153, none), (154, none), (155, none), (156, none), (157, some (.int .u64)), (158, some T158), (159, some T158), (160, none), (161, none), (162, none), (163, none), (164, none), (165, none), (166, none), (167, none), (168, some (.int .i64)), (170, none), (171, none), (172, none), (173, none), (175, none), (176, none), (177, some (.int .u32)), (178, none), (179, some (.int .u64)), (180, none), (181, none), (183, none), (184, none), (185, some (.int .u64)), (186, none), (187, none), (188, none), (189, none), (190, none), (191, none), (192, none), (193, none), (194, none), (195, none), (196, none), (198, none), (199, none), (200, none), (201, none), (207, none), (208, some (.int .u8)), (209, some (.int .u8)), (210, none), (211, some (.int .i32)), (212, some (.int .i32)), (215, none)],
  vars := [(8, [0, 3, 4]), (9, [0, 3, 4]), (11, [0, 1, 5]), (28, [0, 3, 4]), (30, [1, 5, 12, 13, 14]), (64, [0, 1, 5, 8, 39, 40, 41, 63, 64, 65])],
  sigs := [],
  prim := fun f => bif Nat.beq f 64 then some primJoin else none }
noncomputable def laws_FnExactFormatChords (k : Nat) (aL_0 : (List DT43)) : Option Bool := run C k 3 .bool [.val (.list T43) aL_0]
noncomputable def laws_szChordS (k : Nat) (a_0 : (List DT43)) (left_1 : Int) : Option Int := run C k 7 (.int .i64) [.val (.list T43) a_0, .val (.int .i64) left_1]
noncomputable def laws_toChordS (k : Nat) (a_0 : (List DT43)) : Option (List DT43) := run C k 9 (.list T43) [.val (.list T43) a_0]
noncomputable def laws_toChordS.l0 (k m : Nat) (a_0 : (List DT43)) (i_4 : Int) (s0 : (List DT43)) : Option (List DT43) := loopRun C k 9 (.list T43) [0] [.r, .r, .l, .r, .b] [] [0, 3, 4] m ⟨[.one (.cell (.list false T43 a_0)), .one (.cell (.ref 1)), .one (.cell (.int .i64 i_4))], [.arr T43 s0 .open]⟩
noncomputable def spec_FormatChords (k : Nat) (l_0 : (List DT43)) : Option ByteArray := run C k 8 .str [.val (.list T43) l_0]
noncomputable def spec_FormatChords.l0 (k m : Nat) (l_0 : (List DT43)) (i_4 : Int) (s0 : (List ByteArray)) : Option ByteArray := loopRun C k 8 .str [0] [.r, .r, .l, .r, .b] [] [0, 3, 4] m ⟨[.one (.cell (.list false T43 l_0)), .one (.cell (.ref 1)), .one (.cell (.int .i64 i_4))], [.arr .str s0 .open]⟩
noncomputable def impl_FormatChords (k : Nat) (l_0 : (List DT43)) : Option ByteArray := run C k 10 .str [.val (.list T43) l_0]
noncomputable def laws_eqChordS (k : Nat) (a_0 : (List DT43)) (b_1 : (List DT43)) : Option Bool := run C k 11 .bool [.val (.list T43) a_0, .val (.list T43) b_1]
noncomputable def laws_eqChordS.l0 (k m : Nat) (a_0 : (List DT43)) (b_1 : (List DT43)) (i_5 : Int) : Option Bool := loopRun C k 11 .bool [0, 0] [.r, .r, .l, .r, .b] [] [0, 1, 5] m ⟨[.one (.cell (.list false T43 a_0)), .one (.cell (.list false T43 b_1)), .one (.cell (.int .i64 i_5))], []⟩
noncomputable def laws_toChord (k : Nat) (a_0 : DT43) : Option DT43 := run C k 29 T43 [.val T43 a_0]
noncomputable def spec_ChordText (k : Nat) (x_0 : DT43) : Option ByteArray := run C k 27 .str [.val T43 x_0]
noncomputable def spec_l39Join (k : Nat) (l_0 : (List ByteArray)) : Option ByteArray := run C k 28 .str [.val (.list .str) l_0]
noncomputable def spec_l39Join.l0 (k m : Nat) (l_0 : (List ByteArray)) (s_3 : ByteArray) (i_4 : Int) : Option ByteArray := loopRun C k 28 .str [0] [.r, .r, .l, .r, .b] [] [0, 3, 4] m ⟨[.one (.cell (.list false .str l_0)), .one (.cell (.str s_3)), .one (.cell (.int .i64 i_4))], []⟩
noncomputable def impl_spaced_impl_Chord_31 (k : Nat) (l_0 : (List DT43)) : Option ByteArray := run C k 30 .str [.val (.list T43) l_0, .clo 31 []]
noncomputable def impl_spaced_impl_Chord_31.l0 (k m : Nat) (t_12 : (List DT43)) (t_13 : Int) (t_14 : Int) (s0 : (List ByteArray)) : Option ByteArray := loopRun C k 30 .str [0, 0] [.r, .r, .r, .l, .r, .b] [] [1, 5, 12, 13, 14] m ⟨[.one (.cell (.clo 31 [])), .one (.cell (.ref 1)), .one (.cell (.list false T43 t_12)), .one (.cell (.int .i64 t_13)), .one (.cell (.int .i64 t_14))], [.arr .str s0 .open]⟩
noncomputable def laws_eqChord (k : Nat) (a_0 : DT43) (b_1 : DT43) : Option Bool := run C k 32 .bool [.val T43 a_0, .val T43 b_1]
noncomputable def spec_IsChord (k : Nat) (x_0 : DT43) : Option Bool := run C k 63 .bool [.val T43 x_0]
noncomputable def impl_ChordText (k : Nat) (x_0 : DT43) : Option ByteArray := run C k 31 .str [.val T43 x_0]
noncomputable def strings_Join (k : Nat) (elems_0 : (List ByteArray)) (sep_1 : ByteArray) : Option ByteArray := run C k 64 .str [.val (.list .str) elems_0, .val .str sep_1]
noncomputable def spec_l1In (k : Nat) (x_0 : Int) (least_1 : Int) (most_2 : Int) : Option Bool := run C k 81 .bool [.val (.int .i64) x_0, .val (.int .i64) least_1, .val (.int .i64) most_2]
noncomputable def impl_IsChord (k : Nat) (x_0 : DT43) : Option Bool := run C k 65 .bool [.val T43 x_0]
noncomputable def impl_InRange (k : Nat) (n_0 : Int) (low_1 : Int) (high_2 : Int) : Option Bool := run C k 76 .bool [.val (.int .i64) n_0, .val (.int .i64) low_1, .val (.int .i64) high_2]
theorem laws_FnExactFormatChords_eq (k : Nat) (aL_0 : (List DT43)) : laws_FnExactFormatChords (k + 1) aL_0 =
 (laws_szChordS k aL_0 1048576).bind fun r1 =>
 if (r1 : Int) < 0 then
 some true
 else (laws_toChordS k aL_0).bind fun r2 =>
 (spec_FormatChords k r2).bind fun r3 =>
 (laws_toChordS k aL_0).bind fun r4 =>
 (impl_FormatChords k r4).bind fun r5 =>
 if ¬ (r5 = r3) then
 some false
 else (laws_toChordS k aL_0).bind fun r6 =>
 (laws_eqChordS k r4 r6).bind fun r7 =>
 if ¬ (r7 = true) then
 some false
 else some true := by kernel_rfl
theorem laws_szChordS_eq (k : Nat) (a_0 : (List DT43)) (left_1 : Int) : laws_szChordS (k + 1) a_0 left_1 =
 if ((IntKind.wrap .i64 (left_1 - ((List.length a_0 : Nat) : Int))) : Int) < 0 then
 some (-1)
 else some (IntKind.wrap .i64 (left_1 - ((List.length a_0 : Nat) : Int))) := by kernel_rfl
theorem laws_toChordS_eq (k : Nat) (a_0 : (List DT43)) : laws_toChordS (k + 1) a_0 =
 if 0 ≤ ((List.length a_0 : Nat) : Int) then
 if ((List.length a_0 : Nat) : Int) ≤ ((List.length a_0 : Nat) : Int) then
 if ((List.length a_0 : Nat) : Int) * 16 ≤ 211106232532992 then
 laws_toChordS.l0 k k a_0 0 (List.replicate (Int.toNat ((List.length a_0 : Nat) : Int)) (Ty.dflt T43)) else none else none else none := by kernel_rfl
theorem laws_toChordS.l0_eq (k m : Nat) (a_0 : (List DT43)) (i_4 : Int) (s0 : (List DT43)) : laws_toChordS.l0 k (m + 1) a_0 i_4 s0 =
 if (i_4 : Int) < ((List.length a_0 : Nat) : Int) then
 if 0 ≤ i_4 then
 if i_4 < ((List.length a_0 : Nat) : Int) then
 (laws_toChord k (rd T43 a_0 i_4)).bind fun r1 =>
 if 0 ≤ i_4 then
 if i_4 < ((List.length s0 : Nat) : Int) then
 laws_toChordS.l0 k m a_0 (IntKind.wrap .i64 (i_4 + 1)) (List.set s0 (Int.toNat i_4) r1) else none else none else none else none
 else some s0 := by kernel_rfl
theorem spec_FormatChords_eq (k : Nat) (l_0 : (List DT43)) : spec_FormatChords (k + 1) l_0 =
 spec_FormatChords.l0 k k l_0 0 [] := by kernel_rfl
theorem spec_FormatChords.l0_eq (k m : Nat) (l_0 : (List DT43)) (i_4 : Int) (s0 : (List ByteArray)) : spec_FormatChords.l0 k (m + 1) l_0 i_4 s0 =
 if (i_4 : Int) < ((List.length l_0 : Nat) : Int) then
 if 0 ≤ i_4 then
 if i_4 < ((List.length l_0 : Nat) : Int) then
 (spec_ChordText k (rd T43 l_0 i_4)).bind fun r1 =>
 if (List.length s0 + List.length [r1]) * 16 ≤ 211106232532992 then
 spec_FormatChords.l0 k m l_0 (IntKind.wrap .i64 (i_4 + 1)) (s0 ++ [r1]) else none else none else none
 else (spec_l39Join k s0).bind fun r2 =>
 some r2 := by kernel_rfl
theorem impl_FormatChords_eq (k : Nat) (l_0 : (List DT43)) : impl_FormatChords (k + 1) l_0 =
 (impl_spaced_impl_Chord_31 k l_0).bind fun r1 =>
 some r1 := by kernel_rfl
theorem laws_eqChordS_eq (k : Nat) (a_0 : (List DT43)) (b_1 : (List DT43)) : laws_eqChordS (k + 1) a_0 b_1 =
 if (((List.length a_0 : Nat) : Int) : Int) ≠ ((List.length b_1 : Nat) : Int) then
 some false
 else laws_eqChordS.l0 k k a_0 b_1 0 := by kernel_rfl
theorem laws_eqChordS.l0_eq (k m : Nat) (a_0 : (List DT43)) (b_1 : (List DT43)) (i_5 : Int) : laws_eqChordS.l0 k (m + 1) a_0 b_1 i_5 =
 if (i_5 : Int) < ((List.length a_0 : Nat) : Int) then
 if 0 ≤ i_5 then
 if i_5 < ((List.length a_0 : Nat) : Int) then
 if 0 ≤ i_5 then
 if i_5 < ((List.length b_1 : Nat) : Int) then
 (laws_eqChord k (rd T43 a_0 i_5) (rd T43 b_1 i_5)).bind fun r1 =>
 if ¬ (r1 = true) then
 some false
 else laws_eqChordS.l0 k m a_0 b_1 (IntKind.wrap .i64 (i_5 + 1)) else none else none else none else none
 else some true := by kernel_rfl
theorem laws_toChord_eq (k : Nat) (a_0 : DT43) : laws_toChord (k + 1) a_0 =
 some a_0 := by kernel_rfl
theorem spec_ChordText_eq (k : Nat) (x_0 : DT43) : spec_ChordText (k + 1) x_0 =
 (spec_IsChord k x_0).bind fun r1 =>
 if ¬ (r1 = true) then
 some (ByteArray.mk #[])
 else if 0 ≤ x_0.1 then
 if x_0.1 < ((List.length ([(ByteArray.mk #[99]), (ByteArray.mk #[99, 35]), (ByteArray.mk #[100]), (ByteArray.mk #[100, 35]), (ByteArray.mk #[101]), (ByteArray.mk #[102]), (ByteArray.mk #[102, 35]), (ByteArray.mk #[103]), (ByteArray.mk #[103, 35]), (ByteArray.mk #[97]), (ByteArray.mk #[97, 35]), (ByteArray.mk #[98])]) : Nat) : Int) then
 if 0 ≤ (IntKind.wrap .i64 (x_0.2.1 - 1)) then
 if (IntKind.wrap .i64 (x_0.2.1 - 1)) < ((List.length ([(ByteArray.mk #[]), (ByteArray.mk #[109]), (ByteArray.mk #[111]), (ByteArray.mk #[43]), (ByteArray.mk #[55])]) : Nat) : Int) then
 if (rd .str ([(ByteArray.mk #[99]), (ByteArray.mk #[99, 35]), (ByteArray.mk #[100]), (ByteArray.mk #[100, 35]), (ByteArray.mk #[101]), (ByteArray.mk #[102]), (ByteArray.mk #[102, 35]), (ByteArray.mk #[103]), (ByteArray.mk #[103, 35]), (ByteArray.mk #[97]), (ByteArray.mk #[97, 35]), (ByteArray.mk #[98])]) x_0.1).size + (rd .str ([(ByteArray.mk #[]), (ByteArray.mk #[109]), (ByteArray.mk #[111]), (ByteArray.mk #[43]), (ByteArray.mk #[55])]) (IntKind.wrap .i64 (x_0.2.1 - 1))).size ≤ 211106232532992 then
 some ((rd .str ([(ByteArray.mk #[99]), (ByteArray.mk #[99, 35]), (ByteArray.mk #[100]), (ByteArray.mk #[100, 35]), (ByteArray.mk #[101]), (ByteArray.mk #[102]), (ByteArray.mk #[102, 35]), (ByteArray.mk #[103]), (ByteArray.mk #[103, 35]), (ByteArray.mk #[97]), (ByteArray.mk #[97, 35]), (ByteArray.mk #[98])]) x_0.1) ++ (rd .str ([(ByteArray.mk #[]), (ByteArray.mk #[109]), (ByteArray.mk #[111]), (ByteArray.mk #[43]), (ByteArray.mk #[55])]) (IntKind.wrap .i64 (x_0.2.1 - 1)))) else none else none else none else none else none := by kernel_rfl
theorem spec_l39Join_eq (k : Nat) (l_0 : (List ByteArray)) : spec_l39Join (k + 1) l_0 =
 spec_l39Join.l0 k k l_0 (ByteArray.mk #[]) 0 := by kernel_rfl
theorem spec_l39Join.l0_eq (k m : Nat) (l_0 : (List ByteArray)) (s_3 : ByteArray) (i_4 : Int) : spec_l39Join.l0 k (m + 1) l_0 s_3 i_4 =
 if (i_4 : Int) < ((List.length l_0 : Nat) : Int) then
 if (0 : Int) < i_4 then
 if s_3.size + (ByteArray.mk #[32]).size ≤ 211106232532992 then
 if 0 ≤ i_4 then
 if i_4 < ((List.length l_0 : Nat) : Int) then
 if (s_3 ++ (ByteArray.mk #[32])).size + (rd .str l_0 i_4).size ≤ 211106232532992 then
 spec_l39Join.l0 k m l_0 ((s_3 ++ (ByteArray.mk #[32])) ++ (rd .str l_0 i_4)) (IntKind.wrap .i64 (i_4 + 1)) else none else none else none else none
 else if 0 ≤ i_4 then
 if i_4 < ((List.length l_0 : Nat) : Int) then
 if s_3.size + (rd .str l_0 i_4).size ≤ 211106232532992 then
 spec_l39Join.l0 k m l_0 (s_3 ++ (rd .str l_0 i_4)) (IntKind.wrap .i64 (i_4 + 1)) else none else none else none
 else if (((List.length l_0 : Nat) : Int) : Int) = 0 then
 some (ByteArray.mk #[45])
 else some s_3 := by kernel_rfl
theorem impl_spaced_impl_Chord_31_eq (k : Nat) (l_0 : (List DT43)) : impl_spaced_impl_Chord_31 (k + 1) l_0 =
 if (((List.length l_0 : Nat) : Int) : Int) = 0 then
 some (ByteArray.mk #[45])
 else impl_spaced_impl_Chord_31.l0 k k l_0 ((List.length l_0 : Nat) : Int) 0 [] := by kernel_rfl
theorem impl_spaced_impl_Chord_31.l0_eq (k m : Nat) (t_12 : (List DT43)) (t_13 : Int) (t_14 : Int) (s0 : (List ByteArray)) : impl_spaced_impl_Chord_31.l0 k (m + 1) t_12 t_13 t_14 s0 =
 if (t_14 : Int) < t_13 then
 if 0 ≤ t_14 then
 if t_14 < ((List.length t_12 : Nat) : Int) then
 (impl_ChordText k (rd T43 t_12 t_14)).bind fun r1 =>
 if (List.length s0 + List.length [r1]) * 16 ≤ 211106232532992 then
 impl_spaced_impl_Chord_31.l0 k m t_12 t_13 (IntKind.wrap .i64 (t_14 + 1)) (s0 ++ [r1]) else none else none else none
 else (strings_Join k s0 (ByteArray.mk #[32])).bind fun r2 =>
 some r2 := by kernel_rfl
theorem laws_eqChord_eq (k : Nat) (a_0 : DT43) (b_1 : DT43) : laws_eqChord (k + 1) a_0 b_1 =
 if (a_0.1 : Int) ≠ b_1.1 then
 some false
 else if (a_0.2.1 : Int) ≠ b_1.2.1 then
 some false
 else some true := by kernel_rfl
theorem spec_IsChord_eq (k : Nat) (x_0 : DT43) : spec_IsChord (k + 1) x_0 =
 (spec_l1In k x_0.1 0 11).bind fun r1 =>
 if r1 = true then
 (spec_l1In k x_0.2.1 1 5).bind fun r2 =>
 some (decide (r2 = true))
 else some false := by kernel_rfl
theorem impl_ChordText_eq (k : Nat) (x_0 : DT43) : impl_ChordText (k + 1) x_0 =
 (impl_IsChord k x_0).bind fun r1 =>
 if ¬ (r1 = true) then
 some (ByteArray.mk #[])
 else if 0 ≤ x_0.1 then
 if x_0.1 < ((List.length ([(ByteArray.mk #[99]), (ByteArray.mk #[99, 35]), (ByteArray.mk #[100]), (ByteArray.mk #[100, 35]), (ByteArray.mk #[101]), (ByteArray.mk #[102]), (ByteArray.mk #[102, 35]), (ByteArray.mk #[103]), (ByteArray.mk #[103, 35]), (ByteArray.mk #[97]), (ByteArray.mk #[97, 35]), (ByteArray.mk #[98])]) : Nat) : Int) then
 if 0 ≤ (IntKind.wrap .i64 (x_0.2.1 - 1)) then
 if (IntKind.wrap .i64 (x_0.2.1 - 1)) < ((List.length ([(ByteArray.mk #[]), (ByteArray.mk #[109]), (ByteArray.mk #[111]), (ByteArray.mk #[43]), (ByteArray.mk #[55])]) : Nat) : Int) then
 if (rd .str ([(ByteArray.mk #[99]), (ByteArray.mk #[99, 35]), (ByteArray.mk #[100]), (ByteArray.mk #[100, 35]), (ByteArray.mk #[101]), (ByteArray.mk #[102]), (ByteArray.mk #[102, 35]), (ByteArray.mk #[103]), (ByteArray.mk #[103, 35]), (ByteArray.mk #[97]), (ByteArray.mk #[97, 35]), (ByteArray.mk #[98])]) x_0.1).size + (rd .str ([(ByteArray.mk #[]), (ByteArray.mk #[109]), (ByteArray.mk #[111]), (ByteArray.mk #[43]), (ByteArray.mk #[55])]) (IntKind.wrap .i64 (x_0.2.1 - 1))).size ≤ 211106232532992 then
 some ((rd .str ([(ByteArray.mk #[99]), (ByteArray.mk #[99, 35]), (ByteArray.mk #[100]), (ByteArray.mk #[100, 35]), (ByteArray.mk #[101]), (ByteArray.mk #[102]), (ByteArray.mk #[102, 35]), (ByteArray.mk #[103]), (ByteArray.mk #[103, 35]), (ByteArray.mk #[97]), (ByteArray.mk #[97, 35]), (ByteArray.mk #[98])]) x_0.1) ++ (rd .str ([(ByteArray.mk #[]), (ByteArray.mk #[109]), (ByteArray.mk #[111]), (ByteArray.mk #[43]), (ByteArray.mk #[55])]) (IntKind.wrap .i64 (x_0.2.1 - 1)))) else none else none else none else none else none := by kernel_rfl
theorem strings_Join_eq (k : Nat) (elems_0 : (List ByteArray)) (sep_1 : ByteArray) : strings_Join (k + 1) elems_0 sep_1 = primJoin .str [.val (.list .str) elems_0, .val .str sep_1] := by kernel_rfl
theorem spec_l1In_eq (k : Nat) (x_0 : Int) (least_1 : Int) (most_2 : Int) : spec_l1In (k + 1) x_0 least_1 most_2 =
 if (least_1 : Int) ≤ x_0 then
 some (decide ((x_0 : Int) ≤ most_2))
 else some false := by kernel_rfl
theorem impl_IsChord_eq (k : Nat) (x_0 : DT43) : impl_IsChord (k + 1) x_0 =
 (impl_InRange k x_0.1 0 11).bind fun r1 =>
 if r1 = true then
 (impl_InRange k x_0.2.1 1 5).bind fun r2 =>
 some (decide (r2 = true))
 else some false := by kernel_rfl
theorem impl_InRange_eq (k : Nat) (n_0 : Int) (low_1 : Int) (high_2 : Int) : impl_InRange (k + 1) n_0 low_1 high_2 =
 if (low_1 : Int) ≤ n_0 then
 some (decide ((n_0 : Int) ≤ high_2))
 else some false := by kernel_rfl
end Go.QFnExactFormatChords
