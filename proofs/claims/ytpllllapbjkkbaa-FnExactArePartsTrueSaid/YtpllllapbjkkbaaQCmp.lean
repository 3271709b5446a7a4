/- The comparison of events, as equations; printed by pe.py. No condition. -/
import Derived.Test.YtpllllapbjkkbaaEv
import Derived.Test.YtpllllapbjkkbaaProg
import Derived.KernelRfl
set_option linter.unusedVariables false
open Go Go.Flat
namespace Go.QCmp
abbrev T23 : Ty := .pair (.int .i64) (.pair (.int .i64) .unit)
abbrev DT23 := Int × (Int × Unit)
abbrev T127 : Ty := .pair (.int .i64) T23
abbrev DT127 := Int × DT23
abbrev T100 : Ty := .pair (.int .i64) T127
abbrev DT100 := Int × DT127
abbrev T90 : Ty := .pair (.int .i64) (.pair (.int .i64) (.pair (.int .i64) (.pair (.list (.int .i64)) .unit)))
abbrev DT90 := Int × (Int × (Int × ((List Int) × Unit)))
abbrev T110 : Ty := .pair (.int .i64) T100
abbrev DT110 := Int × DT100
abbrev T30 : Ty := .pair (.list T100) (.pair T23 (.pair (.list T23) (.pair (.dlist T90) (.pair (.list (.int .i64)) (.pair (.list T110) (.pair (.list T23) T23))))))
abbrev DT30 := (List DT100) × (DT23 × ((List DT23) × ((List DT90) × ((List Int) × ((List DT110) × ((List DT23) × DT23))))))
abbrev T123 : Ty := .pair (.list (.int .u8)) T23
abbrev DT123 := (List Int) × DT23
noncomputable def C : Cfg := {
  P := Go.Proofs.Try.prog,
  tt := [(1, none), (2, some (.int .i64)), (3, some (.int .i64)), (4, some .bool), (5, some (.int .u8)), (6, some (.int .u8)), (9, some .str), (10, some .str), (11, some .str), (12, some (.int .u64)), (15, none), (16, none), (17, none), (21, some (.int .i32)), (22, some (.list T100)), (23, some T23), (24, some T23), (25, some (.list T23)), (26, some (.dlist T90)), (27, some (.list (.int .i64))), (28, some (.list T110)), (29, some (.list T23)), (30, some T30), (31, some T30), (32, none), (33, none), (34, some (.list T100)), (35, some T23), (36, some (.list T23)), (37, some (.dlist T90)), (38, some (.list T110)), (39, some (.list T23)), (40, some T30), (41, some T30), (42, none), (43, none), (44, none), (45, some (.list (.int .u8))), (46, none), (47, some (.dlist (.list (.int .i64)))), (49, none), (51, none), (52, none), (53, none), (54, none), (55, none), (56, none), (57, none), (58, none), (59, none), (60, none), (61, some (.dlist (.list T127))), (63, none), (64, none), (65, none), (66, none), (67, none), (68, none), (69, none), (70, none), (71, none), (72, none), (73, none), (74, none), (75, none), (76, none), (77, none), (78, none), (79, none), (80, none), (81, none), (82, none), (83, none), (84, none), (85, none), (86, none), (87, none), (88, none), (89, none), (90, some T90), (91, some T90), (92, none), (93, some (.list T127)), (95, none), (96, none), (98, none), (99, none), (100, some T100), (101, some T100), (102, none), (103, some T100), (104, some T23), (105, some T23), (106, none), (107, some T23), (108, some T90), (109, none), (110, some T110), (111, some T110), (112, none), (113, some T110), (114, some T23), (115, some T23), (116, none), (117, some T23), (118, none), (119, none), (120, none), (121, none), (122, none), (123, some T123), (124, some T123), (125, none), (126, none), (127, some T127), (128, some T127), (129, none), (130, none), (131, none), (132, none), (133, none), (134, none), (135, none), (136, some (.int .u64)), (137, none), (138, none), (139, none), (140, none), (141, none), (142, none), (143, some (.int .i64)), (145, none), (146, none), (147, none), (149, none), (150, none), (151, some (.int .u32)), (152, none), (153, some (.int .u64)), (154, some (.int .u64)), (155, none), (156, none), (157, none), (158, none), (159, none), (160, none), (162, none), (163, none), (169, none), (170, some (.int .u8)), (171, some (.int .u8)), (172, none), (173, none), (174, some (.int .i32)), (175, some (.int .i32)), (178, none)],
  vars := [(93, [3, 6, 7, 8])],
  sigs := [],
  ptrs := [15, 16, 17, 79, 158, 160, 173],
  mono := true }
noncomputable def impl_eventOrder (k : Nat) (a_0 : DT100) (b_1 : DT100) : Option Int := run C k 85 (.int .i64) [.val T100 a_0, .val T100 b_1]
noncomputable def cmp_Compare_int (k : Nat) (x_0 : Int) (y_1 : Int) : Option Int := run C k 94 (.int .i64) [.val (.int .i64) x_0, .val (.int .i64) y_1]
noncomputable def cmp_Or_int (k : Nat) (vals_0 : (List Int)) : Option Int := run C k 93 (.int .i64) [.val (.list (.int .i64)) vals_0]
noncomputable def cmp_Or_int.l0 (k m : Nat) (zero_3 : Int) (t_6 : (List Int)) (t_7 : Int) (t_8 : Int) : Option Int := loopRun C k 93 (.int .i64) [0] [.r, .r, .l, .r, .b] [] [3, 6, 7, 8] m ⟨[.one (.cell (.int .i64 zero_3)), .one (.cell (.list false (.int .i64) t_6)), .one (.cell (.int .i64 t_7)), .one (.cell (.int .i64 t_8))], []⟩
noncomputable def cmp_isNaN_int (k : Nat) (x_0 : Int) : Option Bool := run C k 99 .bool [.val (.int .i64) x_0]
theorem impl_eventOrder_eq (k : Nat) (a_0 : DT100) (b_1 : DT100) : impl_eventOrder (k + 1) a_0 b_1 =
 (cmp_Compare_int k a_0.1 b_1.1).bind fun r1 =>
 (cmp_Compare_int k a_0.2.2.2.1 b_1.2.2.2.1).bind fun r2 =>
 (cmp_Compare_int k a_0.2.2.1 b_1.2.2.1).bind fun r3 =>
 (cmp_Or_int k ([r1, r2, r3])).bind fun r4 =>
 some r4 := by kernel_rfl
theorem cmp_Compare_int_eq (k : Nat) (x_0 : Int) (y_1 : Int) : cmp_Compare_int (k + 1) x_0 y_1 =
 (cmp_isNaN_int k x_0).bind fun r1 =>
 (cmp_isNaN_int k y_1).bind fun r2 =>
 if r1 = true then
 if r2 = true then
 some 0
 else some (-1)
 else if r2 = true then
 some 1
 else if (x_0 : Int) < y_1 then
 some (-1)
 else if (y_1 : Int) < x_0 then
 some 1
 else some 0 := by kernel_rfl
theorem cmp_Or_int_eq (k : Nat) (vals_0 : (List Int)) : cmp_Or_int (k + 1) vals_0 =
 cmp_Or_int.l0 k k 0 vals_0 ((List.length vals_0 : Nat) : Int) 0 := by kernel_rfl
theorem cmp_Or_int.l0_eq (k m : Nat) (zero_3 : Int) (t_6 : (List Int)) (t_7 : Int) (t_8 : Int) : cmp_Or_int.l0 k (m + 1) zero_3 t_6 t_7 t_8 =
 if (t_8 : Int) < t_7 then
 if 0 ≤ t_8 then
 if t_8 < ((List.length t_6 : Nat) : Int) then
 if Ne (α := Int) (rd (.int .i64) t_6 t_8) zero_3 then
 some (rd (.int .i64) t_6 t_8)
 else cmp_Or_int.l0 k m zero_3 t_6 t_7 (IntKind.wrap .i64 (t_8 + 1)) else none else none
 else some zero_3 := by kernel_rfl
theorem cmp_isNaN_int_eq (k : Nat) (x_0 : Int) : cmp_isNaN_int (k + 1) x_0 =
 some (decide ((x_0 : Int) ≠ x_0)) := by kernel_rfl
end Go.QCmp
