/- impl.halves, walked once. No condition. -/
import Derived.Test.YtfhbjleonpdanaaGreatDoorPrim
import Derived.Test.YtfhbjleonpdanaaGreatDoorProg
import Derived.WalkKit
import Derived.ProofKit
import Derived.Below
import Derived.KernelRfl
set_option linter.unusedSimpArgs false
namespace Go.Proofs
open Go.RowKit
theorem Tryz.idx_arr {P : Program} {t e : TypeId} {n : Nat} (h : P.underlying t = some (.array n e)) (hs : ∀ w, (sizeOf e).run P w = .ok 1 w) (ha : ∀ w, (isAgg e).run P w = .ok false w) (cs : Array Value) (i : Nat) (v : Value) (hi : i < n) (hv : cs[i]? = some v) (w : World) : (Instr.index t (.agg cs) (.int .i64 (i : Int))).run P w = .ok v w := by
  have h1 : (0 : Int) ≤ i ∧ (i : Int) < (n : Int) := by omega
  simp [Instr.index, run_underlying h, asIntOf, h1, hi, hs, ha, hv, go_sem]
def Tryz.halvesA : Array Value := #[.int .i64 0, .int .i64 2, .int .i64 4, .int .i64 5, .int .i64 7, .int .i64 9, .int .i64 11]
set_option maxRecDepth 100000 in
theorem Tryz.halves_walk (n : Int) (h0 : 0 ≤ n) (h1 : n < 7) (w : World) : Calls Tryz.prog 70 #[.int .i64 n] w fun e w' => e = .returned (.int .i64 (Flat.halvesT.getD n.toNat 0)) ∧ Below w.heap.size w w' := by
  have ht : Tryz.prog.underlying 138 = some (.array 7 3) := by kernel_rfl
  have hn : n = 0 ∨ n = 1 ∨ n = 2 ∨ n = 3 ∨ n = 4 ∨ n = 5 ∨ n = 6 := by omega
  rcases hn with rfl | rfl | rfl | rfl | rfl | rfl | rfl
  · have hx := Tryz.idx_arr ht Tryz.sizeOf3 Tryz.isAgg3 Tryz.halvesA 0 _ (by omega) rfl; simp only [Tryz.halvesA, Int.natCast_zero, Int.ofNat_zero, Int.cast_ofNat_Int] at hx; go_enter Tryz.func70, Tryz.ntmps70; go_wp2; go_ret; exact ⟨rfl, Below.refl _ _⟩
  · have hx := Tryz.idx_arr ht Tryz.sizeOf3 Tryz.isAgg3 Tryz.halvesA 1 _ (by omega) rfl; simp only [Tryz.halvesA, Int.natCast_one, Int.cast_ofNat_Int] at hx; go_enter Tryz.func70, Tryz.ntmps70; go_wp2; go_ret; exact ⟨rfl, Below.refl _ _⟩
  · have hx := Tryz.idx_arr ht Tryz.sizeOf3 Tryz.isAgg3 Tryz.halvesA 2 _ (by omega) rfl; simp only [Tryz.halvesA, Int.natCast_one, Int.cast_ofNat_Int] at hx; go_enter Tryz.func70, Tryz.ntmps70; go_wp2; go_ret; exact ⟨rfl, Below.refl _ _⟩
  · have hx := Tryz.idx_arr ht Tryz.sizeOf3 Tryz.isAgg3 Tryz.halvesA 3 _ (by omega) rfl; simp only [Tryz.halvesA, Int.natCast_one, Int.cast_ofNat_Int] at hx; go_enter Tryz.func70, Tryz.ntmps70; go_wp2; go_ret; exact ⟨rfl, Below.refl _ _⟩
  · have hx := Tryz.idx_arr ht Tryz.sizeOf3 Tryz.isAgg3 Tryz.halvesA 4 _ (by omega) rfl; simp only [Tryz.halvesA, Int.natCast_one, Int.cast_ofNat_Int] at hx; go_enter Tryz.func70, Tryz.ntmps70; go_wp2; go_ret; exact ⟨rfl, Below.refl _ _⟩
  · have hx := Tryz.idx_arr ht Tryz.sizeOf3 Tryz.isAgg3 Tryz.halvesA 5 _ (by omega) rfl; simp only [Tryz.halvesA, Int.natCast_one, Int.cast_ofNat_Int] at hx; go_enter Tryz.func70, Tryz.ntmps70; go_wp2; go_ret; exact ⟨rfl, Below.refl _ _⟩
  · have hx := Tryz.idx_arr ht Tryz.sizeOf3 Tryz.isAgg3 Tryz.halvesA 6 _ (by omega) rfl; simp only [Tryz.halvesA, Int.natCast_one, Int.cast_ofNat_Int] at hx; go_enter Tryz.func70, Tryz.ntmps70; go_wp2; go_ret; exact ⟨rfl, Below.refl _ _⟩
end Go.Proofs
