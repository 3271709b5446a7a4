/- slices.Delete out of a row of structs, walked once: function 114. No condition. -/
import Derived.Test.YtmocpfgfjeaelaaGreatInsG
import Derived.Test.YtmocpfgfjeaelaaGreatProg
set_option linter.unusedVariables false
set_option linter.unusedSimpArgs false
namespace Go.Proofs
open Go.RowKit Go.Lib Go.iE
set_option maxHeartbeats 4000000 in
set_option maxRecDepth 100000 in
theorem Tryz.Ju (b off n c i j : Nat) (cs : List Value) (w : World) (hij : i < j) (hj : j <= n) (hnc : n <= c) (hn63 : n <= 4611686018427387904)
  (hcl : cs.length = n * 4) (hcs : ∀ j v, cs[j]? = some v -> w.cell? ⟨b, off + j, none⟩ = some v) (hfz : ∀ j, j < n * 4 -> w.frozen? ⟨b, off + j, none⟩ = false) (h1c : ∀ v ∈ cs, v.oneCell' = true) :
  Calls Tryz.prog 114 #[.slice (some ⟨b, off, none⟩) n c, .int .i64 i, .int .i64 j] w fun e w' =>
   e = .returned (.slice (some ⟨b, off, none⟩) (i + (n - j)) c) /\ w' = (w.drew.setCells b (off + i * 4) (cs.drop (j * 4))).setCells b (off + (i + (n - j)) * 4) (Builtin.zeroCells (Value.cells (.agg #[.int .i64 0, .int .i64 0, .int .i64 0, .slice none 0 0])) (j - i)).toList := by
 have ht : Tryz.prog.underlying 28 = some (.slice 44) := by kernel_rfl
 obtain ⟨i0, hi0, hz0, hzs, hzb⟩ := info_parts (P := Tryz.prog) (e := 44) (z := .agg #[.int .i64 0, .int .i64 0, .int .i64 0, .slice none 0 0]) (size := 4) (bytes := 48) (by kernel_rfl)
 have hdl : (cs.drop (j * 4)).length = (n - j) * 4 := by rw [List.length_drop, hcl]; omega
 have hsp : ∀ k, k < n * 4 -> (w.cell? ⟨b, off + k, none⟩).isSome = true := fun k hk => by
  rw [hcs k _ (List.getElem?_eq_getElem (by omega))]; rfl
 have hz2 : ¬ ((i : Int) = (j : Int)) := by omega
 have hb1 : (i : Int) <= (j : Int) := by omega
 have hb1' : i <= j := by omega
 have hb2 : (j : Int) <= (n : Int) := by omega
 have hb3 : i <= n := by omega
 have hb4 : (i : Int) <= (n : Int) := by omega
 have hb5 : i <= c := by omega
 have hb6 : ¬ (c = i) := by omega
 have hb7 : i + (n - j) <= n := by omega
 have hb8 : i + (n - j) <= c := by omega
 have hb9 : ¬ (c = i + (n - j)) := by omega
 have ZI : n - (i + (n - j)) = j - i := by omega
 have adz : j <= c := by omega
 have adA : (i : Int) <= (c : Int) := by omega
 have adB : (j : Int) <= (c : Int) := by omega
 have adC : (n : Int) <= (c : Int) := by omega
 have mixed : Tryz.prog.follows .mixedOrders = true := by kernel_rfl
 have hap : ∀ (A : Addr) ty sc, (∀ k v, (cs.drop (j * 4))[k]? = some v -> w.cell? (A.add k) = some v) -> (Builtin.append_ #[28, 28] ty #[.slice (some ⟨b, off, none⟩) i c, .slice (some A) (n - j) sc]).run Tryz.prog w.drew = .ok (.slice (some ⟨b, off, none⟩) (i + (n - j)) c) (w.drew.setCells b (off + i * 4) (cs.drop (j * 4))) := fun A ty sc hA => by
  have hsrc : Src Tryz.prog i0.size 28 (.slice (some A) (n - j) sc) (n - j) (cs.drop (j * 4)) w.drew := by
   rw [hzs]
   exact Src.ofSlice w.drew ht A (n - j) sc _ hdl hA (fun v hv => h1c v (List.mem_of_mem_drop hv))
  have := run_append_room_src w.drew 28 28 ty 44 i0 ht hi0 b off i c _ (n - j) _ hsrc hb8 (by rw [hdl, hzs]; intro k hk; rw [Nat.add_assoc]; exact hsp _ (by omega)) (by rw [hdl, hzs]; intro k hk; rw [Nat.add_assoc]; exact hfz _ (by omega))
  rw [hzs] at this
  exact this
 obtain ⟨W1, hW1⟩ : ∃ W1, W1 = w.drew.setCells b (off + i * 4) (cs.drop (j * 4)) := ⟨_, rfl⟩
 have hsp1 : ∀ k, k < n * 4 -> (W1.cell? ⟨b, off + k, none⟩).isSome = true := fun k hk => by
  rw [hW1]
  exact iE.isSome_setCells b _ _ _ (fun j hj => by rw [Nat.add_assoc]; exact hsp _ (by omega)) _ (hsp k hk)
 have hzl : (Builtin.zeroCells (Value.cells (.agg #[.int .i64 0, .int .i64 0, .int .i64 0, .slice none 0 0])) (j - i)).size = (j - i) * 4 := by
  have : (Value.cells (.agg #[.int .i64 0, .int .i64 0, .int .i64 0, .slice none 0 0])).size = 4 := by rfl
  simp [Builtin.zeroCells, this]
 have MI : ∀ ty dc, (Builtin.clear_ #[28] ty #[.slice (some ⟨b, off + (i + (n - j)) * 4, none⟩) (j - i) dc]).run Tryz.prog W1 = .ok undef (W1.setCells b (off + (i + (n - j)) * 4) (Builtin.zeroCells (Value.cells (.agg #[.int .i64 0, .int .i64 0, .int .i64 0, .slice none 0 0])) (j - i)).toList) := fun ty dc =>
  iE.Lf W1 28 44 ty (.agg #[.int .i64 0, .int .i64 0, .int .i64 0, .slice none 0 0]) 4 ht hi0 hz0 b (off + (i + (n - j)) * 4) (j - i) dc (by omega) (by rw [hzl]; intro k hk; rw [Nat.add_assoc]; exact hsp1 _ (by omega)) (by rw [hzl]; intro k hk; rw [hW1, World.frozen?_setCells, Nat.add_assoc]; exact hfz _ (by omega))
   (iE.Lg _ _ (by first | rfl | decide | simp [Value.cells, Value.oneCell']))
 subst hW1
 by_cases hcj : c = j
 ·have hn : n = c := by omega
  subst hn
  subst hcj
  have hd0 : cs.drop (n * 4) = [] := List.drop_eq_nil_of_le (by omega)
  simp only [Nat.sub_self, Nat.add_zero] at hap MI ZI ⊢
  rw [hd0] at hap MI ⊢
  go_enter Tryz.func114, Tryz.ntmps114
  go_wp2
  go_region_law_o (refine iE.pE rfl _ _ 28 28 rfl _ _ (by simp [Act.eval, Act.put]) (by simp [Act.eval, Act.put]; exact ⟨rfl, rfl⟩) (hap _ _ _ (by intro k v hk; simp at hk)) ?_)
  go_wp2_with (simp only [MI])
  go_ret
  exact ⟨rfl, rfl⟩
 ·go_enter Tryz.func114, Tryz.ntmps114
  go_wp2
  go_region_law_o (refine iE.pE rfl _ _ 28 28 rfl _ _ (by simp [Act.eval, Act.put]) (by simp [Act.eval, Act.put]; rfl) (hap ⟨b, off + j * 4, none⟩ _ _ (fun k v hk => by rw [Addr.add_lit, Nat.add_assoc]; exact hcs _ v (by rwa [List.getElem?_drop] at hk))) ?_)
  go_wp2_with (simp only [MI])
  go_ret
  exact ⟨rfl, rfl⟩
end Go.Proofs
