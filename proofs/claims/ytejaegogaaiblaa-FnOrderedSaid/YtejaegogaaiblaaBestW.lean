/- impl.BestOrder, walked: a closure that calls itself, writes what it captured and lends its row. No condition. -/
import Derived.Test.YtejaegogaaiblaaPureBest
import Derived.Test.YtejaegogaaiblaaBestF
import Derived.Test.YtejaegogaaiblaaDraw4
import Derived.Test.YtejaegogaaiblaaPur
import Derived.Test.YtejaegogaaiblaaProg
import Derived.WalkKit
import Derived.ProofKit
import Derived.Below
import Derived.OwnWalk
import Derived.Deep.RegionHeld3
import Derived.Laws.EntriesVeiled
import Derived.KernelRfl
set_option linter.unusedVariables false
set_option linter.unusedSimpArgs false
namespace Go.Proofs
open Go.RowKit Go.Flat
theorem Try.bestInfo3 : (Try.prog.info? 3).map (fun i => (i.zero, i.size, i.bytes)) = some (some (.int .i64 0), 1, 8) := by kernel_rfl
theorem heap_lt {w : World} {b : Nat} {x : Obj} (h : w.heap[b]? = some x) : b < w.heap.size := (Array.getElem?_eq_some_iff.1 h).1
theorem heap_setCell_at {w : World} {b : Nat} {x v : Value} {e : TypeId} (h : w.heap[b]? = some (.cells #[x] e (0, 0))) : (w.setCell ⟨b, 0, none⟩ v).heap[b]? = some (.cells #[v] e (0, 0)) := by
  simp [World.setCell, Array.getElem?_modify, h]
theorem heap_setCell_ne {w : World} {b k : Nat} {v : Value} (h : k ≠ b) : (w.setCell ⟨b, 0, none⟩ v).heap[k]? = w.heap[k]? := Below.heap_setCell w ⟨b, 0, none⟩ v k h
theorem cell_of {w : World} {b : Nat} {x : Value} {e : TypeId} (h : w.heap[b]? = some (.cells #[x] e (0, 0))) : w.cell? ⟨b, 0, none⟩ = some x := by simp [World.cell?, h]
theorem froz_of {w : World} {b : Nat} {x : Value} {e : TypeId} (h : w.heap[b]? = some (.cells #[x] e (0, 0))) : w.frozen? ⟨b, 0, none⟩ = false := by simp [World.frozen?, h]
theorem heap_new (w : World) (o : Obj) : (w.alloc o).heap[w.heap.size]? = some o := by
  show (w.heap.push o)[w.heap.size]? = _
  simp
theorem cell_new1 (w : World) (x : Value) (e : TypeId) (j : Nat) (u : Value) (h : [x][j]? = some u) : (w.alloc (.cells #[x] e)).cell? ((⟨w.heap.size, 0, none⟩ : Addr).add j) = some u := by
  match j, h with
  | 0, h =>
    simp at h
    subst h
    have : ((⟨w.heap.size, 0, none⟩ : Addr).add 0) = ⟨w.heap.size, 0, none⟩ := by simp [Addr.add]
    rw [this, World.cell?_alloc_at _ _ _ _ rfl]
    rfl
theorem one_int (x : Int) : ∀ u ∈ [Value.int .i64 x], u.oneCell' = true := by
  intro u hu
  simp at hu
  subst hu
  rfl
/-- A row with its own block: kept while the block is. -/
theorem row_keep {w w' : World} {N g n cp : Nat} {xs : List Value} (h : w.ownsRow N 3 1 (.slice (some ⟨g, 0, none⟩) n cp) n xs) (hg : w'.heap[g]? = w.heap[g]?) : w'.ownsRow N 3 1 (.slice (some ⟨g, 0, none⟩) n cp) n xs := by
  obtain ⟨h1, ⟨h2, _⟩ | ⟨g', c', cur, h2, h3, h4, h5⟩⟩ := h
  · cases h2
  · cases h2
    exact ⟨h1, .inr ⟨g, cp, cur, rfl, h3, by rw [hg]; exact h4, h5⟩⟩
theorem row_lt {w : World} {N g n cp : Nat} {xs : List Value} (h : w.ownsRow N 3 1 (.slice (some ⟨g, 0, none⟩) n cp) n xs) : N ≤ g ∧ g < w.heap.size ∧ n ≤ cp := by
  obtain ⟨h1, ⟨h2, _⟩ | ⟨g', c', cur, h2, h3, h4, h5, _⟩⟩ := h
  · cases h2
  · cases h2
    exact ⟨h3, heap_lt h4, h5⟩
/-- A row's beginning is a row. -/
theorem row_pre {w : World} {N g n cp : Nat} {t : List Int} {x : Int} (hn : t.length = n) (h : w.ownsRow N 3 1 (.slice (some ⟨g, 0, none⟩) (n + 1) cp) (n + 1) ((t ++ [x]).map (Value.int .i64))) : w.ownsRow N 3 1 (.slice (some ⟨g, 0, none⟩) n cp) n (t.map (Value.int .i64)) := by
  obtain ⟨q1, ⟨q2, _⟩ | ⟨g', c', cur, q2, q3, q4, q5, q6, q7, q8⟩⟩ := h
  · cases q2
  · cases q2
    refine ⟨by simp [hn], .inr ⟨g, cp, cur, rfl, q3, q4, by omega, q6, q7, ?_⟩⟩
    have : cur.toList.take (n * 1) = (cur.toList.take ((n + 1) * 1)).take (n * 1) := by rw [List.take_take]; congr 1; omega
    rw [this, q8, ← hn]
    simp
/-- 'append(order, k)': in place, or into a new row; the old row is as it was. -/
theorem append_any {P : Program} {T : TypeId} (w : World) (N g cp : Nat) (t : List Int) (x : Int) (i0 : TypeInfo) (ht : P.underlying T = some (.slice 3)) (hi : P.info? 3 = some i0) (hz0 : i0.zero = some (.int .i64 0)) (hz1 : i0.size = 1) (hz2 : i0.bytes = 8)
    (hown : w.ownsRow N 3 1 (.slice (some ⟨g, 0, none⟩) t.length cp) t.length (t.map (Value.int .i64))) (hN : N ≤ w.heap.size) (hl : t.length ≤ 1048576) (H : Nat) (hH : (w.alloc (.cells #[.int .i64 x] 3)).heap.size = H) :
    ∃ g' cp' W', (∀ ty, (Builtin.append_ #[T, T] ty #[.slice (some ⟨g, 0, none⟩) t.length cp, .slice (some ⟨w.heap.size, 0, none⟩) 1 1]).run P (w.alloc (.cells #[.int .i64 x] 3)) = .ok (.slice (some ⟨g', 0, none⟩) (t.length + 1) cp') W') ∧
      W'.ownsRow N 3 1 (.slice (some ⟨g', 0, none⟩) (t.length + 1) cp') (t.length + 1) ((t ++ [x]).map (Value.int .i64)) ∧ (w.alloc (.cells #[.int .i64 x] 3)).grownBy W' (some g) ∧
      (g' = g ∧ cp' = cp ∨ H ≤ g' ∧ W'.ownsRow N 3 1 (.slice (some ⟨g, 0, none⟩) t.length cp) t.length (t.map (Value.int .i64))) := by
  have hm : (t ++ [x]).map (Value.int .i64) = t.map (Value.int .i64) ++ [.int .i64 x] := by simp
  rw [hm]
  have hown2 := hown.alloc (.cells #[.int .i64 x] 3)
  by_cases hr : t.length + 1 ≤ cp
  · have key : ∀ ty, ∃ w', _ := fun ty => run_append_fits (P := P) (w.alloc (.cells #[.int .i64 x] 3)) N T ty 3 i0 1 ht hi hz1 g t.length cp _ hown2 ⟨w.heap.size, 0, none⟩ 1 1 [.int .i64 x] rfl (cell_new1 _ _ _) (one_int _) hr
    obtain ⟨W', h1, h2, h3⟩ := key 0
    refine ⟨g, cp, W', fun ty => ?_, h2, h3, .inl ⟨rfl, rfl⟩⟩
    rw [← h1]
    rfl
  · have key : ∀ ty, ∃ v' w', _ := fun ty => run_append_own (P := P) (w.alloc (.cells #[.int .i64 x] 3)) N T ty 3 i0 (.int .i64 0) 1 8 ht hi hz0 hz1 hz2 rfl (by decide) _ t.length _ hown2 ⟨w.heap.size, 0, none⟩ 1 1 [.int .i64 x] rfl (cell_new1 _ _ _) (one_int _) (by unfold maxLen; omega) (by omega) (by simp; omega)
    obtain ⟨v', W', h1, h2, h3, _⟩ := key 0
    have hold : (Builtin.firstCells i0.size t.length (.slice (some ⟨g, 0, none⟩) t.length cp)).run P (w.alloc (.cells #[.int .i64 x] 3)).drew = .ok (t.map (Value.int .i64)).toArray (w.alloc (.cells #[.int .i64 x] 3)).drew :=
      run_firstCells_some _ i0.size t.length ⟨g, 0, none⟩ t.length cp _ (by simp [hz1]) (hown2.cells rfl)
    have hg := fun ty => run_append_grow_src (P := P) (w.alloc (.cells #[.int .i64 x] 3)) T T ty 3 i0 (.int .i64 0) ht hi hz0 (some ⟨g, 0, none⟩) t.length cp (t.map (Value.int .i64)) hold (.slice (some ⟨w.heap.size, 0, none⟩) 1 1) 1 [.int .i64 x]
      (Src.ofSlice _ ht ⟨w.heap.size, 0, none⟩ 1 1 _ (by simp [hz1]) (cell_new1 _ _ _) (one_int _)) (by omega) (by omega) (by rw [hz2]; exact growslice_fits (by omega) (by omega))
    rw [hg 0] at h1
    cases h1
    refine ⟨_, _, _, hg, h2, ?_, .inr ⟨by rw [hH]; exact Nat.le_refl _, row_keep hown2 ?_⟩⟩
    · exact h3
    · have hlt := (row_lt hown2).2.1
      exact (Below.heap_alloc _ _ g hlt).trans rfl
structure BI (N EB BB FB : Nat) (fv : Value) (wb w : World) (S : Nat → Prop) (s : List Int × Int) : Prop where
  below : Below N wb w
  lt : N ≤ w.heap.size
  fb : w.heap[FB]? = some (.cells #[fv] 50 (0, 0))
  eb : w.heap[EB]? = some (.cells #[.int .i64 s.2] 3 (0, 0))
  bb : ∃ v, w.heap[BB]? = some (.cells #[v] 25 (0, 0)) ∧ NumRow w v s.1 N S
theorem BI.step {N EB BB FB : Nat} {fv : Value} {wb w w' : World} {S : Nat → Prop} {s : List Int × Int} (h : BI N EB BB FB fv wb w S s) (hb : Below w.heap.size w w') (hS : ∀ b, S b → b < w.heap.size) : BI N EB BB FB fv wb w' S s := by
  obtain ⟨h1, h2, h3, h4, v, h5, h6⟩ := h
  exact ⟨h1.trans (hb.mono h2), Nat.le_trans h2 hb.size, by rw [hb.block FB (heap_lt h3)]; exact h3, by rw [hb.block EB (heap_lt h4)]; exact h4, v, by rw [hb.block BB (heap_lt h5)]; exact h5, h6.keep hb.size (fun b hb' _ => hb.block b hb') (fun b _ h => h)⟩
theorem BI.weak {N EB BB FB : Nat} {fv : Value} {wb w : World} {S S' : Nat → Prop} {s : List Int × Int} (h : BI N EB BB FB fv wb w S s) (hS : ∀ b, S' b → S b) : BI N EB BB FB fv wb w S' s := by
  obtain ⟨h1, h2, h3, h4, v, h5, h6⟩ := h
  exact ⟨h1, h2, h3, h4, v, h5, h6.keep (Nat.le_refl _) (fun _ _ _ => rfl) (fun b _ h => hS b h)⟩
/-- Behind an append onto a row of S. -/
theorem BI.push {N EB BB FB : Nat} {fv : Value} {wb w w' : World} {S : Nat → Prop} {s : List Int × Int} {g g' : Nat} (h : BI N EB BB FB fv wb w S s) (hg : S g) (hgN : N ≤ g) (hE : g ≠ EB) (hB : g ≠ BB) (hF : g ≠ FB) (hgr : w.grownBy w' (some g)) (hg' : g' = g ∨ w.heap.size ≤ g') :
    BI N EB BB FB fv wb w' (fun b => S b ∨ b = g') s := by
  obtain ⟨h1, h2, h3, h4, v, h5, h6⟩ := h
  have k : ∀ b, b < w.heap.size → b ≠ g → w'.heap[b]? = w.heap[b]? := fun b hb hne => hgr.block b hb (fun h => hne (Option.some.inj h))
  refine ⟨h1.grown hgr h2 (fun k hk => by cases hk; exact hgN), Nat.le_trans h2 hgr.size, ?_, ?_, v, ?_, h6.keep hgr.size (fun b hb hS => k b hb (fun h => hS (by rw [h]; exact hg))) (fun b hb h => ?_)⟩
  · rw [k FB (heap_lt h3) hF.symm]; exact h3
  · rw [k EB (heap_lt h4) hE.symm]; exact h4
  · rw [k BB (heap_lt h5) hB.symm]; exact h5
  · rcases h with h | h
    · exact h
    · rcases hg' with h' | h'
      · rw [h, h']; exact hg
      · omega
/-- Behind the stores of a new best. -/
theorem BI.put {N EB BB FB : Nat} {fv v : Value} {wb w : World} {S : Nat → Prop} {s : List Int × Int} {t : List Int} {c : Int} (h : BI N EB BB FB fv wb w S s) (hEN : N ≤ EB) (hBN : N ≤ BB) (hEB : EB ≠ BB) (hEF : EB ≠ FB) (hBF : BB ≠ FB) (hSE : S EB) (hSB : S BB) (hv : NumRow w v t N S) :
    BI N EB BB FB fv wb ((w.setCell ⟨BB, 0, none⟩ v).setCell ⟨EB, 0, none⟩ (.int .i64 c)) S (t, c) := by
  obtain ⟨h1, h2, h3, h4, v0, h5, _⟩ := h
  have hsz : ((w.setCell ⟨BB, 0, none⟩ v).setCell ⟨EB, 0, none⟩ (.int .i64 c)).heap.size = w.heap.size := by simp [World.setCell]
  refine ⟨(h1.setCell hBN _).setCell hEN _, by rw [hsz]; exact h2, ?_, ?_, v, ?_, hv.keep (by rw [hsz]; exact Nat.le_refl _) (fun b _ hS => ?_) (fun b _ h => h)⟩
  · rw [heap_setCell_ne hEF.symm, heap_setCell_ne hBF.symm]; exact h3
  · exact heap_setCell_at (x := .int .i64 s.2) (by rw [heap_setCell_ne hEB]; exact h4)
  · rw [heap_setCell_ne hEB.symm]; exact heap_setCell_at h5
  · rw [heap_setCell_ne (fun h => hS (by rw [h]; exact hSE)), heap_setCell_ne (fun h => hS (by rw [h]; exact hSB))]
theorem num_base {w : World} {v : Value} {xs : List Int} {N M : Nat} {S S' : Nat → Prop} (h : NumRow w v xs M S) (hN : N ≤ M) (hS : ∀ b, S' b → S b) : NumRow w v xs N S' := by
  obtain ⟨π, h1, h2⟩ := h
  exact ⟨π, h1, fun p hp => ⟨Nat.le_trans hN (h2 p hp).1, (h2 p hp).2.1, fun h => (h2 p hp).2.2 (hS _ h)⟩⟩
/-- What a call of 'extend' leaves, for its caller. -/
def Ext (EB BB g : Nat) (w w' : World) : Prop := w.heap.size ≤ w'.heap.size ∧ ∀ b, b < w.heap.size → b ≠ EB → b ≠ BB → b ≠ g → w'.heap[b]? = w.heap[b]?
def FVo (EB BB FB LB : Nat) : Value := .func (.func 26) #[] #[.pointer (some ⟨LB, 0, none⟩), .pointer (some ⟨EB, 0, none⟩), .pointer (some ⟨BB, 0, none⟩), .pointer (some ⟨FB, 0, none⟩)]
set_option maxHeartbeats 1600000 in
set_option maxRecDepth 1000000 in
theorem best_leaf (N LB EB BB FB len cap : Nat) (wb : World) (la : Option Addr) (cost : List Int → Int) (fv : Value)
    (hL : wb.cell? ⟨LB, 0, none⟩ = some (.slice la len cap)) (hLB : LB < N) (hEN : N ≤ EB) (hBN : N ≤ BB) (hEB : EB ≠ BB) (hEF : EB ≠ FB) (hBF : BB ≠ FB) (hlen : len ≤ 1048576)
    (hCost : ∀ (w : World) (g cp : Nat) (t : List Int), Below N wb w → w.ownsRow N 3 1 (.slice (some ⟨g, 0, none⟩) t.length cp) t.length (t.map (Value.int .i64)) → t.length ≤ 1048576 → Calls Try.prog 8 #[.slice la len cap, .slice (some ⟨g, 0, none⟩) t.length cp] w fun e w' => e = .returned (.int .i64 (cost t)) ∧ Below w.heap.size w w')
    (hClone : ∀ (w : World) (g cp : Nat) (t : List Int), w.ownsRow N 3 1 (.slice (some ⟨g, 0, none⟩) t.length cp) t.length (t.map (Value.int .i64)) → t.length ≤ 1048576 → Calls Try.prog 27 #[.slice (some ⟨g, 0, none⟩) t.length cp] w fun e w' => ∃ v, e = .returned v ∧ Below w.heap.size w w' ∧ NumRow w' v t w.heap.size (fun b => b < w.heap.size))
    (S : Nat → Prop) (t : List Int) (g cp : Nat) (s : List Int × Int) (w : World) (hs : BI N EB BB FB fv wb w S s) (hrow : w.ownsRow N 3 1 (.slice (some ⟨g, 0, none⟩) t.length cp) t.length (t.map (Value.int .i64))) (hSg : S g) (hSE : S EB) (hSB : S BB) (hSF : S FB) (hS : ∀ b, S b → b < w.heap.size) (hgE : g ≠ EB) (hgB : g ≠ BB) (ht : t.length = len) :
    Calls Try.prog 26 #[.slice (some ⟨g, 0, none⟩) t.length cp, .pointer (some ⟨LB, 0, none⟩), .pointer (some ⟨EB, 0, none⟩), .pointer (some ⟨BB, 0, none⟩), .pointer (some ⟨FB, 0, none⟩)] w fun e w' => e = .returned (.tuple #[]) ∧ BI N EB BB FB fv wb w' S (if s.2 < 0 ∨ cost t < s.2 then (t, cost t) else s) ∧
      w'.ownsRow N 3 1 (.slice (some ⟨g, 0, none⟩) t.length cp) t.length (t.map (Value.int .i64)) ∧ Ext EB BB g w w' := by
  have c1 := (hs.below.cell (p := ⟨LB, 0, none⟩) hLB).trans hL
  have hzb : ((t.length : Int) == (len : Int)) = true := by simp; omega
  have htl : t.length ≤ 1048576 := by omega
  clear ht
  have hlt := (row_lt hrow).2.1
  have EXT : ∀ w', Below w.heap.size w w' → Ext EB BB g w w' := fun w' hb => ⟨hb.size, fun b h _ _ _ => hb.block b h⟩
  by_cases h1 : s.2 < 0
  · rw [if_pos (.inl h1)]
    go_enter Try.func26, Try.ntmps26
    go_wp2_with (first
      | (go_at_call 8; refine (hCost _ g cp t hs.below hrow htl).mono ?_; rintro e w2 ⟨rfl, hb2⟩; have hs2 := hs.step hb2 hS; have d1 := cell_of hs2.eb; have hrow2 := row_keep hrow (hb2.block g hlt))
      | (go_at_call 27; refine (hClone _ g cp t hrow2 htl).mono ?_; rintro e w3 ⟨v, rfl, hb3, hv⟩; obtain ⟨va, vc, rfl⟩ := hv.shape; have hs3 := hs2.step hb3 (fun b h => Nat.lt_of_lt_of_le (hS b h) hb2.size); obtain ⟨v0, hb0, _⟩ := hs3.bb; have q0 := cell_of hb0; have q1 := froz_of hb0; have e0 := (heap_setCell_ne (v := .slice va t.length vc) hEB).trans hs3.eb; have q2 := cell_of e0; have q3 := froz_of e0))
    refine bodyPost_ret (results_none rfl _ _ _) rfl ?_
    have hg3 : w3.heap[g]? = w.heap[g]? := (hb3.block g (Nat.lt_of_lt_of_le hlt hb2.size)).trans (hb2.block g hlt)
    refine ⟨rfl, hs3.put hEN hBN hEB hEF hBF hSE hSB (num_base hv hs2.lt (fun b h => Nat.lt_of_lt_of_le (hS b h) hb2.size)), row_keep hrow ?_, ?_, fun b h1 h2 h3 h4 => ?_⟩
    · rw [heap_setCell_ne hgE, heap_setCell_ne hgB, hg3]
    · have : ((w3.setCell ⟨BB, 0, none⟩ (.slice va t.length vc)).setCell ⟨EB, 0, none⟩ (.int .i64 (cost t))).heap.size = w3.heap.size := by simp [World.setCell]
      rw [this]
      exact Nat.le_trans hb2.size hb3.size
    · rw [heap_setCell_ne h2, heap_setCell_ne h3, hb3.block b (Nat.lt_of_lt_of_le h1 hb2.size), hb2.block b h1]
  by_cases h2 : cost t < s.2
  · rw [if_pos (.inr h2)]
    have h1' : decide (s.2 < 0) = false := by simpa using h1
    have h2' : decide (cost t < s.2) = true := by simpa using h2
    go_enter Try.func26, Try.ntmps26
    go_wp2_with (first
      | (go_at_call 8; refine (hCost _ g cp t hs.below hrow htl).mono ?_; rintro e w2 ⟨rfl, hb2⟩; have hs2 := hs.step hb2 hS; have d1 := cell_of hs2.eb; have hrow2 := row_keep hrow (hb2.block g hlt))
      | (go_at_call 27; refine (hClone _ g cp t hrow2 htl).mono ?_; rintro e w3 ⟨v, rfl, hb3, hv⟩; obtain ⟨va, vc, rfl⟩ := hv.shape; have hs3 := hs2.step hb3 (fun b h => Nat.lt_of_lt_of_le (hS b h) hb2.size); obtain ⟨v0, hb0, _⟩ := hs3.bb; have q0 := cell_of hb0; have q1 := froz_of hb0; have e0 := (heap_setCell_ne (v := .slice va t.length vc) hEB).trans hs3.eb; have q2 := cell_of e0; have q3 := froz_of e0))
    refine bodyPost_ret (results_none rfl _ _ _) rfl ?_
    have hg3 : w3.heap[g]? = w.heap[g]? := (hb3.block g (Nat.lt_of_lt_of_le hlt hb2.size)).trans (hb2.block g hlt)
    refine ⟨rfl, hs3.put hEN hBN hEB hEF hBF hSE hSB (num_base hv hs2.lt (fun b h => Nat.lt_of_lt_of_le (hS b h) hb2.size)), row_keep hrow ?_, ?_, fun b h1 h2 h3 h4 => ?_⟩
    · rw [heap_setCell_ne hgE, heap_setCell_ne hgB, hg3]
    · have : ((w3.setCell ⟨BB, 0, none⟩ (.slice va t.length vc)).setCell ⟨EB, 0, none⟩ (.int .i64 (cost t))).heap.size = w3.heap.size := by simp [World.setCell]
      rw [this]
      exact Nat.le_trans hb2.size hb3.size
    · rw [heap_setCell_ne h2, heap_setCell_ne h3, hb3.block b (Nat.lt_of_lt_of_le h1 hb2.size), hb2.block b h1]
  · rw [if_neg (fun h => h.elim h1 h2)]
    have h1' : decide (s.2 < 0) = false := by simpa using h1
    have h2' : decide (cost t < s.2) = false := by simpa using h2
    go_enter Try.func26, Try.ntmps26
    go_wp2_with (go_at_call 8; refine (hCost _ g cp t hs.below hrow htl).mono ?_; rintro e w2 ⟨rfl, hb2⟩; have hs2 := hs.step hb2 hS; have d1 := cell_of hs2.eb; have hrow2 := row_keep hrow (hb2.block g hlt))
    refine bodyPost_ret (results_none rfl _ _ _) rfl ?_
    exact ⟨rfl, hs2, hrow2, EXT _ hb2⟩
set_option maxHeartbeats 1600000 in
set_option maxRecDepth 1000000 in
theorem best_node (N LB EB BB FB len cap : Nat) (wb : World) (la : Option Addr) (fv : Value) (hfv : fv = .func (.func 26) #[] #[.pointer (some ⟨LB, 0, none⟩), .pointer (some ⟨EB, 0, none⟩), .pointer (some ⟨BB, 0, none⟩), .pointer (some ⟨FB, 0, none⟩)])
    (hL : wb.cell? ⟨LB, 0, none⟩ = some (.slice la len cap)) (hLB : LB < N) (hEN : N ≤ EB) (hBN : N ≤ BB) (hEB : EB ≠ BB) (hEF : EB ≠ FB) (hBF : BB ≠ FB) (hlen : len ≤ 1048576)
    (hCon : ∀ (w : World) (g cp : Nat) (t : List Int) (x : Int), w.ownsRow N 3 1 (.slice (some ⟨g, 0, none⟩) t.length cp) t.length (t.map (Value.int .i64)) → t.length ≤ 1048576 → Calls Try.prog 28 #[.slice (some ⟨g, 0, none⟩) t.length cp, .int .i64 x] w fun e w' => e = .returned (.bool (decide (x ∈ t))) ∧ Below w.heap.size w w')
    (next : List Int × Int → List Int → List Int × Int) (S : Nat → Prop) (t : List Int) (g cp : Nat) (s : List Int × Int) (w : World)
    (ih : ∀ (S' : Nat → Prop) (t' : List Int) (g' cp' : Nat) (s' : List Int × Int) (w' : World), BI N EB BB FB fv wb w' S' s' → w'.ownsRow N 3 1 (.slice (some ⟨g', 0, none⟩) t'.length cp') t'.length (t'.map (Value.int .i64)) → S' g' → S' EB → S' BB → S' FB → (∀ b, S' b → b < w'.heap.size) → g' ≠ EB → g' ≠ BB → g' ≠ FB → t'.length = t.length + 1 →
      Calls Try.prog 26 #[.slice (some ⟨g', 0, none⟩) t'.length cp', .pointer (some ⟨LB, 0, none⟩), .pointer (some ⟨EB, 0, none⟩), .pointer (some ⟨BB, 0, none⟩), .pointer (some ⟨FB, 0, none⟩)] w' fun e w'' => e = .returned (.tuple #[]) ∧ BI N EB BB FB fv wb w'' S' (next s' t') ∧ w''.ownsRow N 3 1 (.slice (some ⟨g', 0, none⟩) t'.length cp') t'.length (t'.map (Value.int .i64)) ∧ Ext EB BB g' w' w'')
    (hs : BI N EB BB FB fv wb w S s) (hrow : w.ownsRow N 3 1 (.slice (some ⟨g, 0, none⟩) t.length cp) t.length (t.map (Value.int .i64))) (hSg : S g) (hSE : S EB) (hSB : S BB) (hSF : S FB) (hS : ∀ b, S b → b < w.heap.size) (hgE : g ≠ EB) (hgB : g ≠ BB) (hgF : g ≠ FB) (ht : t.length < len) :
    Calls Try.prog 26 #[.slice (some ⟨g, 0, none⟩) t.length cp, .pointer (some ⟨LB, 0, none⟩), .pointer (some ⟨EB, 0, none⟩), .pointer (some ⟨BB, 0, none⟩), .pointer (some ⟨FB, 0, none⟩)] w fun e w' => e = .returned (.tuple #[]) ∧ BI N EB BB FB fv wb w' S (bestGo next len t len s) ∧
      w'.ownsRow N 3 1 (.slice (some ⟨g, 0, none⟩) t.length cp) t.length (t.map (Value.int .i64)) ∧ Ext EB BB g w w' := by
  have c1 := (hs.below.cell (p := ⟨LB, 0, none⟩) hLB).trans hL
  have hzb : ((t.length : Int) == (len : Int)) = false := by simp; omega
  have HF : Hid (fv = .func (.func 26) #[] #[.pointer (some ⟨LB, 0, none⟩), .pointer (some ⟨EB, 0, none⟩), .pointer (some ⟨BB, 0, none⟩), .pointer (some ⟨FB, 0, none⟩)]) := hfv
  clear hfv
  obtain ⟨i0, hi0, hz0, hz1, hz2⟩ := info_parts Try.bestInfo3
  have htl : t.length ≤ 1048576 := by omega
  have HT : Hid (t.length < len) := ht
  clear ht
  go_enter Try.func26, Try.ntmps26
  go_wp2_with fail
  go_loopw [28] (fun i wr => ∃ k : Nat, k ≤ len ∧ i = .int .i64 k ∧ ∃ s', BI N EB BB FB fv wb wr S s' ∧ wr.ownsRow N 3 1 (.slice (some ⟨g, 0, none⟩) t.length cp) t.length (t.map (Value.int .i64)) ∧ Ext EB BB g w wr ∧ bestGo next len t len s = bestGo next len t (len - k) s')
    (fun i _ => len - (intOf i).toNat)
  case atStart => exact ⟨0, Nat.zero_le _, rfl, s, hs, hrow, ⟨Nat.le_refl _, fun _ _ _ _ _ => rfl⟩, rfl⟩
  case round =>
    clear c1
    obtain ⟨k, hk, rfl, s1, hs1, hrow1, hext, hgo⟩ := hrel
    have hS1 : ∀ b, S b → b < wr.heap.size := fun b h => Nat.lt_of_lt_of_le (hS b h) hext.1
    have hlt1 := (row_lt hrow1).2.1
    by_cases hkl : k < len
    · have hgo' := hgo.trans (bestGo_step hkl)
      by_cases hin : (k : Int) ∈ t
      · have hinb : decide ((k : Int) ∈ t) = true := by simpa using hin
        rw [hinb, if_pos rfl] at hgo'
        go_wp2_with (go_at_call 28; refine (hCon _ g cp t k hrow1 htl).mono ?_; rintro e w2 ⟨rfl, hb2⟩; have hs2 := hs1.step hb2 hS1; have hrow2 := row_keep hrow1 (hb2.block g hlt1))
        go_roundw
        case rel => exact ⟨k + 1, by omega, by go_num, s1, hs2, hrow2, ⟨Nat.le_trans hext.1 hb2.size, fun b h1 h2 h3 h4 => (hb2.block b (Nat.lt_of_lt_of_le h1 hext.1)).trans (hext.2 b h1 h2 h3 h4)⟩, hgo'⟩
        case measure => simp [intOf]; omega
      · have hinb : decide ((k : Int) ∈ t) = false := by simpa using hin
        rw [hinb, if_neg (by simp)] at hgo'
        go_wp2_with (go_at_call 28; refine (hCon _ g cp t k hrow1 htl).mono ?_; rintro e w2 ⟨rfl, hb2⟩; have hs2 := hs1.step hb2 hS1; have hrow2 := row_keep hrow1 (hb2.block g hlt1); have f1 := (cell_of hs2.fb).trans (congrArg some HF.out))
        have HN : N ≤ w2.drew.heap.size := hs2.lt
        obtain ⟨g5, cp5, W5, hrun, hrow5, hgr5, hcase⟩ := append_any (P := Try.prog) (T := 25) w2.drew N g cp t k i0 Try.underlying25 hi0 hz0 hz1 hz2 hrow2.drew HN htl (w2.heap.size + 1) (by simp)
        have hSA : ∀ b, S b → b < (w2.drew.alloc (.cells #[.int .i64 (k : Int)] 3)).heap.size := fun b h => by
          have := Nat.lt_of_lt_of_le (hS1 b h) hb2.size
          simp
          omega
        have hbA : Below w2.heap.size w2 (w2.drew.alloc (.cells #[.int .i64 (k : Int)] 3)) := ((Below.refl _ _).drew).alloc (Nat.le_refl _) _
        have hsA := hs2.step hbA (fun b h => Nat.lt_of_lt_of_le (hS1 b h) hb2.size)
        have hlt2 := (row_lt hrow2).2.1
        have hs5 := hsA.push hSg (row_lt hrow2).1 hgE hgB hgF hgr5 (g' := g5) (by rcases hcase with ⟨h, _⟩ | ⟨h, _⟩; exact .inl h; exact .inr (by simpa using h))
        have f2 := (cell_of hsA.fb).trans (congrArg some HF.out)
        have f3 := (cell_of hs5.fb).trans (congrArg some HF.out)
        have hl1 : (t ++ [(k : Int)]).length = t.length + 1 := by simp
        have hg5 := row_lt hrow5
        have hne : ∀ b, S b → b < w2.heap.size := fun b h => Nat.lt_of_lt_of_le (hS1 b h) hb2.size
        have hg5E : g5 ≠ EB := by rcases hcase with ⟨h, _⟩ | ⟨h, _⟩; rw [h]; exact hgE; have := hne EB hSE; omega
        have hg5B : g5 ≠ BB := by rcases hcase with ⟨h, _⟩ | ⟨h, _⟩; rw [h]; exact hgB; have := hne BB hSB; omega
        have hg5F : g5 ≠ FB := by rcases hcase with ⟨h, _⟩ | ⟨h, _⟩; rw [h]; exact hgF; have := hne FB hSF; omega
        have hcall := ih (fun b => S b ∨ b = g5) (t ++ [(k : Int)]) g5 cp5 s1 W5 hs5 (by rw [hl1]; exact hrow5) (.inr rfl) (.inl hSE) (.inl hSB) (.inl hSF) (fun b h => by
          rcases h with h | h
          · exact Nat.lt_of_lt_of_le (hSA b h) hgr5.size
          · rw [h]; exact hg5.2.1) hg5E hg5B hg5F hl1
        rw [hl1] at hcall
        go_region_held3 (fun w' => w'.cell? ⟨FB, 0, none⟩ = some (.func (.func 26) #[] #[.pointer (some ⟨LB, 0, none⟩), .pointer (some ⟨EB, 0, none⟩), .pointer (some ⟨BB, 0, none⟩), .pointer (some ⟨FB, 0, none⟩)])) (first | exact f1 | exact f2 | exact f3 | exact f6 | go_keep)
          (first
            | (refine Go.InsG.step_append_run (by rfl) _ _ 25 25 (by rfl) _ _ (by rfl) (by rfl) (hrun _) ?_)
            | (go_at_call 26; refine hcall.mono ?_; rintro e w6 ⟨rfl, hs6, hrow6, hext6⟩; have f6 := (cell_of hs6.fb).trans (congrArg some HF.out)))
        have hsz5 : w2.heap.size + 1 ≤ W5.heap.size := by have := hgr5.size; simpa using this
        have hrow7 : w6.ownsRow N 3 1 (.slice (some ⟨g, 0, none⟩) t.length cp) t.length (t.map (Value.int .i64)) := by
          rcases hcase with ⟨h1, h2⟩ | ⟨h1, h2⟩
          · rw [h1, h2] at hrow6
            exact row_pre rfl hrow6
          · exact row_keep h2 (hext6.2 g (by omega) hgE hgB (by omega))
        have hext7 : Ext EB BB g w w6 := by
          refine ⟨Nat.le_trans hext.1 (Nat.le_trans hb2.size (Nat.le_trans (by omega) hext6.1)), fun b h1 h2 h3 h4 => ?_⟩
          have k1 := Nat.lt_of_lt_of_le h1 hext.1
          have k2 := Nat.lt_of_lt_of_le k1 hb2.size
          have k3 : b ≠ g5 := by
            rcases hcase with ⟨h, _⟩ | ⟨h, _⟩
            · rw [h]; exact h4
            · omega
          rw [hext6.2 b (by omega) h2 h3 k3, hgr5.block b (by simp; omega) (fun h => h4 (Option.some.inj h)), hbA.block b k2, hb2.block b k1]
          exact hext.2 b h1 h2 h3 h4
        have hs7 := hs6.weak (S' := S) (fun b h => .inl h)
        clear hrow6 hext6 hs6 hcall hcase hgr5 hrun hrow5 hs5 hsA hbA hSA f1 f2 f3 f6
        go_wp2
        go_roundw
        case rel => exact ⟨k + 1, by omega, by go_num, _, hs7, hrow7, hext7, hgo'⟩
        case measure => simp [intOf]; omega
    · have hke : k = len := by omega
      subst hke
      rw [Nat.sub_self] at hgo
      go_wp2_with fail
      refine bodyPost_end (results_none rfl _ _ _) rfl ?_
      exact ⟨rfl, hgo ▸ hs1, hrow1, hext⟩
theorem best_all (N LB EB BB FB len cap : Nat) (wb : World) (la : Option Addr) (cost : List Int → Int) (fv : Value) (hfv : fv = .func (.func 26) #[] #[.pointer (some ⟨LB, 0, none⟩), .pointer (some ⟨EB, 0, none⟩), .pointer (some ⟨BB, 0, none⟩), .pointer (some ⟨FB, 0, none⟩)])
    (hL : wb.cell? ⟨LB, 0, none⟩ = some (.slice la len cap)) (hLB : LB < N) (hEN : N ≤ EB) (hBN : N ≤ BB) (hEB : EB ≠ BB) (hEF : EB ≠ FB) (hBF : BB ≠ FB) (hlen : len ≤ 1048576)
    (hCost : ∀ (w : World) (g cp : Nat) (t : List Int), Below N wb w → w.ownsRow N 3 1 (.slice (some ⟨g, 0, none⟩) t.length cp) t.length (t.map (Value.int .i64)) → t.length ≤ 1048576 → Calls Try.prog 8 #[.slice la len cap, .slice (some ⟨g, 0, none⟩) t.length cp] w fun e w' => e = .returned (.int .i64 (cost t)) ∧ Below w.heap.size w w')
    (hClone : ∀ (w : World) (g cp : Nat) (t : List Int), w.ownsRow N 3 1 (.slice (some ⟨g, 0, none⟩) t.length cp) t.length (t.map (Value.int .i64)) → t.length ≤ 1048576 → Calls Try.prog 27 #[.slice (some ⟨g, 0, none⟩) t.length cp] w fun e w' => ∃ v, e = .returned v ∧ Below w.heap.size w w' ∧ NumRow w' v t w.heap.size (fun b => b < w.heap.size))
    (hCon : ∀ (w : World) (g cp : Nat) (t : List Int) (x : Int), w.ownsRow N 3 1 (.slice (some ⟨g, 0, none⟩) t.length cp) t.length (t.map (Value.int .i64)) → t.length ≤ 1048576 → Calls Try.prog 28 #[.slice (some ⟨g, 0, none⟩) t.length cp, .int .i64 x] w fun e w' => e = .returned (.bool (decide (x ∈ t))) ∧ Below w.heap.size w w') :
    ∀ (d : Nat) (S : Nat → Prop) (t : List Int) (g cp : Nat) (s : List Int × Int) (w : World), t.length + d = len → BI N EB BB FB fv wb w S s → w.ownsRow N 3 1 (.slice (some ⟨g, 0, none⟩) t.length cp) t.length (t.map (Value.int .i64)) → S g → S EB → S BB → S FB → (∀ b, S b → b < w.heap.size) → g ≠ EB → g ≠ BB → g ≠ FB →
    Calls Try.prog 26 #[.slice (some ⟨g, 0, none⟩) t.length cp, .pointer (some ⟨LB, 0, none⟩), .pointer (some ⟨EB, 0, none⟩), .pointer (some ⟨BB, 0, none⟩), .pointer (some ⟨FB, 0, none⟩)] w fun e w' => e = .returned (.tuple #[]) ∧ BI N EB BB FB fv wb w' S (bestN cost len d s t) ∧
      w'.ownsRow N 3 1 (.slice (some ⟨g, 0, none⟩) t.length cp) t.length (t.map (Value.int .i64)) ∧ Ext EB BB g w w' := by
  intro d
  induction d with
  | zero =>
    intro S t g cp s w ht hs hrow hSg hSE hSB hSF hS hgE hgB hgF
    exact best_leaf N LB EB BB FB len cap wb la cost fv hL hLB hEN hBN hEB hEF hBF hlen hCost hClone S t g cp s w hs hrow hSg hSE hSB hSF hS hgE hgB ht
  | succ d ih =>
    intro S t g cp s w ht hs hrow hSg hSE hSB hSF hS hgE hgB hgF
    exact best_node N LB EB BB FB len cap wb la fv hfv hL hLB hEN hBN hEB hEF hBF hlen hCon (fun s t => bestN cost len d s t) S t g cp s w
      (fun S' t' g' cp' s' w' h1 h2 h3 h4 h5 h6 h7 h8 h9 h10 h11 => ih S' t' g' cp' s' w' (by omega) h1 h2 h3 h4 h5 h6 h7 h8 h9 h10) hs hrow hSg hSE hSB hSF hS hgE hgB hgF (by omega)
theorem num_empty {w : World} {g N : Nat} {S : Nat → Prop} (h : w.heap[g]? = some (.cells #[] 3 (0, 0))) (hN : N ≤ g) (hS : ¬ S g) : NumRow w (.slice (some ⟨g, 0, none⟩) 0 0) [] N S := by
  refine ⟨some ⟨g, 0, 0, []⟩, ?_, fun p hp => by cases hp; exact ⟨hN, heap_lt h, hS⟩⟩
  simp only [OwnRd, if_true]
  exact ⟨_, _, rfl, rfl, ⟨⟨g, 0, none⟩, 0, rfl, Nat.le_refl _, fun h => absurd h (by omega), by show 0 + (0 + 0) * 1 ≤ 0; omega⟩, ⟨#[], 3, (0, 0), h, Free.zero _, rfl, by show 0 + 0 * 1 ≤ 0; omega, fun i x hi => by simp at hi⟩, fun p hp => by cases hp; rfl⟩
theorem row_empty {w : World} {g N : Nat} (h : w.heap[g]? = some (.cells #[] 3 (0, 0))) (hN : N ≤ g) : w.ownsRow N 3 1 (.slice (some ⟨g, 0, none⟩) 0 0) 0 [] :=
  ⟨by simp, .inr ⟨g, 0, #[], rfl, hN, h, Nat.le_refl _, Nat.zero_le _, rfl, rfl⟩⟩
set_option maxHeartbeats 1600000 in
set_option maxRecDepth 1000000 in
theorem bestO_walk (len cap : Nat) (w : World) (la : Option Addr) (aw : Bool) (cost : List Int → Int) (R : List Int) (hR : R = if aw = true then (bestN cost len len ([], -1) []).1 else []) (hlen : len ≤ 1048576)
    (hAw : ∀ w', Below w.heap.size w w' → Calls Try.prog 9 #[.slice la len cap] w' fun e w'' => e = .returned (.bool aw) ∧ Below w'.heap.size w' w'')
    (hCost : ∀ (N : Nat) (w' : World) (g cp : Nat) (t : List Int), Below w.heap.size w w' → w'.ownsRow N 3 1 (.slice (some ⟨g, 0, none⟩) t.length cp) t.length (t.map (Value.int .i64)) → t.length ≤ 1048576 → Calls Try.prog 8 #[.slice la len cap, .slice (some ⟨g, 0, none⟩) t.length cp] w' fun e w'' => e = .returned (.int .i64 (cost t)) ∧ Below w'.heap.size w' w'')
    (hClone : ∀ (N : Nat) (w : World) (g cp : Nat) (t : List Int), w.ownsRow N 3 1 (.slice (some ⟨g, 0, none⟩) t.length cp) t.length (t.map (Value.int .i64)) → t.length ≤ 1048576 → Calls Try.prog 27 #[.slice (some ⟨g, 0, none⟩) t.length cp] w fun e w' => ∃ v, e = .returned v ∧ Below w.heap.size w w' ∧ NumRow w' v t w.heap.size (fun b => b < w.heap.size))
    (hCon : ∀ (N : Nat) (w : World) (g cp : Nat) (t : List Int) (x : Int), w.ownsRow N 3 1 (.slice (some ⟨g, 0, none⟩) t.length cp) t.length (t.map (Value.int .i64)) → t.length ≤ 1048576 → Calls Try.prog 28 #[.slice (some ⟨g, 0, none⟩) t.length cp, .int .i64 x] w fun e w' => e = .returned (.bool (decide (x ∈ t))) ∧ Below w.heap.size w w') :
    Calls Try.prog 7 #[.slice la len cap] w fun e w' => ∃ v, Below w.heap.size w w' ∧ e = .returned v ∧ NumRow w' v R w.heap.size (fun _ => False) := by
  have hmf : ∀ (fn : Fn) (first cap : Array Value) (w : World), (Instr.makeFunc fn first cap).run Try.prog w = .ok (.func fn first cap) w := fun _ _ _ _ => rfl
  have hsz : ((((w.alloc (.cells #[.slice la len cap] 24)).alloc (.cells #[] 3)).alloc (.cells #[.slice (some ⟨w.heap.size + 1, 0, none⟩) 0 0] 25)).alloc (.cells #[.int .i64 (-1)] 3)).heap.size = w.heap.size + 4 := by simp
  have hB4 : Below w.heap.size w ((((w.alloc (.cells #[.slice la len cap] 24)).alloc (.cells #[] 3)).alloc (.cells #[.slice (some ⟨w.heap.size + 1, 0, none⟩) 0 0] 25)).alloc (.cells #[.int .i64 (-1)] 3)) := ((((Below.refl _ _).alloc (Nat.le_refl _) _).alloc (by simp) _).alloc (by simp; omega) _).alloc (by simp; omega) _
  have z1 : (w.alloc (.cells #[.slice la len cap] 24)).heap.size = w.heap.size + 1 := by simp
  have z2 : ((w.alloc (.cells #[.slice la len cap] 24)).alloc (.cells #[] 3)).heap.size = w.heap.size + 1 + 1 := by simp
  have z3 : (((w.alloc (.cells #[.slice la len cap] 24)).alloc (.cells #[] 3)).alloc (.cells #[.slice (some ⟨w.heap.size + 1, 0, none⟩) 0 0] 25)).heap.size = w.heap.size + 1 + 1 + 1 := by simp
  have x1 : ((((w.alloc (.cells #[.slice la len cap] 24)).alloc (.cells #[] 3)).alloc (.cells #[.slice (some ⟨w.heap.size + 1, 0, none⟩) 0 0] 25)).alloc (.cells #[.int .i64 (-1)] 3)).heap[w.heap.size]? = some (.cells #[.slice la len cap] 24 (0, 0)) := by
    rw [Below.heap_alloc _ _ _ (by rw [z3]; omega), Below.heap_alloc _ _ _ (by rw [z2]; omega), Below.heap_alloc _ _ _ (by rw [z1]; omega)]
    exact heap_new w _
  have x2 : ((((w.alloc (.cells #[.slice la len cap] 24)).alloc (.cells #[] 3)).alloc (.cells #[.slice (some ⟨w.heap.size + 1, 0, none⟩) 0 0] 25)).alloc (.cells #[.int .i64 (-1)] 3)).heap[w.heap.size + 1]? = some (.cells #[] 3 (0, 0)) := by
    rw [Below.heap_alloc _ _ _ (by rw [z3]; omega), Below.heap_alloc _ _ _ (by rw [z2]; omega)]
    have := heap_new (w.alloc (.cells #[.slice la len cap] 24)) (.cells #[] 3)
    rw [z1] at this
    exact this
  have x3 : ((((w.alloc (.cells #[.slice la len cap] 24)).alloc (.cells #[] 3)).alloc (.cells #[.slice (some ⟨w.heap.size + 1, 0, none⟩) 0 0] 25)).alloc (.cells #[.int .i64 (-1)] 3)).heap[w.heap.size + 1 + 1]? = some (.cells #[.slice (some ⟨w.heap.size + 1, 0, none⟩) 0 0] 25 (0, 0)) := by
    rw [Below.heap_alloc _ _ _ (by rw [z3]; omega)]
    have := heap_new ((w.alloc (.cells #[.slice la len cap] 24)).alloc (.cells #[] 3)) (.cells #[.slice (some ⟨w.heap.size + 1, 0, none⟩) 0 0] 25)
    rw [z2] at this
    exact this
  have x4 : ((((w.alloc (.cells #[.slice la len cap] 24)).alloc (.cells #[] 3)).alloc (.cells #[.slice (some ⟨w.heap.size + 1, 0, none⟩) 0 0] 25)).alloc (.cells #[.int .i64 (-1)] 3)).heap[w.heap.size + 1 + 1 + 1]? = some (.cells #[.int .i64 (-1)] 3 (0, 0)) := by
    have := heap_new (((w.alloc (.cells #[.slice la len cap] 24)).alloc (.cells #[] 3)).alloc (.cells #[.slice (some ⟨w.heap.size + 1, 0, none⟩) 0 0] 25)) (.cells #[.int .i64 (-1)] 3)
    rw [z3] at this
    exact this
  have K : ∀ w', Below ((((w.alloc (.cells #[.slice la len cap] 24)).alloc (.cells #[] 3)).alloc (.cells #[.slice (some ⟨w.heap.size + 1, 0, none⟩) 0 0] 25)).alloc (.cells #[.int .i64 (-1)] 3)).heap.size ((((w.alloc (.cells #[.slice la len cap] 24)).alloc (.cells #[] 3)).alloc (.cells #[.slice (some ⟨w.heap.size + 1, 0, none⟩) 0 0] 25)).alloc (.cells #[.int .i64 (-1)] 3)) w' → Below w.heap.size w w' ∧ w.heap.size + 4 ≤ w'.heap.size ∧ w'.heap[w.heap.size]? = some (.cells #[.slice la len cap] 24 (0, 0)) ∧ w'.heap[w.heap.size + 1]? = some (.cells #[] 3 (0, 0)) ∧
      w'.heap[w.heap.size + 1 + 1]? = some (.cells #[.slice (some ⟨w.heap.size + 1, 0, none⟩) 0 0] 25 (0, 0)) ∧ w'.heap[w.heap.size + 1 + 1 + 1]? = some (.cells #[.int .i64 (-1)] 3 (0, 0)) := fun w' h =>
    ⟨hB4.trans (h.mono (by rw [hsz]; omega)), by have := h.size; omega, (h.block _ (by rw [hsz]; omega)).trans x1, (h.block _ (by rw [hsz]; omega)).trans x2, (h.block _ (by rw [hsz]; omega)).trans x3, (h.block _ (by rw [hsz]; omega)).trans x4⟩
  cases aw with
  | false =>
    obtain rfl : R = [] := by rw [hR, if_neg (by simp)]
    clear hR
    go_enter Try.func7, Try.ntmps7
    go_wp2_with (go_at_call 9; refine (hAw _ hB4).mono ?_; rintro e w4 ⟨rfl, hb4⟩; obtain ⟨y0, y1, y2, y3, y4, y5⟩ := K w4 hb4; have q4 := cell_of y4)
    go_ret
    exact ⟨_, y0, rfl, num_empty y3 (Nat.le_succ _) (fun h => h)⟩
  | true =>
    rw [if_pos rfl] at hR
    have HR : Hid (R = (bestN cost len len ([], -1) []).1) := hR
    clear hR
    go_enter Try.func7, Try.ntmps7
    go_wp2_with (go_at_call 9; refine (hAw _ hB4).mono ?_; rintro e w4 ⟨rfl, hb4⟩; obtain ⟨y0, y1, y2, y3, y4, y5⟩ := K w4 hb4; have q4 := cell_of y4)
    have v1 : (w4.alloc (.cells #[(.func (.func 26) #[] #[.pointer (some ⟨w.heap.size, 0, none⟩), .pointer (some ⟨w.heap.size + 1 + 1 + 1, 0, none⟩), .pointer (some ⟨w.heap.size + 1 + 1, 0, none⟩), .pointer (some ⟨w4.heap.size, 0, none⟩)])] 50)).heap.size = w4.heap.size + 1 := by simp
    have bW : Below w4.heap.size w4 ((w4.alloc (.cells #[(.func (.func 26) #[] #[.pointer (some ⟨w.heap.size, 0, none⟩), .pointer (some ⟨w.heap.size + 1 + 1 + 1, 0, none⟩), .pointer (some ⟨w.heap.size + 1 + 1, 0, none⟩), .pointer (some ⟨w4.heap.size, 0, none⟩)])] 50)).alloc (.cells #[] 3)) := ((Below.refl _ _).alloc (Nat.le_refl _) _).alloc (by simp) _
    have k1 : ((w4.alloc (.cells #[(.func (.func 26) #[] #[.pointer (some ⟨w.heap.size, 0, none⟩), .pointer (some ⟨w.heap.size + 1 + 1 + 1, 0, none⟩), .pointer (some ⟨w.heap.size + 1 + 1, 0, none⟩), .pointer (some ⟨w4.heap.size, 0, none⟩)])] 50)).alloc (.cells #[] 3)).heap[w4.heap.size]? = some (.cells #[(.func (.func 26) #[] #[.pointer (some ⟨w.heap.size, 0, none⟩), .pointer (some ⟨w.heap.size + 1 + 1 + 1, 0, none⟩), .pointer (some ⟨w.heap.size + 1 + 1, 0, none⟩), .pointer (some ⟨w4.heap.size, 0, none⟩)])] 50 (0, 0)) := by
      rw [Below.heap_alloc _ _ _ (by rw [v1]; omega)]
      exact heap_new w4 _
    have k2 : ((w4.alloc (.cells #[(.func (.func 26) #[] #[.pointer (some ⟨w.heap.size, 0, none⟩), .pointer (some ⟨w.heap.size + 1 + 1 + 1, 0, none⟩), .pointer (some ⟨w.heap.size + 1 + 1, 0, none⟩), .pointer (some ⟨w4.heap.size, 0, none⟩)])] 50)).alloc (.cells #[] 3)).heap[w4.heap.size + 1]? = some (.cells #[] 3 (0, 0)) := by
      have := heap_new (w4.alloc (.cells #[(.func (.func 26) #[] #[.pointer (some ⟨w.heap.size, 0, none⟩), .pointer (some ⟨w.heap.size + 1 + 1 + 1, 0, none⟩), .pointer (some ⟨w.heap.size + 1 + 1, 0, none⟩), .pointer (some ⟨w4.heap.size, 0, none⟩)])] 50)) (.cells #[] 3)
      rw [v1] at this
      exact this
    have kb : ∀ b, b < w.heap.size + 4 → ((w4.alloc (.cells #[(.func (.func 26) #[] #[.pointer (some ⟨w.heap.size, 0, none⟩), .pointer (some ⟨w.heap.size + 1 + 1 + 1, 0, none⟩), .pointer (some ⟨w.heap.size + 1 + 1, 0, none⟩), .pointer (some ⟨w4.heap.size, 0, none⟩)])] 50)).alloc (.cells #[] 3)).heap[b]? = w4.heap[b]? := fun b hb => bW.block b (by omega)
    have k5 : ((w4.alloc (.cells #[(.func (.func 26) #[] #[.pointer (some ⟨w.heap.size, 0, none⟩), .pointer (some ⟨w.heap.size + 1 + 1 + 1, 0, none⟩), .pointer (some ⟨w.heap.size + 1 + 1, 0, none⟩), .pointer (some ⟨w4.heap.size, 0, none⟩)])] 50)).alloc (.cells #[] 3)).heap.size = w4.heap.size + 2 := by simp
    have hBI : BI (w.heap.size + 1) (w.heap.size + 1 + 1 + 1) (w.heap.size + 1 + 1) w4.heap.size (.func (.func 26) #[] #[.pointer (some ⟨w.heap.size, 0, none⟩), .pointer (some ⟨w.heap.size + 1 + 1 + 1, 0, none⟩), .pointer (some ⟨w.heap.size + 1 + 1, 0, none⟩), .pointer (some ⟨w4.heap.size, 0, none⟩)]) w4 ((w4.alloc (.cells #[(.func (.func 26) #[] #[.pointer (some ⟨w.heap.size, 0, none⟩), .pointer (some ⟨w.heap.size + 1 + 1 + 1, 0, none⟩), .pointer (some ⟨w.heap.size + 1 + 1, 0, none⟩), .pointer (some ⟨w4.heap.size, 0, none⟩)])] 50)).alloc (.cells #[] 3)) (fun b => b = w4.heap.size + 1 ∨ b = w.heap.size + 1 + 1 + 1 ∨ b = w.heap.size + 1 + 1 ∨ b = w4.heap.size) ([], -1) :=
      ⟨bW.mono (by omega), by rw [k5]; omega, k1, by rw [kb _ (by omega)]; exact y5, _, by rw [kb _ (by omega)]; exact y4, num_empty (by rw [kb _ (by omega)]; exact y3) (Nat.le_refl _) (fun h => by omega)⟩
    have hcall := best_all (w.heap.size + 1) w.heap.size (w.heap.size + 1 + 1 + 1) (w.heap.size + 1 + 1) w4.heap.size len cap w4 la cost (.func (.func 26) #[] #[.pointer (some ⟨w.heap.size, 0, none⟩), .pointer (some ⟨w.heap.size + 1 + 1 + 1, 0, none⟩), .pointer (some ⟨w.heap.size + 1 + 1, 0, none⟩), .pointer (some ⟨w4.heap.size, 0, none⟩)]) rfl (cell_of y2) (by omega) (by omega) (by omega) (by omega) (by omega) (by omega) hlen
      (fun w' g cp t hb => hCost _ w' g cp t (y0.trans (hb.mono (by omega)))) (hClone _) (hCon _) len _ [] (w4.heap.size + 1) 0 ([], -1) ((w4.alloc (.cells #[(.func (.func 26) #[] #[.pointer (some ⟨w.heap.size, 0, none⟩), .pointer (some ⟨w.heap.size + 1 + 1 + 1, 0, none⟩), .pointer (some ⟨w.heap.size + 1 + 1, 0, none⟩), .pointer (some ⟨w4.heap.size, 0, none⟩)])] 50)).alloc (.cells #[] 3)) (by simp) hBI (row_empty k2 (by omega)) (.inl rfl) (.inr (.inl rfl)) (.inr (.inr (.inl rfl))) (.inr (.inr (.inr rfl))) (fun b h => by rw [k5]; omega) (by omega) (by omega) (by omega)
    refine hcall.mono ?_
    rintro e w7 ⟨rfl, hs7, _, _⟩
    obtain ⟨v7, hb7, hn7⟩ := hs7.bb
    obtain ⟨va, vc, rfl⟩ := hn7.shape
    have q0 := cell_of hb7
    have hs8 := y0.trans (hs7.below.mono (Nat.le_succ w.heap.size))
    have hn8 := num_base (S' := fun _ => False) hn7 (Nat.le_succ w.heap.size) (fun _ h => h.elim)
    have hrr := HR.out
    clear hs7 hb7 hn7 hcall hBI HR
    subst hrr
    go_wp2
    go_ret
    exact ⟨_, hs8, rfl, hn8⟩
theorem mk_args1 {A G : Nat → Prop} {h : Array Obj} {a : Arg} {v : Value} (h1 : Go.Flat.ArgRel A G h a v) : ArgsRel A G h [a] [v] :=
  ⟨rfl, fun i x y h2 h3 => by
    cases i with
    | zero => simp at h2 h3; subst h2 h3; exact h1
    | succ i => simp at h2⟩
theorem mk_args2 {A G : Nat → Prop} {h : Array Obj} {a b : Arg} {u v : Value} (h1 : Go.Flat.ArgRel A G h a u) (h2 : Go.Flat.ArgRel A G h b v) : ArgsRel A G h [a, b] [u, v] :=
  ⟨rfl, fun i x y h3 h4 => by
    match i, h3, h4 with
    | 0, h3, h4 => simp at h3 h4; subst h3 h4; exact h1
    | 1, h3, h4 => simp at h3 h4; subst h3 h4; exact h2
    | i + 2, h3, _ => simp at h3⟩
theorem Try.bestGood : Go.Flat.Good Go.QBest.C := ⟨by kernel_rfl, by kernel_rfl, by kernel_rfl⟩
/-- A row of one's own, read as data. -/
theorem row_rd {w : World} {N g cp : Nat} {t : List Int} (h : w.ownsRow N 3 1 (.slice (some ⟨g, 0, none⟩) t.length cp) t.length (t.map (Value.int .i64))) : Rd (fun b => b < w.heap.size) w.heap (.list (.int .i64)) (fun b => b < w.heap.size) t [.slice (some ⟨g, 0, none⟩) t.length cp] := by
  obtain ⟨cur, k1, k2, k3, k4, k5, k6⟩ := owns_row h
  have hg : g < w.heap.size := heap_lt k2
  refine ⟨some ⟨g, 0, none⟩, cp, rfl, k4, fun _ => ⟨g, 0, rfl, hg, fun i y hi => ⟨[.int .i64 y], rfl, fun j u hj => ?_⟩⟩⟩
  cases j with
  | zero =>
    have hj : Value.int .i64 y = u := by simpa using hj
    subst hj
    unfold hcell
    rw [k2]
    show cur[0 + i * 1 + 0]? = _
    rw [show 0 + i * 1 + 0 = i by omega]
    exact k6 i y hi
  | succ j => simp at hj
theorem Try.best_walk : BestWalk Go.QBest.awB Go.QBest.costF Try.prog 7 := by
  intro l w A G lv hok hA hGA hl
  have ok : ∀ k, CallOk Go.QBest.C (run Go.QBest.C k) := fun k => calls_ok Try.bestGood (fun f p h => by cases h) k
  have hl0 := hl
  obtain ⟨la, cap, hlv, hlc, hx⟩ := hl
  obtain rfl : lv = .slice la l.length cap := by simpa using hlv
  have mv : ∀ {T : Ty} {F : Nat → Prop} {x : T.den} {cs : List Value} (w' : World), Below w.heap.size w w' → (∀ b, F b → A b) → Rd G w.heap T F x cs → Rd (fun b => b < w'.heap.size) w'.heap T (fun b => b < w'.heap.size) x cs := fun w' hb hF h =>
    Rd.move (fun b h => Nat.lt_of_lt_of_le (hA b (hGA b h)) hb.size) (fun b h => hb.block b (hA b (hGA b h))) (fun b h => Nat.lt_of_lt_of_le (hA b (hF b h)) hb.size) (fun b h => hb.block b (hA b (hF b h))) h
  refine bestO_walk l.length cap w la (Go.QBest.awB l) (Go.QBest.costF l) (bestR Go.QBest.awB Go.QBest.costF l) rfl hok.1 ?_ ?_ ?_ ?_
  · intro w' hb
    obtain ⟨k, hk⟩ := (Go.QBest.aw_at l (Go.QBest.bestOk_sm hok)).1
    exact call_bool rfl (ok k) Try.func9 (by kernel_rfl) (by kernel_rfl) (args := [.val (.dlist workT) l]) hk (by simp [Arg.isIo]) w' [.slice la l.length cap] (mk_args1 ⟨_, mv w' hb (fun b h => h) hl0, rfl⟩)
  · intro N w' g cp t hb hown ht
    obtain ⟨k, hk⟩ := Go.QBest.cost_at l t (Go.QBest.bestOk_sm hok) ht
    exact call_int rfl (ok k) Try.func8 (by kernel_rfl) (by kernel_rfl) (args := [.val (.dlist workT) l, .val (.list (.int .i64)) t]) hk (by simp [Arg.isIo]) w' [.slice la l.length cap, .slice (some ⟨g, 0, none⟩) t.length cp] (mk_args2 ⟨_, mv w' hb (fun b h => h) hl0, rfl⟩ ⟨_, row_rd hown, rfl⟩)
  · intro N w' g cp t hown ht
    obtain ⟨k, hk⟩ := Go.QBest.clone_at t ht
    exact call_nums rfl (ok k) Try.func27 (by kernel_rfl) (by kernel_rfl) (by kernel_rfl) (args := [.val (.list (.int .i64)) t]) hk (by simp [Arg.isIo]) w' [.slice (some ⟨g, 0, none⟩) t.length cp] (mk_args1 ⟨_, row_rd hown, rfl⟩)
  · intro N w' g cp t x hown ht
    obtain ⟨k, hk⟩ := Go.QBest.con_at t x ht
    exact call_bool rfl (ok k) Try.func28 (by kernel_rfl) (by kernel_rfl) (args := [.val (.list (.int .i64)) t, .val (.int .i64) x]) hk (by simp [Arg.isIo]) w' [.slice (some ⟨g, 0, none⟩) t.length cp, .int .i64 x] (mk_args2 ⟨_, row_rd hown, rfl⟩ ⟨_, rfl, rfl⟩)
end Go.Proofs

