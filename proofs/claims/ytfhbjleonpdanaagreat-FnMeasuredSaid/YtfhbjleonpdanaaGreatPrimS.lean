/- slices.Sort over numbers, by its contract. No condition. -/
import Derived.Test.YtfhbjleonpdanaaGreatPrim
import Derived.Sort.Row
set_option linter.unusedVariables false
set_option linter.unusedSimpArgs false
namespace Go.Flat
open Go.RowKit

def sortI (l : List Int) : List Int := l.mergeSort fun x y => decide (x ≤ y)
def primSort : (t : Ty) → List Arg → Option t.den
  | .pair .unit (.list (.int .i64)), [.lend (.list (.int .i64)) l] => if l.length < 4611686018427387904 then some ((), sortI l) else none
  | _, _ => none

theorem primSort_spec {t : Ty} {args : List Arg} {r : t.den} (h : primSort t args = some r) :
    ∃ l : List Int, args = [.lend (.list (.int .i64)) l] ∧ l.length < 4611686018427387904 ∧ ∃ e : Ty.pair .unit (.list (.int .i64)) = t, (e ▸ (((), sortI l) : (Ty.pair .unit (.list (.int .i64))).den)) = r := by
  unfold primSort at h
  split at h
  · rename_i l
    split at h
    · rename_i hl
      exact ⟨l, rfl, hl, rfl, Option.some.inj h⟩
    · cases h
  · cases h

section
variable {C : Cfg} {f : FuncId} {fn : Func}

theorem sort_ok (hm : C.mono = false) (hf : C.P.funcs[f]? = some fn) (hb : fn.body.isSome = true) (hr : fn.resultTypes.size = 0)
    (h0 : ∀ (a : Option Addr) (c : Nat) (w : World), Calls C.P f #[.slice a 0 c] w fun e w' => e = .returned (.tuple #[]) ∧ w' = w)
    (h1 : ∀ (bk o c : Nat) (xs : List Int) (w : World), Go.Sort.Holds (Value.int .i64) w bk o xs.toArray → bk < w.heap.size → xs.length < 4611686018427387904 → Calls C.P f #[.slice (some ⟨bk, o, none⟩) xs.length c] w fun e w' =>
      e = .returned (.tuple #[]) ∧ ∃ n os, w' = Go.Sort.grow (Go.Sort.putRow (Value.int .i64) (Go.Sort.ahead w n) bk o (xs.mergeSort fun x y => decide (x ≤ y)).toArray) os) :
    Calls3 C fun g t args => if g = f then primSort t args else none := by
  refine ⟨?_, ?_, ?_⟩
  rotate_left 2
  · intro g fn' rt T x i args r hg hrun hai
    by_cases hgf : g = f
    · subst hgf
      obtain ⟨l, rfl, _⟩ := primSort_spec (by simpa using hrun)
      cases i <;> simp at hai
    · simp [hgf] at hrun
  · intro g fn' t args r hg hrun
    by_cases hgf : g = f
    · subst hgf
      rw [hf] at hg
      cases hg
      refine fun _ => ⟨hb, fun w A G vals hA hGA htab _ hargs => ?_⟩
      obtain ⟨l, rfl, _⟩ := primSort_spec (by simpa using hrun)
      obtain ⟨v, rfl, hv⟩ := args_one hargs
      exact hv.elim
    · simp [hgf] at hrun
  · intro g fn' rt T x i args r hg hrun hai
    by_cases hgf : g = f
    · subst hgf
      rw [hf] at hg
      cases hg
      refine ⟨hb, fun w A G vals v0 cs ps hA hGA htab hlen hv0 hl hrest => ?_⟩
      obtain ⟨l, rfl, hll, he, hre⟩ := primSort_spec (by simpa using hrun)
      have hi : i = 0 := by
        cases i with
        | zero => rfl
        | succ i => simp at hai
      subst hi
      simp only [List.getElem?_cons_zero, Option.some.injEq] at hai
      cases hai
      have hrt : rt = .unit := by injection he with h1 _; exact h1.symm
      subst hrt
      have hr' : r = ((), sortI l) := hre.symm
      subst hr'
      obtain ⟨vv, rfl⟩ := List.length_eq_one_iff.1 (show vals.length = 1 from hlen)
      simp only [List.getElem?_cons_zero, Option.some.injEq] at hv0
      subst hv0
      obtain ⟨hown, hval, hpA, hnd⟩ := hl
      simp only [OwnRd, if_true] at hown
      obtain ⟨v, π, rfl, rfl, hs, ha, hfl⟩ := hown
      have hvv : vv = v := by
        have h : [v] = [vv] := hval
        simpa using h.symm
      subst hvv
      have res : ResIs (C.sig g).own (Nat.beq fn.resultTypes.size 1) .unit G w.heap () (.tuple #[]) [] := by
        refine ⟨[], ⟨rfl, rfl⟩, ?_⟩
        rw [hr]
        show (if Nat.beq 0 1 = true then _ else _)
        rw [if_neg (by decide)]
        exact ⟨[], rfl, rfl, rfl⟩
      have done : l = [] → SliceAt 1 π 0 0 vv → Calls C.P g #[vv] w fun e w' => ∃ v G' qs, e = .returned v ∧ w.heap.size ≤ w'.heap.size ∧ Str C.mono w w' ∧ (∀ b, A b → w'.heap[b]? = w.heap[b]?) ∧ (∀ b, G b → G' b) ∧ (∀ b, G' b → G b ∨ (¬ A b ∧ b < w'.heap.size)) ∧
        ResIs (C.sig g).own (Nat.beq fn.resultTypes.size 1) .unit G' w'.heap () v qs ∧ (∀ b ∈ blks qs, ¬ A b ∧ ¬ G' b ∧ b < w'.heap.size) ∧ (blks qs).Nodup ∧
        RowsBack G' w.heap w'.heap (.list (.int .i64)) l (sortI l) [π] ∧ ∀ b ∈ blks [π], ¬ G' b ∧ b ∉ blks qs := by
        intro h0' hs'
        obtain ⟨a, c, rfl⟩ : ∃ a c, vv = .slice a 0 c := by
          cases π with
          | none => obtain ⟨_, rfl⟩ := hs'; exact ⟨_, _, rfl⟩
          | some p => obtain ⟨a, c, rfl, _⟩ := hs'; exact ⟨_, _, rfl⟩
        refine (h0 a c w).mono fun e w' hh => ?_
        obtain ⟨he, rfl⟩ := hh
        subst h0'
        refine ⟨_, G, [], he, Nat.le_refl _, Str.refl _ _, fun _ _ => rfl, fun _ h => h, fun _ h => .inl h, res, fun b hb => (by simp [blks] at hb), by simp [blks], ⟨π, rfl, ?_, by simp [sortI]⟩, fun b hb => ⟨fun hg => (hpA b hb).1 (hGA _ hg), by simp [blks]⟩⟩
        have : sortI [] = [] := by simp [sortI]
        rw [this]; exact ha
      by_cases hl0 : l = []
      · refine done hl0 ?_
        subst hl0
        exact hs
      · cases π with
        | none => exact absurd ha hl0
        | some p =>
          obtain ⟨a, cap, rfl, hcap, haddr, hroom⟩ := hs
          have hpos : 0 < l.length := List.length_pos_iff.2 hl0
          obtain rfl := haddr (by omega)
          obtain ⟨c, e0, fz, hh, hfz, hsz, hle, hx⟩ := ha
          simp only [Ty.sz, Nat.mul_one, Nat.zero_mul, Nat.add_zero] at hle hx hroom
          have hbs : p.b < w.heap.size := (Array.getElem?_eq_some_iff.1 hh).1
          have cellv : ∀ j (hj : j < l.length), c[p.o + j]? = some (.int .i64 l[j]) := by
            intro j hj
            obtain ⟨es, hes, hq⟩ := hx j _ (List.getElem?_eq_getElem hj)
            have hes : es = [.int .i64 l[j]] := hes
            subst hes
            exact hq 0 _ rfl
          have hH : Go.Sort.Holds (Value.int .i64) w p.b p.o l.toArray := by
            intro j hj
            have hj : j < l.length := by simpa using hj
            constructor
            · rw [cell_eq]
              unfold hcell
              rw [hh]
              show c[p.o + j]? = _
              rw [cellv j hj]
              simp [hj]
            · unfold World.frozen?
              simp only [hh]
              have h1 := hfz (p.o + j) (by omega)
              simpa using h1
          have hc := h1 p.b p.o cap l w hH hbs hll
          refine hc.mono fun e w' hpost => ?_
          obtain ⟨he, n, os, hw⟩ := hpost
          have hlen2 : (sortI l).length = l.length := by unfold sortI; exact List.length_mergeSort ..
          have hheap : w'.heap = w.heap.modify p.b (Go.Sort.onCells (Go.Sort.putCells (Value.int .i64) p.o (sortI l).toArray)) ++ os := by rw [hw]; rfl
          have hat : w'.heap[p.b]? = some (.cells (Go.Sort.putCells (Value.int .i64) p.o (sortI l).toArray c) e0 fz) := by
            rw [hheap, Array.getElem?_append_left (by simpa using hbs), Array.getElem?_modify, if_pos rfl, hh]
            rfl
          have hother : ∀ b, b < w.heap.size → b ≠ p.b → w'.heap[b]? = w.heap[b]? := by
            intro b hb hne
            rw [hheap, Array.getElem?_append_left (by simpa using hb), Array.getElem?_modify, if_neg (fun e => hne e.symm)]
          have hAne : ∀ b, A b → b ≠ p.b := fun b hb e => (hpA p.b (by simp [blks, Pl.bs])).1 (e ▸ hb)
          refine ⟨_, G, [], he, ?_, ?_, fun b hb => hother b (hA b hb) (hAne b hb), fun _ h => h, fun _ h => .inl h, ?_, fun b hb => (by simp [blks] at hb), by simp [blks], ⟨some p, rfl, ?_, hlen2⟩, fun b hb => ⟨fun hg => (hpA b hb).1 (hGA _ hg), by simp [blks]⟩⟩
          · rw [hheap]; simp
          · rw [hw]; exact ⟨rfl, rfl, rfl, fun h => by rw [hm] at h; cases h⟩
          · obtain ⟨cs, k1, k2⟩ := res
            have hcs : cs = [] := k1.2
            subst hcs
            exact ⟨[], ⟨rfl, rfl⟩, k2⟩
          · have hsize : (Go.Sort.putCells (Value.int .i64) p.o (sortI l).toArray c).size = c.size := by simp [Go.Sort.putCells]
            refine ⟨_, e0, fz, hat, by rw [hsize]; exact hfz, by rw [hsize]; exact hsz, by show p.o + (sortI l).length * 1 ≤ p.size; omega, fun i x hi => ⟨[.int .i64 x], rfl, fun j v hv => ?_⟩⟩
            have hj : j = 0 := by
              cases j with
              | zero => rfl
              | succ j => simp at hv
            subst hj
            simp only [List.getElem?_cons_zero, Option.some.injEq] at hv
            subst hv
            have hi : (sortI l)[i]? = some x := hi
            obtain ⟨hil, hix⟩ := List.getElem?_eq_some_iff.1 hi
            simp only [Ty.sz, Nat.mul_one, Nat.add_zero]
            have hlt : p.o + i < c.size := by omega
            unfold Go.Sort.putCells
            rw [Array.getElem?_mapIdx, Array.getElem?_eq_getElem hlt]
            simp only [Option.map_some, Option.some.injEq]
            rw [if_pos ⟨by omega, by simp; omega⟩]
            rw [show p.o + i - p.o = i by omega]
            have : (sortI l).toArray[i]! = x := by
              simp [hil, hix]
            rw [this]
    · simp [hgf] at hrun
end

end Go.Flat
