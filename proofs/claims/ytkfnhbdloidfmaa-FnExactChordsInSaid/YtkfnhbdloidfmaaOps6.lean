/- Slices that are written out, made, appended to, cleared. No condition. -/
import Derived.Test.YtkfnhbdloidfmaaOps5
set_option linter.unusedVariables false
set_option linter.unusedSimpArgs false
namespace Go.Flat

theorem buildElems_ids {s : St} {t : Ty} : ∀ {parts : List (Nat × Operand)} {l l' : List t.den} {ids ids' : List Nat}, buildElems s t parts l ids = some (l', ids') → ∀ id ∈ ids, id ∈ ids'
  | [], l, l', ids, ids', h => by simp [buildElems] at h; rw [h.2]; exact fun _ h => h
  | (i, x) :: parts, l, l', ids, ids', h => by
    simp only [buildElems] at h
    split at h
    · split at h
      · split at h
        · intro id hid
          exact buildElems_ids h id (by simp [hid])
        · cases h
      · cases h
    · cases h

theorem buildElems_keep {s : St} {t : Ty} : ∀ {parts : List (Nat × Operand)} {l l' : List t.den} {ids ids' : List Nat}, buildElems s t parts l ids = some (l', ids') → (∀ id ∈ ids, ∃ u l o, s.sto id = some (.arr u l o) ∧ ∀ n, o ≠ .pinned n) →
    ∀ id ∈ ids', ∃ u l o, s.sto id = some (.arr u l o) ∧ ∀ n, o ≠ .pinned n
  | [], l, l', ids, ids', h, hk => by simp [buildElems] at h; rw [← h.2]; exact hk
  | (i, x) :: parts, l, l', ids, ids', h, hk => by
    simp only [buildElems] at h
    split at h
    · split at h
      · rename_i y js hof
        split at h
        · refine buildElems_keep h fun id hid => ?_
          rcases List.mem_append.1 hid with hid | hid
          · exact hk id hid
          · exact ofCellsAll_keep hof id hid
        · cases h
      · cases h
    · cases h

theorem build_elems {F0 : Fr0} {G G' : Nat → Prop} {s : St} {a : Act} {w : World} {pl : Nat → Option Pl} (i : Inv F0 G s a w pl) {t : Ty} (hG : ∀ b, G b → G' b) :
    ∀ {parts : List (Nat × Operand)} {l l' : List t.den} {ids ids' : List Nat} {c : Array Value}, buildElems s t parts l ids = some (l', ids') → c.size = l.length * t.sz → RowIs G' w.heap t l c.toList 0 →
      (∀ id ∈ ids', ∀ p, pl id = some p → G' p.b) →
      ∃ c', Instr.fill (fun i => some (i * t.sz, t.sz)) c (parts.map fun x => (x.1, a.eval x.2)) = some c' ∧ c'.size = c.size ∧ RowIs G' w.heap t l' c'.toList 0 ∧ l'.length = l.length
  | [], l, l', ids, ids', c, h, hsz, hrow, hids => by
    simp [buildElems] at h
    obtain ⟨rfl, rfl⟩ := h
    exact ⟨c, rfl, rfl, hrow, rfl⟩
  | (j, x) :: parts, l, l', ids, ids', c, h, hsz, hrow, hids => by
    simp only [buildElems] at h
    split at h
    · rename_i v hs
      split at h
      · rename_i y js hof
        split at h
        · rename_i hcond
          obtain ⟨hk, hj⟩ := hcond
          have hx := i.slot x
          rw [hs] at hx
          have hrel := cells_of_comp hk hx
          have hrd : Rd G' w.heap t G' y (a.eval x).cells.toList := ofCellsAll_rd i.sto hG hG (fun hm => by cases hm) hof hrel (fun id hid p hp => hids id (buildElems_ids h id (by simp [hid])) p hp)
          have hlen := hrd.len
          have hmul : (j + 1) * t.sz ≤ l.length * t.sz := Nat.mul_le_mul_right _ hj
          rw [Nat.add_mul, Nat.one_mul] at hmul
          obtain ⟨c1, hc1, hsz1, htl⟩ := fill_step (j * t.sz) (a.eval x).cells.toList c (by rw [hlen]; omega)
          have hset := hrow.set hj hrd (by simp [hsz])
          rw [Nat.zero_add, ← htl] at hset
          obtain ⟨c', hfill, hsz', hrow', hl'⟩ := build_elems i hG (c := c1) h (by rw [hsz1, hsz]; simp) hset hids
          refine ⟨c', ?_, by rw [hsz', hsz1], hrow', by rw [hl']; simp⟩
          simp only [List.map_cons, Instr.fill]
          rw [if_neg (by simp at hlen; simp [hlen]; omega)]
          have : (a.eval x).cells.toList.toArray = (a.eval x).cells := by simp
          rw [this] at hc1
          rw [hc1]
          exact hfill
        · cases h
      · cases h
    · cases h

/-- A row of zeros. -/
theorem zero_row {G : Nat → Prop} {h : Array Obj} {t : Ty} {zero : Array Value} (hz : zero.toList = zeroVals t) (n m : Nat) (hn : n ≤ m) :
    RowIs G h t (List.replicate n t.dflt) ((Array.range (m * t.sz)).map (zero[· % zero.size]!)).toList 0 := by
  have hzs : zero.size = t.sz := by have := congrArg List.length hz; rw [zeroVals_len] at this; simpa using this
  intro i x hi
  rw [List.getElem?_replicate] at hi
  split at hi
  · rename_i hin
    simp at hi
    subst hi
    refine ⟨zeroVals t, rd_zero, fun j v hj => ?_⟩
    have hjl : j < t.sz := by have := (List.getElem?_eq_some_iff.1 hj).1; rwa [zeroVals_len] at this
    have hmul : (i + 1) * t.sz ≤ m * t.sz := Nat.mul_le_mul_right _ (by omega)
    rw [Nat.add_mul, Nat.one_mul] at hmul
    have hlt : i * t.sz + j < m * t.sz := by omega
    simp only [Nat.zero_add, Array.getElem?_toList, Array.getElem?_map, Array.getElem?_range, hlt, if_true, Option.map_some]
    have hmod : (i * t.sz + j) % zero.size = j := by
      rw [hzs, Nat.mul_comm, Nat.mul_add_mod]
      exact Nat.mod_eq_of_lt hjl
    rw [hmod]
    have hj' : j < zero.size := by rw [hzs]; exact hjl
    rw [getElem!_pos zero j hj']
    rw [← hz] at hj
    rw [Array.getElem?_toList] at hj
    simpa [hj'] using hj
  · cases hi

theorem Good.zeroOf {C : Cfg} (good : Good C) {t : TypeId} {T : Ty} (h : C.ty t = some T) : ∃ i z, C.P.info? t = some i ∧ i.zero = some z ∧ i.size = T.sz ∧ z.cells.toList = zeroVals T := by
  have hty : assoc C.tt t = some (some T) := by
    unfold Cfg.ty at h
    cases ha : assoc C.tt t with
    | none => simp [ha] at h
    | some x => simp [ha] at h; rw [h]
  obtain ⟨i, z, hi, hz, hok⟩ := good.zero hty
  obtain ⟨i', hi', hs⟩ := good.size h
  rw [hi] at hi'
  cases hi'
  unfold okZero at hok
  rw [hi] at hok
  simp only [Option.bind_some, hz] at hok
  exact ⟨i, z, hi, hz, hs, eqVals_eq hok⟩

section
variable {C : Cfg} {callF : FuncId → (t : Ty) → List Arg → Option t.den}
  {dst : Option Tmp} {type : TypeId} {pos : String} {after : Array Edge} {guard : Option (Nat × Bool)}

theorem ok_buildSlice (good : Good C) (t : TypeId) (n : Nat) (parts : Array (Nat × Operand)) : OpOk C callF ⟨dst, .buildSlice t n parts, type, pos, after, guard⟩ := by
  intro R F0 G s a w pl κ r Q i ht h
  simp only [opT] at h
  split at h
  · rename_i e u d he
    split at h
    · rename_i hsmall
      split at h
      · rename_i l ids hb
        rw [T.run_bind] at h
        obtain ⟨hk, h⟩ := alloc_some h
        obtain ⟨ht, hu⟩ := Cfg.elem_some he
        obtain ⟨inf, z, hi, hz, hsz, hzv⟩ := good.zeroOf hu
        have hkeep := buildElems_keep hb (fun id hid => by simp at hid)
        obtain ⟨G', i1, fr1, hG, hnone⟩ := freezeAll_ok (ids := ids) i (fun j hj t'' l'' n'' he => by
          obtain ⟨u, l3, o3, h1, h2⟩ := hkeep j hj
          rw [h1] at he
          cases he
          exact h2 n'' rfl)
        have hGids : ∀ id ∈ ids, ∀ p, pl id = some p → G' p.b := fun id hid p hp => by
          obtain ⟨u, l3, o3, h1, h2⟩ := hkeep id hid
          exact hG id hid u l3 o3 h1 p hp
        have hrow0 : ∃ c0 : Array Value, (Array.range (n * inf.size)).map ((if n * inf.size = 0 then #[] else z.cells)[· % (if n * inf.size = 0 then #[] else z.cells).size]!) = c0 ∧ c0.size = n * u.sz ∧ RowIs G' w.heap u (List.replicate n u.dflt) c0.toList 0 := by
          by_cases h0 : n * inf.size = 0
          · refine ⟨#[], by simp [h0], by rw [← hsz]; exact h0.symm, ?_⟩
            intro j x hj
            rw [List.getElem?_replicate] at hj
            split at hj
            · simp at hj
              subst hj
              refine ⟨zeroVals u, rd_zero, fun q v hq => ?_⟩
              have : q < u.sz := by have := (List.getElem?_eq_some_iff.1 hq).1; rwa [zeroVals_len] at this
              rw [hsz] at h0
              rcases Nat.mul_eq_zero.1 h0 with h1 | h1 <;> omega
            · cases hj
          · refine ⟨_, rfl, by simp [hsz], ?_⟩
            rw [hsz] at h0 ⊢
            simp only [if_neg h0]
            exact zero_row hzv n n (Nat.le_refl _)
        obtain ⟨c0, hc0, hc0s, hrow0⟩ := hrow0
        obtain ⟨c', hfill, hcs, hrow, hlen⟩ := build_elems i (fun b hb => fr1.more b hb) hb (by rw [hc0s]; simp) hrow0 hGids
        have hll : l.length = n := by rw [hlen]; simp
        have hexec : (execOp a.eval ⟨some d, .buildSlice t n parts, type, pos, after, guard⟩).run C.P w = .ok (.value (.slice (some ⟨w.heap.size, 0, none⟩) n n)) (push w c' e) := by
          have hs' : ¬ n * inf.size > 2 ^ 24 := by rw [hsz]; omega
          have hf : Instr.fill (fun i => some (i * inf.size, inf.size)) c0 (parts.map fun (i, x) => (i, a.eval x)).toList = some c' := by
            rw [Array.toList_map, hsz]
            exact hfill
          simp only [execOp, Instr.buildSlice, Sem.run_bind, run_underlying ht, Result.andThen_ok, run_sizeOf hi, if_neg hs', Sem.run_ite, zeroValue, run_typeInfo hi, hz]
          by_cases h0 : n * inf.size = 0
          · rw [if_pos h0]
            simp only [if_pos h0] at hc0
            simp only [Sem.run_pure, Result.andThen_ok, hc0, hf, Sem.run_bind, newRow, run_newObj]
            rfl
          · rw [if_neg h0]
            simp only [if_neg h0] at hc0
            simp only [Sem.run_pure, Result.andThen_ok, hc0, hf, Sem.run_bind, newRow, run_newObj]
            rfl
        obtain ⟨i', fr⟩ := i1.new (key := siteKey d 0) (E := .arr u l .open) (c := c') (e := e) (w' := push w c' e) hk rfl (fun i' => by
          refine ⟨⟨c', e, (0, 0), push_at w c' e, Free.zero _, rfl, by rw [hll, hcs, hc0s]; simp, ?_⟩, fun p hp => ⟨fun ho => (by cases ho), fun _ => (by cases hp; exact i1.notF)⟩⟩
          have := RowIs.move (G' := G') (h' := (push w c' e).heap) (fun _ h => h) (fun b hb => push_old w c' e b (i1.sto.lt b (.inr hb))) hrow
          intro j z hj
          obtain ⟨es2, h1, h2⟩ := this j z hj
          exact ⟨es2, h1, fun q u hq => by simpa using h2 q u hq⟩)
        refine op_next (v := .cell (.ref (siteKey d 0))) hexec i' (fr1.trans fr) ?_ h
        refine ⟨u, l, .open, upd_same _ _ _, ?_⟩
        show SliceAt _ (upd pl _ _ _) _ _ _
        rw [upd_same, hll, hcs, hc0s]
        exact sliceAt_new (Nat.le_refl _)
      · simp at h
    · simp at h
  · simp at h
end

end Go.Flat
