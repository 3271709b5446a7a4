/- Slices that are written out, made, appended to, cleared. No condition. -/
import Derived.Test.YtmocpfgfjeaelaaGreatOps5
set_option linter.unusedVariables false
set_option linter.unusedSimpArgs false
namespace Go.Flat

theorem buildElems_ids {s : St} {t : Ty} : ∀ {parts : List (Nat × Operand)} {l l' : List t.den} {ids ids' : List Nat}, buildElems s t parts l ids = some (l', ids') → ∀ id ∈ ids, id ∈ ids'
  | [], l, l', ids, ids', h => by simp [buildElems] at h; rw [h.2]; exact fun _ h => h
  | (i, x) :: parts, l, l', ids, ids', h => by
    simp only [buildElems] at h
    split at h
    · split at h
      · split at h
        · intro id hid
          exact buildElems_ids h id (by simp [hid])
        · cases h
      · cases h
    · cases h

theorem buildElems_keep {s : St} {t : Ty} : ∀ {parts : List (Nat × Operand)} {l l' : List t.den} {ids ids' : List Nat}, buildElems s t parts l ids = some (l', ids') → (∀ id ∈ ids, ∃ u l o, s.sto id = some (.arr u l o) ∧ ∀ n, o ≠ .pinned n) →
    ∀ id ∈ ids', ∃ u l o, s.sto id = some (.arr u l o) ∧ ∀ n, o ≠ .pinned n
  | [], l, l', ids, ids', h, hk => by simp [buildElems] at h; rw [← h.2]; exact hk
  | (i, x) :: parts, l, l', ids, ids', h, hk => by
    simp only [buildElems] at h
    split at h
    · split at h
      · rename_i y js hof
        split at h
        · refine buildElems_keep h fun id hid => ?_
          rcases List.mem_append.1 hid with hid | hid
          · exact hk id hid
          · exact ofCellsAll_keep hof id hid
        · cases h
      · cases h
    · cases h

theorem build_elems {F0 : Fr0} {G G' : Nat → Prop} {s : St} {a : Act} {w : World} {pl : Nat → Option Pl} (i : Inv F0 G s a w pl) {t : Ty} (hG : ∀ b, G b → G' b) :
    ∀ {parts : List (Nat × Operand)} {l l' : List t.den} {ids ids' : List Nat} {c : Array Value}, buildElems s t parts l ids = some (l', ids') → c.size = l.length * t.sz → RowIs G' w.heap t l c.toList 0 →
      (∀ id ∈ ids', ∀ p, pl id = some p → G' p.b) → (∀ id ∈ ids', ∀ t l n, s.sto id ≠ some (.deep t l n)) →
      ∃ c', Instr.fill (fun i => some (i * t.sz, t.sz)) c (parts.map fun x => (x.1, a.eval x.2)) = some c' ∧ c'.size = c.size ∧ RowIs G' w.heap t l' c'.toList 0 ∧ l'.length = l.length
  | [], l, l', ids, ids', c, h, hsz, hrow, hids, hnd => by
    simp [buildElems] at h
    obtain ⟨rfl, rfl⟩ := h
    exact ⟨c, rfl, rfl, hrow, rfl⟩
  | (j, x) :: parts, l, l', ids, ids', c, h, hsz, hrow, hids, hnd => by
    simp only [buildElems] at h
    split at h
    · rename_i v hs
      split at h
      · rename_i y js hof
        split at h
        · rename_i hcond
          obtain ⟨hk, hj⟩ := hcond
          have hx := i.slot x
          rw [hs] at hx
          have hrel := cells_of_comp hk hx
          have hrd : Rd G' w.heap t G' y (a.eval x).cells.toList := ofCellsAll_rd i.sto hG hG (fun hm => by cases hm) hof hrel (fun id hid p hp => hids id (buildElems_ids h id (by simp [hid])) p hp) (fun id hid t l n p he => absurd he (hnd id (buildElems_ids h id (by simp [hid])) t l n))
          have hlen := hrd.len
          have hmul : (j + 1) * t.sz ≤ l.length * t.sz := Nat.mul_le_mul_right _ hj
          rw [Nat.add_mul, Nat.one_mul] at hmul
          obtain ⟨c1, hc1, hsz1, htl⟩ := fill_step (j * t.sz) (a.eval x).cells.toList c (by rw [hlen]; omega)
          have hset := hrow.set hj hrd (by simp [hsz])
          rw [Nat.zero_add, ← htl] at hset
          obtain ⟨c', hfill, hsz', hrow', hl'⟩ := build_elems i hG (c := c1) h (by rw [hsz1, hsz]; simp) hset hids hnd
          refine ⟨c', ?_, by rw [hsz', hsz1], hrow', by rw [hl']; simp⟩
          simp only [List.map_cons, Instr.fill]
          rw [if_neg (by simp at hlen; simp [hlen]; omega)]
          have : (a.eval x).cells.toList.toArray = (a.eval x).cells := by simp
          rw [this] at hc1
          rw [hc1]
          exact hfill
        · cases h
      · cases h
    · cases h

/-- A row of zeros. -/
theorem zero_row {G : Nat → Prop} {h : Array Obj} {t : Ty} {zero : Array Value} (hz : zero.toList = zeroVals t) (n m : Nat) (hn : n ≤ m) :
    RowIs G h t (List.replicate n t.dflt) ((Array.range (m * t.sz)).map (zero[· % zero.size]!)).toList 0 := by
  have hzs : zero.size = t.sz := by have := congrArg List.length hz; rw [zeroVals_len] at this; simpa using this
  intro i x hi
  rw [List.getElem?_replicate] at hi
  split at hi
  · rename_i hin
    simp at hi
    subst hi
    refine ⟨zeroVals t, rd_zero, fun j v hj => ?_⟩
    have hjl : j < t.sz := by have := (List.getElem?_eq_some_iff.1 hj).1; rwa [zeroVals_len] at this
    have hmul : (i + 1) * t.sz ≤ m * t.sz := Nat.mul_le_mul_right _ (by omega)
    rw [Nat.add_mul, Nat.one_mul] at hmul
    have hlt : i * t.sz + j < m * t.sz := by omega
    simp only [Nat.zero_add, Array.getElem?_toList, Array.getElem?_map, Array.getElem?_range, hlt, if_true, Option.map_some]
    have hmod : (i * t.sz + j) % zero.size = j := by
      rw [hzs, Nat.mul_comm, Nat.mul_add_mod]
      exact Nat.mod_eq_of_lt hjl
    rw [hmod]
    have hj' : j < zero.size := by rw [hzs]; exact hjl
    rw [getElem!_pos zero j hj']
    rw [← hz] at hj
    rw [Array.getElem?_toList] at hj
    simpa [hj'] using hj
  · cases hi

theorem Good.zeroOf {C : Cfg} (good : Good C) {t : TypeId} {T : Ty} (h : C.ty t = some T) : ∃ i z, C.P.info? t = some i ∧ i.zero = some z ∧ i.size = T.sz ∧ z.cells.toList = zeroVals T := by
  have hty : assoc C.tt t = some (some T) := by
    unfold Cfg.ty at h
    cases ha : assoc C.tt t with
    | none => simp [ha] at h
    | some x => simp [ha] at h; rw [h]
  obtain ⟨i, z, hi, hz, hok⟩ := good.zero hty
  obtain ⟨i', hi', hs⟩ := good.size h
  rw [hi] at hi'
  cases hi'
  unfold okZero at hok
  rw [hi] at hok
  simp only [Option.bind_some, hz] at hok
  exact ⟨i, z, hi, hz, hs, eqVals_eq hok⟩

/-! ### Rows whose rows are owned -/
/-- The places of the rows of a zero. -/
def zeroPs : Ty → List (Option Pl)
  | .list _ | .dlist _ => [none]
  | .pair a b => zeroPs a ++ zeroPs b
  | .bool | .int _ | .str | .unit => []
theorem own_zero {G : Nat → Prop} {h : Array Obj} : ∀ {t : Ty}, OwnRd true G h t t.dflt (zeroVals t) (zeroPs t)
  | .bool => ⟨rfl, rfl⟩
  | .int _ => ⟨rfl, rfl⟩
  | .str => ⟨rfl, rfl⟩
  | .unit => ⟨rfl, rfl⟩
  | .list _ => by simp only [OwnRd, if_true]; exact ⟨_, none, rfl, rfl, ⟨rfl, rfl⟩, rfl, fun p hp => by cases hp⟩
  | .dlist _ => ownRd_dlist.2 ⟨_, none, rfl, rfl, ⟨rfl, rfl⟩, rfl⟩
  | .pair a b => ⟨_, _, _, _, rfl, rfl, own_zero (t := a), own_zero (t := b)⟩
theorem zeroPs_none : ∀ {t : Ty} {q : Pl}, some q ∉ zeroPs t
  | .bool, q => by simp [zeroPs]
  | .int _, q => by simp [zeroPs]
  | .str, q => by simp [zeroPs]
  | .unit, q => by simp [zeroPs]
  | .list _, q => by simp [zeroPs]
  | .dlist _, q => by simp [zeroPs]
  | .pair a b, q => by simp [zeroPs, zeroPs_none (t := a), zeroPs_none (t := b)]
theorem zeros_none {t : Ty} {n : Nat} {q : Pl} : some q ∉ (List.replicate n (zeroPs t)).flatten := by
  intro h
  obtain ⟨l, hl, hq⟩ := List.mem_flatten.1 h
  rw [(List.mem_replicate.1 hl).2] at hq
  exact zeroPs_none hq

/-- Elements, each with its rows, in the cells of a block. -/
def RowO (G : Nat → Prop) (h : Array Obj) (t : Ty) (l : List t.den) (inn : List (List (Option Pl))) (c : List Value) (o : Nat) : Prop :=
  ∀ i x qs, l[i]? = some x → inn[i]? = some qs → ∃ es, OwnRd true G h t x es qs ∧ ∀ j v, es[j]? = some v → c[o + i * t.sz + j]? = some v

theorem RowO.set {G : Nat → Prop} {h : Array Obj} {t : Ty} {l : List t.den} {inn : List (List (Option Pl))} {c : List Value} {i : Nat} {x : t.den} {es : List Value} {ps : List (Option Pl)} (H : RowO G h t l inn c 0) (hi : i < l.length) (hil : i < inn.length) (hes : OwnRd true G h t x es ps) (hle : l.length * t.sz ≤ c.length) :
    RowO G h t (l.set i x) (inn.set i ps) (c.take (i * t.sz) ++ es ++ c.drop (i * t.sz + es.length)) 0 := by
  have hlen := hes.len
  have hmul : (i + 1) * t.sz ≤ l.length * t.sz := Nat.mul_le_mul_right _ hi
  rw [Nat.add_mul, Nat.one_mul] at hmul
  intro k y qs hk hq
  by_cases he : k = i
  · subst he
    rw [List.getElem?_set_self hi] at hk
    rw [List.getElem?_set_self hil] at hq
    cases hk
    cases hq
    refine ⟨es, hes, fun j v hv => ?_⟩
    have hjl := (List.getElem?_eq_some_iff.1 hv).1
    rw [getElem?_splice (by omega), if_neg (by omega), if_pos (by omega), show 0 + k * t.sz + j - k * t.sz = j by omega]
    exact hv
  · rw [List.getElem?_set_ne (fun e => he e.symm)] at hk hq
    obtain ⟨es2, h1, h2⟩ := H k y qs hk hq
    refine ⟨es2, h1, fun j v hv => ?_⟩
    have hjl : j < t.sz := by have := (List.getElem?_eq_some_iff.1 hv).1; rwa [h1.len] at this
    rw [getElem?_splice (by omega)]
    rcases Nat.lt_or_gt_of_ne he with h3 | h3
    · have h4 : (k + 1) * t.sz ≤ i * t.sz := Nat.mul_le_mul_right _ h3
      rw [Nat.add_mul, Nat.one_mul] at h4
      rw [if_pos (by omega)]
      exact h2 j v hv
    · have h4 : (i + 1) * t.sz ≤ k * t.sz := Nat.mul_le_mul_right _ h3
      rw [Nat.add_mul, Nat.one_mul] at h4
      rw [if_neg (by omega), if_neg (by omega)]
      exact h2 j v hv

theorem buildElemsD_ids {s : St} {t : Ty} : ∀ {parts : List (Nat × Operand)} {l l' : List t.den} {ids ids' : List Nat}, buildElemsD s t parts l ids = some (l', ids') → ∃ k, ids' = ids ++ k
  | [], l, l', ids, ids', h => by simp [buildElemsD] at h; exact ⟨[], by simp [h.2]⟩
  | (j, x) :: parts, l, l', ids, ids', h => by
    simp only [buildElemsD] at h
    split at h
    · split at h
      · split at h
        · obtain ⟨k, hk⟩ := buildElemsD_ids h
          exact ⟨_, by rw [hk, List.append_assoc]⟩
        · cases h
      · cases h
    · cases h

theorem buildElemsD_live {s : St} {t : Ty} : ∀ {parts : List (Nat × Operand)} {l l' : List t.den} {ids ids' : List Nat}, buildElemsD s t parts l ids = some (l', ids') → (∀ id ∈ ids, Lv s.sto .give id) → ∀ id ∈ ids', Lv s.sto .give id
  | [], l, l', ids, ids', h, hl => by simp [buildElemsD] at h; rw [← h.2]; exact hl
  | (j, x) :: parts, l, l', ids, ids', h, hl => by
    simp only [buildElemsD] at h
    split at h
    · split at h
      · rename_i y js hof
        split at h
        · refine buildElemsD_live h fun id hid => ?_
          rcases List.mem_append.1 hid with hid | hid
          · exact hl id hid
          · exact ofCellsAll_live hof id hid
        · cases h
      · cases h
    · cases h

theorem build_elemsD {F0 : Fr0} {G : Nat → Prop} {s : St} {a : Act} {w : World} {pl : Nat → Option Pl} (i : Inv F0 G s a w pl) {t : Ty} (hnod : t.nod = true) :
    ∀ {parts : List (Nat × Operand)} {l l' : List t.den} {ids ids' : List Nat} {c : Array Value} {inn : List (List (Option Pl))}, buildElemsD s t parts l ids = some (l', ids') → c.size = l.length * t.sz → RowO G w.heap t l inn c.toList 0 → inn.length = l.length →
      (∀ q, some q ∈ inn.flatten → q.inn = []) → ((inn.flatten.filterMap id).map Pl.b).Nodup → (∀ b ∈ (inn.flatten.filterMap id).map Pl.b, b ∈ (ids.filterMap pl).flatMap Pl.bs) → ((ids'.filterMap pl).flatMap Pl.bs).Nodup →
      ∃ c' inn', Instr.fill (fun i => some (i * t.sz, t.sz)) c (parts.map fun x => (x.1, a.eval x.2)) = some c' ∧ c'.size = c.size ∧ RowO G w.heap t l' inn' c'.toList 0 ∧ l'.length = l.length ∧ inn'.length = l.length ∧
        (∀ q, some q ∈ inn'.flatten → q.inn = []) ∧ ((inn'.flatten.filterMap id).map Pl.b).Nodup ∧ ∀ b ∈ (inn'.flatten.filterMap id).map Pl.b, b ∈ (ids'.filterMap pl).flatMap Pl.bs
  | [], l, l', ids, ids', c, inn, h, hsz, hrow, hil, hf, hn, hin, _ => by
    simp [buildElemsD] at h
    obtain ⟨rfl, rfl⟩ := h
    exact ⟨c, inn, rfl, rfl, hrow, rfl, hil, hf, hn, hin⟩
  | (j, x) :: parts, l, l', ids, ids', c, inn, h, hsz, hrow, hil, hf, hn, hin, hnd => by
    simp only [buildElemsD] at h
    split at h
    · rename_i v hs
      split at h
      · rename_i y js hof
        split at h
        · rename_i hcond
          obtain ⟨hk, hj⟩ := hcond
          have hx := i.slot x
          rw [hs] at hx
          have hrel := cells_of_comp hk hx
          obtain ⟨ps, hown, hblk⟩ := ofCellsAll_own i.sto hof hrel
          have hfl := hown.flat hnod
          rw [blks_flat hfl] at hblk
          have hblk : (ps.filterMap id).map Pl.b = (js.filterMap pl).flatMap Pl.bs := hblk
          have hlen := hown.len
          have hmul : (j + 1) * t.sz ≤ l.length * t.sz := Nat.mul_le_mul_right _ hj
          rw [Nat.add_mul, Nat.one_mul] at hmul
          obtain ⟨c1, hc1, hsz1, htl⟩ := fill_step (j * t.sz) (a.eval x).cells.toList c (by rw [hlen]; omega)
          have hset := hrow.set hj (by omega) hown (by simp [hsz])
          rw [← htl] at hset
          obtain ⟨k, hk'⟩ := buildElemsD_ids h
          have hnd2 := hnd
          rw [hk'] at hnd2
          simp only [List.filterMap_append, List.flatMap_append, List.nodup_append] at hnd2
          obtain ⟨⟨m1, m2, m3⟩, _, _⟩ := hnd2
          obtain ⟨A, B, hA, hB⟩ := ibs_set (show j < inn.length by omega) ps
          rw [hA] at hf hn hin
          simp only [List.filterMap_append, List.map_append] at hn hin
          simp only [List.nodup_append, List.mem_append] at hn
          obtain ⟨⟨n1, n2, n3⟩, n4, n5⟩ := hn
          obtain ⟨c', inn', hfill, hsz', hrow', hl', hi', r1, r2, r3⟩ := build_elemsD i hnod (c := c1) (inn := inn.set j ps) h (by rw [hsz1, hsz]; simp) hset (by simpa using hil)
            (fun q hq => by
              rw [hB] at hq
              rcases List.mem_append.1 hq with hq | hq
              · rcases List.mem_append.1 hq with hq | hq
                · exact hf q (by simp [hq])
                · exact hfl q hq
              · exact hf q (by simp [hq]))
            (by
              rw [hB]
              simp only [List.filterMap_append, List.map_append, List.nodup_append, List.mem_append]
              refine ⟨⟨n1, by rw [hblk]; exact m2, fun b hb b' hb' e => ?_⟩, n4, fun b hb b' hb' e => ?_⟩
              · subst e
                rw [hblk] at hb'
                exact m3 b (hin b (by simp only [List.mem_append]; exact .inl (.inl hb))) b hb' rfl
              · subst e
                rcases hb with hb | hb
                · exact n5 b (.inl hb) b hb' rfl
                · rw [hblk] at hb
                  exact m3 b (hin b (by simp only [List.mem_append]; exact .inr hb')) b hb rfl)
            (fun b hb => by
              rw [hB] at hb
              simp only [List.filterMap_append, List.map_append, List.mem_append, List.flatMap_append] at hb ⊢
              rcases hb with (hb | hb) | hb
              · exact .inl (hin b (by simp only [List.mem_append]; exact .inl (.inl hb)))
              · exact .inr (by rw [← hblk]; exact hb)
              · exact .inl (hin b (by simp only [List.mem_append]; exact .inr hb))) hnd
          refine ⟨c', inn', ?_, by rw [hsz', hsz1], hrow', by rw [hl']; simp, by rw [hi']; simp, r1, r2, r3⟩
          simp only [List.map_cons, Instr.fill]
          rw [if_neg (by simp at hlen; simp [hlen]; omega)]
          have : (a.eval x).cells.toList.toArray = (a.eval x).cells := by simp
          rw [this] at hc1
          rw [hc1]
          exact hfill
        · cases h
      · cases h
    · cases h

/-- A row of zeros. -/
theorem zero_rowO {G : Nat → Prop} {h : Array Obj} {t : Ty} {zero : Array Value} (hz : zero.toList = zeroVals t) (n m : Nat) (hn : n ≤ m) :
    RowO G h t (List.replicate n t.dflt) (List.replicate n (zeroPs t)) ((Array.range (m * t.sz)).map (zero[· % zero.size]!)).toList 0 := by
  intro i x qs hi hq
  obtain ⟨hin, rfl⟩ := List.getElem?_eq_some_iff.1 hi
  obtain ⟨_, rfl⟩ := List.getElem?_eq_some_iff.1 hq
  have hzs : zero.size = t.sz := by have := congrArg List.length hz; rw [zeroVals_len] at this; simpa using this
  have hin : i < n := by simpa using hin
  simp only [List.getElem_replicate]
  refine ⟨zeroVals t, own_zero, fun j v hj => ?_⟩
  have hjl : j < t.sz := by have := (List.getElem?_eq_some_iff.1 hj).1; rwa [zeroVals_len] at this
  have hmul : (i + 1) * t.sz ≤ m * t.sz := Nat.mul_le_mul_right _ (by omega)
  rw [Nat.add_mul, Nat.one_mul] at hmul
  have hlt : i * t.sz + j < m * t.sz := by omega
  simp only [Nat.zero_add, Array.getElem?_toList, Array.getElem?_map, Array.getElem?_range, hlt, if_true, Option.map_some]
  have hmod : (i * t.sz + j) % zero.size = j := by
    rw [hzs, Nat.mul_comm, Nat.mul_add_mod]
    exact Nat.mod_eq_of_lt hjl
  rw [hmod]
  have hj' : j < zero.size := by rw [hzs]; exact hjl
  rw [getElem!_pos zero j hj']
  rw [← hz] at hj
  rw [Array.getElem?_toList] at hj
  simpa [hj'] using hj

section
variable {C : Cfg} {callF : FuncId → (t : Ty) → List Arg → Option t.den}
  {dst : Option Tmp} {type : TypeId} {pos : String} {after : Array Edge} {guard : Option (Nat × Bool)}

theorem ok_buildDeep (good : Good C) {t e : TypeId} {u : Ty} (he : C.elem t = some (e, u)) {n : Nat} {parts : Array (Nat × Operand)} {R : Type} {F0 : Fr0} {G : Nat → Prop} {s : St} {a : Act} {w : World} {pl : Nat → Option Pl} {κ : St → Option R} {r : R} {Q : Exit → Act → World → Prop}
    (i : Inv F0 G s a w pl) (h : (buildDeep s u dst n parts.toList).run callF κ = some r) : (⟨dst, .buildSlice t n parts, type, pos, after, guard⟩ : Oper).wp C.P a w (Nxt F0 G w κ r) Q := by
  unfold buildDeep at h
  split at h
  · rename_i d
    split at h
    · rename_i hsm
      obtain ⟨hsmall, hnod⟩ := hsm
      split at h
      · rename_i l ids hb
        cases hbb : (nodup ids && nodup (parts.toList.map (·.1))) with
        | false => rw [hbb] at h; simp at h
        | true =>
          rw [hbb] at h
          simp only [Bool.and_eq_true] at hbb
          simp only [cond_true] at h
          rw [T.run_bind] at h
          obtain ⟨hk, h⟩ := alloc_some h
          obtain ⟨ht, hu⟩ := Cfg.elem_some he
          obtain ⟨inf, z, hi, hz, hsz, hzv⟩ := good.zeroOf hu
          have hnd := nodup_spec hbb.1
          have hlive := buildElemsD_live hb (fun id hid => by simp at hid)
          obtain ⟨i1, old, _⟩ := i.dropAll hnd (fun j hj => (hlive j hj).nobox)
          have hbnd := blocks_nodup i.sto hnd hlive
          have hrow0 : ∃ c0 : Array Value, (Array.range (n * inf.size)).map ((if n * inf.size = 0 then #[] else z.cells)[· % (if n * inf.size = 0 then #[] else z.cells).size]!) = c0 ∧ c0.size = n * u.sz ∧ RowO G w.heap u (List.replicate n u.dflt) (List.replicate n (zeroPs u)) c0.toList 0 := by
            by_cases h0 : n * inf.size = 0
            · refine ⟨#[], by simp [h0], by rw [← hsz]; exact h0.symm, ?_⟩
              intro j x qs hj hq
              obtain ⟨hin, rfl⟩ := List.getElem?_eq_some_iff.1 hj
              obtain ⟨_, rfl⟩ := List.getElem?_eq_some_iff.1 hq
              simp only [List.getElem_replicate]
              refine ⟨zeroVals u, own_zero, fun q v hq => ?_⟩
              have : q < u.sz := by have := (List.getElem?_eq_some_iff.1 hq).1; rwa [zeroVals_len] at this
              rw [hsz] at h0
              have hin : j < n := by simpa using hin
              rcases Nat.mul_eq_zero.1 h0 with h1 | h1 <;> omega
            · refine ⟨_, rfl, by simp [hsz], ?_⟩
              rw [hsz] at h0 ⊢
              simp only [if_neg h0]
              exact zero_rowO hzv n n (Nat.le_refl _)
          obtain ⟨c0, hc0, hc0s, hrow0⟩ := hrow0
          have hz0 : ((List.replicate n (zeroPs u)).flatten.filterMap id).map Pl.b = [] := by
            have : (List.replicate n (zeroPs u)).flatten.filterMap id = [] := by
              rw [List.filterMap_eq_nil_iff]
              intro q hq
              cases q with
              | none => rfl
              | some q => exact absurd hq zeros_none
            rw [this]; rfl
          obtain ⟨c', inn, hfill, hcs, hrow, hlen, hil, hfl, hnd', hin⟩ := build_elemsD i hnod (inn := List.replicate n (zeroPs u)) hb (by rw [hc0s]; simp) hrow0 (by simp) (fun q hq => absurd hq zeros_none) (by rw [hz0]; exact List.nodup_nil) (by rw [hz0]; simp) hbnd
          have hll : l.length = n := by rw [hlen]; simp
          have hil : inn.length = n := by rw [hil]; simp
          have hinb : ∀ b ∈ (⟨w.heap.size, 0, c'.size, inn⟩ : Pl).ibs, ∃ j ∈ ids, ∃ ej q, s.sto j = some ej ∧ pl j = some q ∧ b ∈ ej.bs q ∧ ¬ (F0 b ∨ G b) := by
            intro b hb2
            obtain ⟨q, hq, hqb⟩ := List.mem_flatMap.1 (hin b hb2)
            obtain ⟨j, hj, hjq⟩ := List.mem_filterMap.1 hq
            obtain ⟨ej, h1, h2, _, h4⟩ := (hlive j hj).bs i.sto hjq
            exact ⟨j, hj, ej, q, h1, hjq, by rw [h2]; exact hqb, h4 rfl b hqb⟩
          have hexec : (execOp a.eval ⟨some d, .buildSlice t n parts, type, pos, after, guard⟩).run C.P w = .ok (.value (.slice (some ⟨w.heap.size, 0, none⟩) n n)) (push w c' e) := by
            have hs' : ¬ n * inf.size > 2 ^ 24 := by rw [hsz]; omega
            have hf : Instr.fill (fun i => some (i * inf.size, inf.size)) c0 (parts.map fun (i, x) => (i, a.eval x)).toList = some c' := by
              rw [Array.toList_map, hsz]
              exact hfill
            simp only [execOp, Instr.buildSlice, Sem.run_bind, run_underlying ht, Result.andThen_ok, run_sizeOf hi, if_neg hs', Sem.run_ite, zeroValue, run_typeInfo hi, hz]
            by_cases h0 : n * inf.size = 0
            · rw [if_pos h0]
              simp only [if_pos h0] at hc0
              simp only [Sem.run_pure, Result.andThen_ok, hc0, hf, Sem.run_bind, newRow, run_newObj]
              rfl
            · rw [if_neg h0]
              simp only [if_neg h0] at hc0
              simp only [Sem.run_pure, Result.andThen_ok, hc0, hf, Sem.run_bind, newRow, run_newObj]
              rfl
          have hsmallb : ∀ b ∈ (⟨w.heap.size, 0, c'.size, inn⟩ : Pl).ibs, b < w.heap.size := fun b hb2 => by
            obtain ⟨j, hj, ej, q, h1, h2, h3, _⟩ := hinb b hb2
            exact i.sto.lt_bs h1 h2 b h3
          obtain ⟨i', fr⟩ := i1.newD (key := siteKey d 0) (E := .deep u l none) (c := c') (e := e) (w' := push w c' e) inn hk rfl (fun id2 e2 p2 he2 hp2 b hb2 hb3 => by
            obtain ⟨hjn, e', h2, h3⟩ := old id2 e2 he2
            obtain ⟨j, hj, ej, q, m1, m2, m3, _⟩ := hinb b hb3
            exact i.sto.apart' id2 j e' ej p2 q h2 m1 (fun e => hjn (e ▸ hj)) hp2 m2 b (by rw [← h3]; exact hb2) m3) (fun i' => by
            refine ⟨⟨c', e, (0, 0), push_at w c' e, Free.zero _, rfl, by rw [hll, hcs, hc0s]; simp, by rw [hll]; exact hil, ?_, hfl, ?_⟩, fun p hp => ?_⟩
            · refine List.nodup_cons.2 ⟨fun hm => Nat.lt_irrefl _ (hsmallb _ hm), hnd'⟩
            · intro j x qs hj hq
              obtain ⟨es2, h1, h2⟩ := hrow j x qs hj hq
              refine ⟨es2, OwnRd.move (fun _ h => h) (fun b hb2 => push_old w c' e b (i.sto.lt b (.inr hb2))) (fun b hb2 => push_old w c' e b (hsmallb b ?_)) h1, fun q u hq => by simpa using h2 q u hq⟩
              have hm : qs ∈ inn := List.mem_of_getElem? hq
              rw [blks_flat (fun q hq' => hfl q (List.mem_flatten.2 ⟨qs, hm, hq'⟩))] at hb2
              obtain ⟨q, hq', rfl⟩ := List.mem_map.1 hb2
              simp only [List.mem_filterMap, id] at hq'
              obtain ⟨_, hq', rfl⟩ := hq'
              exact Pl.ibs_mem (p := ⟨w.heap.size, 0, c'.size, inn⟩) hm hq'
            · cases hp
              refine ⟨fun b hb2 => ?_, fun k hk => by cases hk⟩
              simp only [Pl.bs, List.mem_cons] at hb2
              rcases hb2 with rfl | hb2
              · exact ⟨by show _ < (w.heap.push _).size; rw [Array.size_push]; exact Nat.lt_succ_self _, i.notF⟩
              · obtain ⟨j, hj, ej, q, h1, h2, h3, h4⟩ := hinb b hb2
                exact ⟨by show _ < (w.heap.push _).size; rw [Array.size_push]; exact Nat.lt_succ_of_lt (hsmallb b hb2), h4⟩)
          refine op_next (v := .cell (.dref (siteKey d 0))) hexec i' fr ?_ h
          refine ⟨u, l, none, upd_same _ _ _, ?_⟩
          show SliceAt _ (upd pl _ _ _) _ _ _
          rw [upd_same, hll, hcs, hc0s]
          exact sliceAt_new (Nat.le_refl _)
      · simp at h
    · simp at h
  · simp at h

theorem build_run (good : Good C) {t : TypeId} {n : Nat} {parts : Array (Nat × Operand)} {e : TypeId} {u : Ty} {d : Tmp} {l : List u.den} {ids : List Nat} {F0 : Fr0} {G : Nat → Prop} {s : St} {a : Act} {w : World} {pl : Nat → Option Pl} (he : C.elem t = some (e, u)) (hsmall : n * u.sz ≤ 16777216) (hb : buildElems s u parts.toList (List.replicate n u.dflt) [] = some (l, ids)) (i : Inv F0 G s a w pl) :
    ∃ G' c', Inv F0 G' { s with sto := freezeAll s.sto ids } a w pl ∧ Fr F0 G w G' w ∧ RowIs G' w.heap u l c'.toList 0 ∧ c'.size = n * u.sz ∧ l.length = n ∧
      (execOp a.eval ⟨some d, .buildSlice t n parts, type, pos, after, guard⟩).run C.P w = .ok (.value (.slice (some ⟨w.heap.size, 0, none⟩) n n)) (push w c' e) := by
  obtain ⟨ht, hu⟩ := Cfg.elem_some he
  obtain ⟨inf, z, hi, hz, hsz, hzv⟩ := good.zeroOf hu
  have hkeep := buildElems_keep hb (fun id hid => by simp at hid)
  obtain ⟨G', i1, fr1, hG, hnone⟩ := freezeAll_ok (ids := ids) i (fun j hj t'' l'' n'' he => by
    obtain ⟨u, l3, o3, h1, h2⟩ := hkeep j hj
    rw [h1] at he
    cases he
    exact h2 n'' rfl)
  have hGids : ∀ id ∈ ids, ∀ p, pl id = some p → G' p.b := fun id hid p hp => by
    obtain ⟨u, l3, o3, h1, h2⟩ := hkeep id hid
    exact hG id hid u l3 o3 h1 p hp
  have hrow0 : ∃ c0 : Array Value, (Array.range (n * inf.size)).map ((if n * inf.size = 0 then #[] else z.cells)[· % (if n * inf.size = 0 then #[] else z.cells).size]!) = c0 ∧ c0.size = n * u.sz ∧ RowIs G' w.heap u (List.replicate n u.dflt) c0.toList 0 := by
    by_cases h0 : n * inf.size = 0
    · refine ⟨#[], by simp [h0], by rw [← hsz]; exact h0.symm, ?_⟩
      intro j x hj
      rw [List.getElem?_replicate] at hj
      split at hj
      · simp at hj
        subst hj
        refine ⟨zeroVals u, rd_zero, fun q v hq => ?_⟩
        have : q < u.sz := by have := (List.getElem?_eq_some_iff.1 hq).1; rwa [zeroVals_len] at this
        rw [hsz] at h0
        rcases Nat.mul_eq_zero.1 h0 with h1 | h1 <;> omega
      · cases hj
    · refine ⟨_, rfl, by simp [hsz], ?_⟩
      rw [hsz] at h0 ⊢
      simp only [if_neg h0]
      exact zero_row hzv n n (Nat.le_refl _)
  obtain ⟨c0, hc0, hc0s, hrow0⟩ := hrow0
  obtain ⟨c', hfill, hcs, hrow, hlen⟩ := build_elems i (fun b hb => fr1.more b hb) hb (by rw [hc0s]; simp) hrow0 hGids (fun id hid t2 l2 n2 he => by
    obtain ⟨u, l3, o3, h1, h2⟩ := hkeep id hid
    rw [he] at h1
    cases h1)
  have hll : l.length = n := by rw [hlen]; simp
  have hexec : (execOp a.eval ⟨some d, .buildSlice t n parts, type, pos, after, guard⟩).run C.P w = .ok (.value (.slice (some ⟨w.heap.size, 0, none⟩) n n)) (push w c' e) := by
    have hs' : ¬ n * inf.size > 2 ^ 24 := by rw [hsz]; omega
    have hf : Instr.fill (fun i => some (i * inf.size, inf.size)) c0 (parts.map fun (i, x) => (i, a.eval x)).toList = some c' := by
      rw [Array.toList_map, hsz]
      exact hfill
    simp only [execOp, Instr.buildSlice, Sem.run_bind, run_underlying ht, Result.andThen_ok, run_sizeOf hi, if_neg hs', Sem.run_ite, zeroValue, run_typeInfo hi, hz]
    by_cases h0 : n * inf.size = 0
    · rw [if_pos h0]
      simp only [if_pos h0] at hc0
      simp only [Sem.run_pure, Result.andThen_ok, hc0, hf, Sem.run_bind, newRow, run_newObj]
      rfl
    · rw [if_neg h0]
      simp only [if_neg h0] at hc0
      simp only [Sem.run_pure, Result.andThen_ok, hc0, hf, Sem.run_bind, newRow, run_newObj]
      rfl
  exact ⟨G', c', i1, fr1, hrow, by rw [hcs, hc0s], hll, hexec⟩
theorem ok_buildFlat (good : Good C) {t : TypeId} {n : Nat} {parts : Array (Nat × Operand)} {e : TypeId} {u : Ty} {d : Tmp} {l : List u.den} {ids : List Nat} {R : Type} {F0 : Fr0} {G : Nat → Prop} {s : St} {a : Act} {w : World} {pl : Nat → Option Pl} {κ : St → Option R} {r : R} {Q : Exit → Act → World → Prop} (he : C.elem t = some (e, u)) (hsmall : n * u.sz ≤ 16777216) (hb : buildElems s u parts.toList (List.replicate n u.dflt) [] = some (l, ids)) (i : Inv F0 G s a w pl)
    (h : (({ s with sto := freezeAll s.sto ids }.alloc (siteKey d 0) (.arr u l .open)).bind fun s => s.put (some d) (.cell (.ref (siteKey d 0)))).run callF κ = some r) :
    (⟨some d, .buildSlice t n parts, type, pos, after, guard⟩ : Oper).wp C.P a w (Nxt F0 G w κ r) Q := by
  rw [T.run_bind] at h
  obtain ⟨hk, h⟩ := alloc_some h
  obtain ⟨G', c', i1, fr1, hrow, hcs, hll, hexec⟩ := build_run (type := type) (pos := pos) (after := after) (guard := guard) (d := d) good he hsmall hb i
  obtain ⟨i', fr⟩ := i1.new (key := siteKey d 0) (E := .arr u l .open) (c := c') (e := e) (w' := push w c' e) hk rfl (fun i' => by
    refine ⟨⟨c', e, (0, 0), push_at w c' e, Free.zero _, rfl, by rw [hll, hcs]; simp, ?_⟩, fun p hp => ⟨⟨fun ho => (by cases ho), by cases hp; rfl⟩, fun _ => (by cases hp; exact i1.notF)⟩⟩
    have := RowIs.move (G' := G') (h' := (push w c' e).heap) (fun _ h => h) (fun b hb => push_old w c' e b (i1.sto.lt b (.inr hb))) hrow
    intro j z hj
    obtain ⟨es2, h1, h2⟩ := this j z hj
    exact ⟨es2, h1, fun q u hq => by simpa using h2 q u hq⟩)
  refine op_next (v := .cell (.ref (siteKey d 0))) hexec i' (fr1.trans fr) ?_ h
  refine ⟨u, l, .open, upd_same _ _ _, ?_⟩
  show SliceAt _ (upd pl _ _ _) _ _ _
  rw [upd_same, hll, hcs]
  exact sliceAt_new (Nat.le_refl _)
theorem ok_buildKept (good : Good C) {t : TypeId} {n : Nat} {parts : Array (Nat × Operand)} {e : TypeId} {u : Ty} {d : Tmp} {l : List u.den} {R : Type} {F0 : Fr0} {G : Nat → Prop} {s : St} {a : Act} {w : World} {pl : Nat → Option Pl} {κ : St → Option R} {r : R} {Q : Exit → Act → World → Prop} (he : C.elem t = some (e, u)) (hsmall : n * u.sz ≤ 16777216) (hb : buildElems s u parts.toList (List.replicate n u.dflt) [] = some (l, [])) (i : Inv F0 G s a w pl)
    (h : (s.put (some d) (.cell (.list true u l))).run callF κ = some r) :
    (⟨some d, .buildSlice t n parts, type, pos, after, guard⟩ : Oper).wp C.P a w (Nxt F0 G w κ r) Q := by
  obtain ⟨G', c', i1, fr1, hrow, hcs, hll, hexec⟩ := build_run (type := type) (pos := pos) (after := after) (guard := guard) (d := d) good he hsmall hb i
  have i1 : Inv F0 G' s a w pl := i1
  obtain ⟨i2, fr2⟩ := i1.grow (w' := push w c' e) (G' := fun b => G' b ∨ b = w.heap.size) (by show _ ≤ (w.heap.push _).size; rw [Array.size_push]; exact Nat.le_succ _) ⟨rfl, rfl, rfl, fun _ => Nat.le_refl _⟩ (fun b hb => push_old w c' e b hb) (fun _ h => .inl h)
    (fun b hb => hb.imp id fun hb => by subst hb; exact ⟨Nat.le_refl _, by show _ < (w.heap.push _).size; rw [Array.size_push]; exact Nat.lt_succ_self _⟩)
  refine op_next (v := .cell (.list true u l)) hexec i2 (fr1.trans fr2) ?_ h
  refine ⟨some ⟨w.heap.size, 0, none⟩, n, by rw [hll], by rw [hll]; exact Nat.le_refl _, fun _ => ⟨w.heap.size, 0, rfl, .inr rfl, fun j z hj => ?_⟩⟩
  obtain ⟨es, h1, h2⟩ := RowIs.move (G' := fun b => G' b ∨ b = w.heap.size) (h' := (push w c' e).heap) (fun _ h => .inl h) (fun b hb => push_old w c' e b (i1.sto.lt b (.inr hb))) hrow j z hj
  refine ⟨es, h1, fun q v hq => ?_⟩
  unfold hcell
  have := h2 q v hq
  rw [show (mem F0 (fun b => G' b ∨ b = w.heap.size) (push w c' e).heap s.sto pl).h[w.heap.size]? = some (.cells c' e (0, 0)) from push_at w c' e]
  simpa using this
theorem ok_buildSlice (good : Good C) (t : TypeId) (n : Nat) (parts : Array (Nat × Operand)) : OpOk C callF ⟨dst, .buildSlice t n parts, type, pos, after, guard⟩ := by
  intro R F0 G s a w pl κ r Q i ht h
  simp only [opT] at h
  cases hbr : C.brow dst t with
  | true =>
    rw [hbr] at h
    simp only [cond_true, buildKept] at h
    split at h
    · rename_i e u d he
      split at h
      · rename_i hsmall
        split at h
        · rename_i l hb
          exact ok_buildKept good he hsmall hb i h
        · simp at h
      · simp at h
    · simp at h
  | false =>
  rw [hbr] at h
  simp only [cond_false] at h
  split at h
  · split at h
    · rename_i e u he
      exact ok_buildDeep good he i h
    · simp at h
  split at h
  · rename_i e u d he
    split at h
    · rename_i hsmall
      split at h
      · rename_i l ids hb
        exact ok_buildFlat good he hsmall hb i h
      · simp at h
    · simp at h
  · simp at h
end

end Go.Flat
