/- What copies a slot or looks into a box, beside what gives rows up. No condition. -/
import Derived.Test.YtmocpfgfjeaelaaGreatDrawC
set_option linter.unusedVariables false
set_option linter.unusedSimpArgs false
namespace Go.Flat
section
variable {C : Cfg} {callF : FuncId → (t : Ty) → List Arg → Option t.den} {ops : List Oper}

theorem regCells_ids {own : Bool} {key : Nat → Nat} : ∀ {t : Ty} {x : t.den} {j : Nat}, ∀ c ∈ (regCells own key t x j).1, ∀ i ∈ c.ids, ∃ e, (i, e) ∈ (regCells own key t x j).2.1 := by
  intro t
  induction t with
  | list t _ =>
    intro x j c hc i hi
    cases own with
    | true =>
      simp only [regCells, if_true, List.mem_singleton] at hc ⊢
      subst hc
      simp [Cell.ids] at hi
      subst hi
      exact ⟨_, rfl⟩
    | false =>
      simp only [regCells, Bool.false_eq_true, if_false, List.mem_singleton] at hc
      subst hc
      simp [Cell.ids] at hi
  | dlist t _ =>
    intro x j c hc i hi
    cases own with
    | true =>
      simp only [regCells, if_true, List.mem_singleton] at hc ⊢
      subst hc
      simp [Cell.ids] at hi
      subst hi
      exact ⟨_, rfl⟩
    | false =>
      simp only [regCells, Bool.false_eq_true, if_false, List.mem_singleton] at hc
      subst hc
      simp [Cell.ids] at hi
  | pair a b iha ihb =>
    intro x j c hc i hi
    simp only [regCells] at hc ⊢
    generalize hra : regCells own key a x.1 j = ra at hc ⊢
    obtain ⟨ca, ea, j2⟩ := ra
    simp only at hc ⊢
    generalize hrb : regCells own key b x.2 j2 = rb at hc ⊢
    obtain ⟨cb, eb, j3⟩ := rb
    simp only at hc ⊢
    rcases List.mem_append.1 hc with hc | hc
    · obtain ⟨e, he⟩ := iha (x := x.1) (j := j) c (by rw [hra]; exact hc) i hi
      rw [hra] at he
      exact ⟨e, List.mem_append_left _ he⟩
    · obtain ⟨e, he⟩ := ihb (x := x.2) (j := j2) c (by rw [hrb]; exact hc) i hi
      rw [hrb] at he
      exact ⟨e, List.mem_append_right _ he⟩
  | bool => intro x j c hc i hi; simp only [regCells] at hc; rw [cellsOf_noIds _ _ _ c hc] at hi; cases hi
  | int k => intro x j c hc i hi; simp only [regCells] at hc; rw [cellsOf_noIds _ _ _ c hc] at hi; cases hi
  | str => intro x j c hc i hi; simp only [regCells] at hc; rw [cellsOf_noIds _ _ _ c hc] at hi; cases hi
  | unit => intro x j c hc i hi; simp only [regCells] at hc; rw [cellsOf_noIds _ _ _ c hc] at hi; cases hi
theorem allocO_none : ∀ {es : List (Nat × Entry)} {σ σ' : Nat → Option Entry}, allocO σ es = some σ' → ∀ i e, (i, e) ∈ es → σ i = none
  | [], σ, σ', h, i, e, he => by simp at he
  | (k, x) :: r, σ, σ', h, i, e, he => by
    simp only [allocO] at h
    split at h
    · rename_i hk
      rcases List.mem_cons.1 he with he | he
      · cases he; exact hk
      · have := allocO_none h i e he
        by_cases hik : i = k
        · subst hik; exact hk
        · rwa [upd_ne _ _ hik] at this
    · cases h
/-- A set of numbers that is closed: what a box within it holds leads into it. -/
structure Shut (s : St) (P : Nat → Prop) : Prop where
  ent : ∀ i, P i → ∃ e, s.sto i = some e
  box : ∀ i t cs, P i → s.sto i = some (.box t cs) → ∀ c ∈ cs, ∀ j ∈ c.ids, P j

open Classical in
theorem valT_offP {o : Oper} {s s1 : St} {P : Nat → Prop} (hP : Shut s P) (hq : quietOp C o = true) (he : ∀ r ∈ readsOf ops o, s1.env r = s.env r) (hr : ∀ r ∈ readsOf ops o, ∀ i ∈ (s.env r).ids, P i) (hs : ∀ i, P i → s1.sto i = s.sto i) : valT C o s1 = valT C o s := by
  let s0 : St := ⟨s.n, fun t => if t ∈ readsOf ops o then s.env t else .undef, fun j => if P j then s.sto j else none⟩
  have hop : ∀ t, Operand.tmp t ∈ o.op.operands.toList → t ∈ readsOf ops o := fun t ht => by
    unfold readsOf
    exact List.mem_append_left _ (List.mem_filterMap.2 ⟨_, ht, rfl⟩)
  have good : ∀ {j e}, s0.sto j = some e → P j ∧ s.sto j = some e := by
    intro j e h
    have h : (if P j then s.sto j else none) = some e := h
    split at h
    · rename_i hg; exact ⟨hg, h⟩
    · cases h
  have there : ∀ i, P i → ∃ e, s0.sto i = some e := fun i hi => by
    obtain ⟨e, h1⟩ := hP.ent i hi
    exact ⟨e, by show (if P i then s.sto i else none) = some e; rw [if_pos hi, h1]⟩
  have l : Live s0 := by
    refine ⟨fun t id hid => ?_, fun k t cs hk c hc id hid => ?_⟩
    · have hid : id ∈ (if t ∈ readsOf ops o then s.env t else .undef : Slot).ids := hid
      split at hid
      · rename_i ht
        exact there id (hr t ht id hid)
      · simp [Slot.ids, Comp.ids, Comp.cells, Cell.ids] at hid
    · obtain ⟨h1, h2⟩ := good hk
      exact there id (hP.box k t cs h1 h2 c hc id hid)
  have ext : ∀ s' : St, (∀ r ∈ readsOf ops o, s'.env r = s.env r) → (∀ i, P i → s'.sto i = s.sto i) → Ext s0 s' o.op.operands.toList := by
    intro s' h1 h2
    refine ⟨fun id e h => ?_, fun x hx => ?_⟩
    · obtain ⟨h3, h4⟩ := good h
      rw [h2 id h3]
      exact h4
    · cases x with
      | tmp t =>
        show s'.env t = if t ∈ readsOf ops o then s.env t else .undef
        rw [if_pos (hop t hx)]
        exact h1 t (hop t hx)
      | global g => rfl
      | func f => rfl
      | const v => rfl
  rw [valT_ext l hq (ext s1 he hs), valT_ext l hq (ext s (fun _ _ => rfl) fun _ _ => rfl)]

theorem cellsD_in (id i : Nat) (p : Bool) : ∀ (t : Ty) (x : t.den) (o : Nat), ∀ c ∈ cellsD id i p t x o, ∀ j ∈ c.ids, j = id
  | .list _, _, o, c, hc, j, hj => by
    simp only [cellsD, List.mem_singleton] at hc
    subst hc
    cases p <;> simp [Cell.ids] at hj
    exact hj
  | .dlist _, _, _, c, hc, j, hj => by
    simp only [cellsD, List.mem_singleton] at hc
    subst hc
    simp [Cell.ids] at hj
  | .pair a b, x, o, c, hc, j, hj => by
    simp only [cellsD] at hc
    rcases List.mem_append.1 hc with hc | hc
    · exact cellsD_in id i p a x.1 o c hc j hj
    · exact cellsD_in id i p b x.2 _ c hc j hj
  | .bool, x, _, c, hc, j, hj => by simp only [cellsD] at hc; rw [cellsOf_noIds _ _ _ c hc] at hj; cases hj
  | .int k, x, _, c, hc, j, hj => by simp only [cellsD] at hc; rw [cellsOf_noIds _ _ _ c hc] at hj; cases hj
  | .str, x, _, c, hc, j, hj => by simp only [cellsD] at hc; rw [cellsOf_noIds _ _ _ c hc] at hj; cases hj
  | .unit, x, _, c, hc, j, hj => by simp [cellsD] at hc
theorem cellsAt_in {n : Nat} {agg : Bool} {s : St} {p : Cell} {v : Comp} {P : Nat → Prop} (hP : Shut s P) (hp : ∀ i ∈ p.ids, P i) (h : (s.cellsAt n agg p).run callF some = some v) : ∀ i ∈ v.ids, P i := by
  have fin : ∀ {cs : List Cell}, (∀ c ∈ cs, ∀ i ∈ c.ids, P i) → ∀ i ∈ (compOfCells agg cs).ids, P i := by
    intro cs hc i hi
    obtain ⟨c, h1, h2⟩ := compOfCells_ids hi
    exact hc c h1 i h2
  have sub : ∀ {cs : List Cell} {a b : Nat}, (∀ c ∈ cs, ∀ i ∈ c.ids, P i) → ∀ c ∈ (cs.drop a).take b, ∀ i ∈ c.ids, P i := fun hc c hx => hc c (List.mem_of_mem_drop (List.mem_of_mem_take hx))
  have none_ : ∀ {cs : List Cell}, (∀ c ∈ cs, c.ids = []) → ∀ c ∈ cs, ∀ i ∈ c.ids, P i := fun h c hc i hi => by rw [h c hc] at hi; cases hi
  cases p <;> simp only [St.cellsAt] at h <;> try (cases h; done)
  case ptr id off =>
    split at h
    · rename_i t cs hs
      split at h
      · cases h
        exact fin (sub (hP.box id t cs (hp id (by simp [Cell.ids])) hs))
      · cases h
    · cases h
  case eptr id i off =>
    split at h
    · split at h
      · cases h
        exact fin (sub (none_ (cellsOf_noIds _ _ _)))
      · cases h
    · cases h
  case rptr fr t x off =>
    split at h
    · cases h
      exact fin (sub (none_ (cellsOf_noIds _ _ _)))
    · cases h
  case dptr id i off =>
    split at h
    · split at h
      · cases h
        exact fin (sub fun c hc j hj => by rw [cellsD_in id i _ _ _ _ c hc j hj]; exact hp id (by simp [Cell.ids]))
      · cases h
    · cases h

theorem look_ids {o : Oper} {s : St} {P : Nat → Prop} (hP : Shut s P) (hl : lookOp C o = true) (hr : ∀ r ∈ readsOf ops o, ∀ i ∈ (s.env r).ids, P i) {v : Slot} {es : List (Nat × Entry)} (h : (valT C o s).run callF some = some (v, es)) : es = [] ∧ ∀ i ∈ v.ids, P i := by
  have rd : ∀ x ∈ o.op.operands.toList, ∀ i ∈ (s.ev x).ids, P i := by
    intro x hx i hi
    obtain ⟨t, rfl, ht⟩ := ev_ids hi
    exact hr t (by unfold readsOf; exact List.mem_append_left _ (List.mem_filterMap.2 ⟨_, hx, rfl⟩)) i ht
  have nil_ : ∀ i ∈ (Slot.cell .nil).ids, P i := fun i hi => by simp [Slot.ids, Comp.ids, Comp.cells, Cell.ids] at hi
  obtain ⟨dst, op, type, pos, after, guard⟩ := o
  cases op <;> simp only [lookOp] at hl <;> try (cases hl; done)
  case move x =>
    cases x with
    | tmp z =>
      simp only [valT] at h
      have hz : ∀ i ∈ (s.ev (.tmp z)).ids, P i := rd (.tmp z) (by simp [Op.operands])
      split at h
      · split at h
        · cases h; exact ⟨rfl, nil_⟩
        · rename_i hd
          split at h
          · rename_i he
            rw [hd, he] at hl
            cases hl
          · cases h; exact ⟨rfl, nil_⟩
      · cases h
        exact ⟨rfl, hz⟩
    | _ => cases hl
  case load t x =>
    simp only [valT] at h
    split at h
    · rename_i n agg p hsh hp
      rw [T.run_bind] at h
      obtain ⟨u, h1, h⟩ := T.run_some h
      cases h
      refine ⟨rfl, fun i hi => ?_⟩
      refine cellsAt_in hP (fun j hj => ?_) h1 i hi
      exact rd x (by simp [Op.operands]) j (by rw [hp]; simpa [Slot.ids, Comp.ids, Comp.cells] using hj)
    · cases h
  case nilCheck x =>
    have hx : ∀ i ∈ (s.ev x).ids, P i := rd x (by simp [Op.operands])
    simp only [valT] at h
    split at h <;> first
      | (cases h; done)
      | (rename_i hq
         cases h
         exact ⟨rfl, fun i hi => hx i (by rw [hq]; exact hi)⟩)
  case fieldAddr t x k =>
    have hx : ∀ i ∈ (s.ev x).ids, P i := rd x (by simp [Op.operands])
    simp only [valT] at h
    split at h <;> first
      | (cases h; done)
      | (rename_i hq
         cases h
         refine ⟨rfl, fun i hi => hx i ?_⟩
         rw [hq]
         first | (simp [Slot.ids, Comp.ids, Comp.cells, Cell.ids] at hi; done) | simpa [Slot.ids, Comp.ids, Comp.cells, Cell.ids] using hi)
  case slice t x lo hi m =>
    cases m with
    | some _ => cases hl
    | none =>
      have hx : ∀ i ∈ (s.ev x).ids, P i := rd x (by simp [Op.operands])
      simp only [valT] at h
      split at h
      · rw [T.run_bind] at h
        obtain ⟨a, _, h⟩ := T.run_some h
        rw [T.run_bind] at h
        obtain ⟨b, _, h⟩ := T.run_some h
        rw [T.run_bind] at h
        obtain ⟨c, h1, h⟩ := T.run_some h
        cases h
        refine ⟨rfl, fun i hi => ?_⟩
        unfold sliceStr at h1
        rw [T.run_bind] at h1
        obtain ⟨y, _, h1⟩ := T.run_some h1
        cases h1
        simp [Slot.ids, Comp.ids, Comp.cells, Cell.ids] at hi
      · rename_i e c hu hq
        split at h
        · rw [T.run_bind] at h
          obtain ⟨a, _, h⟩ := T.run_some h
          rw [T.run_bind] at h
          obtain ⟨b, _, h⟩ := T.run_some h
          rw [T.run_bind] at h
          obtain ⟨y, h1, h⟩ := T.run_some h
          cases h
          refine ⟨rfl, fun i hi => hx i ?_⟩
          rw [hq]
          cases c <;> simp only [sliceCell] at h1 <;> try (cases h1; done)
          case nil =>
            rw [T.run_bind] at h1
            obtain ⟨y, _, h1⟩ := T.run_some h1
            cases h1
            simp [Slot.ids, Comp.ids, Comp.cells, Cell.ids] at hi
          case list fr t l =>
            split at h1
            · rw [T.run_bind] at h1
              obtain ⟨y, _, h1⟩ := T.run_some h1
              cases h1
              simp [Slot.ids, Comp.ids, Comp.cells, Cell.ids] at hi
            · cases h1
          case ref id =>
            split at h1
            · split at h1
              · rw [T.run_bind] at h1
                obtain ⟨y, _, h1⟩ := T.run_some h1
                cases h1
                simpa [Slot.ids, Comp.ids, Comp.cells, Cell.ids] using hi
              · cases h1
            · cases h1
          case sub id off n =>
            split at h1
            · split at h1
              · rw [T.run_bind] at h1
                obtain ⟨y, _, h1⟩ := T.run_some h1
                cases h1
                simpa [Slot.ids, Comp.ids, Comp.cells, Cell.ids] using hi
              · cases h1
            · cases h1
        · cases h
      · cases h
variable {s0 : St}
theorem Shut.same {s s2 : St} {P : Nat → Prop} (h : Shut s P) (hs : ∀ i, P i → s2.sto i = s.sto i) : Shut s2 P :=
  ⟨fun i hi => by rw [hs i hi]; exact h.ent i hi, fun i t cs hi hb => h.box i t cs hi (by rw [← hs i hi]; exact hb)⟩
/-- A quiet operation, run. -/
theorem quiet_run (hg : ∀ o ∈ ops, o.guard = none) {j : Nat} {o : Oper} (ho : o ∈ ops) (hq : quietOp C o = true) {s s2 : St} (h : (stepT C ops j o s).run callF some = some s2) :
    ∃ x v es σ, o.dst = some x ∧ (valT C o s).run callF some = some (v, es) ∧ allocO s.sto es = some σ ∧ inN x s.n = true ∧ s2 = ⟨s.n, upd s.env x v, σ⟩ := by
  obtain ⟨x, hx⟩ : ∃ d, o.dst = some d := Option.isSome_iff_exists.1 (by simp only [quietOp, Bool.and_eq_true] at hq; exact hq.1)
  rw [step_gv hq, hx, T.run_bind, gv_plain hg ho] at h
  obtain ⟨⟨v, es⟩, hv, h⟩ := T.run_some h
  rw [commit_run] at h
  obtain ⟨σ, hσ, h⟩ := Option.bind_eq_some_iff.1 h
  cases hb : inN x s.n with
  | false => rw [hb] at h; cases h
  | true =>
    rw [hb] at h
    simp only [cond_true, Option.some.injEq] at h
    exact ⟨x, v, es, σ, hx, hv, hσ, hb, h.symm⟩
theorem quiet_back (hg : ∀ o ∈ ops, o.guard = none) {j : Nat} {o : Oper} (ho : o ∈ ops) (hq : quietOp C o = true) {s : St} {x : Tmp} {v : Slot} (hx : o.dst = some x) (hv : (valT C o s).run callF some = some (v, [])) (hb : inN x s.n = true) :
    (stepT C ops j o s).run callF some = some ⟨s.n, upd s.env x v, s.sto⟩ := by
  rw [step_gv hq, hx, T.run_bind, gv_plain hg ho, T.run_of hv, commit_run]
  simp only [allocO, Option.bind_some, hb, cond_true]
end

end Go.Flat
