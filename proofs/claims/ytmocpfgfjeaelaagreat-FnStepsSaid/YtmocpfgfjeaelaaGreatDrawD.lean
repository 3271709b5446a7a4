/- What copies a slot or looks into a box, beside what gives rows up. No condition. -/
import Derived.Test.YtmocpfgfjeaelaaGreatDrawC
set_option linter.unusedVariables false
set_option linter.unusedSimpArgs false
namespace Go.Flat
section
variable {C : dA} {ah : FuncId -> (t : Ty) -> List Arg -> Option t.den} {ops : List Oper}
structure Shut (s : St) (P : Nat -> Prop) : Prop where
 ent : ∀ i, P i -> ∃ e, s.ak i = some e
 box : ∀ i t cs, P i -> s.ak i = some (.box t cs) -> ∀ c ∈ cs, ∀ j ∈ c.ids, P j
open Classical in
theorem KR {o : Oper} {s s1 : St} {P : Nat -> Prop} (hP : Shut s P) (hq : dI C o = true) (he : ∀ r ∈ readsOf ops o, s1.env r = s.env r) (hr : ∀ r ∈ readsOf ops o, ∀ i ∈ (s.env r).ids, P i) (hs : ∀ i, P i -> s1.ak i = s.ak i) : dG C o s1 = dG C o s := by
 let s0 : St := ⟨s.n, fun t => if t ∈ readsOf ops o then s.env t else .undef, fun j => if P j then s.ak j else none⟩
 have hop : ∀ t, Operand.tmp t ∈ o.op.operands.toList -> t ∈ readsOf ops o := fun t ht => by
  unfold readsOf
  exact List.mem_append_left _ (List.mem_filterMap.2 ⟨_, ht, rfl⟩)
 have good : ∀ {j e}, s0.ak j = some e -> P j /\ s.ak j = some e := by
  intro j e h
  have h : (if P j then s.ak j else none) = some e := h
  split at h
  ·rename_i hg; exact ⟨hg, h⟩
  ·cases h
 have there : ∀ i, P i -> ∃ e, s0.ak i = some e := fun i hi => by
  obtain ⟨e, h1⟩ := hP.ent i hi
  exact ⟨e, by show (if P i then s.ak i else none) = some e; rw [if_pos hi, h1]⟩
 have l : Live s0 := by
  refine ⟨fun t id hid => ?_, fun k t cs hk c hc id hid => ?_⟩
  ·have hid : id ∈ (if t ∈ readsOf ops o then s.env t else .undef : Slot).ids := hid
   split at hid
   ·rename_i ht
    exact there id (hr t ht id hid)
   ·simp [Slot.ids, aH.ids, aH.cells, Cell.ids] at hid
  ·obtain ⟨h1, h2⟩ := good hk
   exact there id (hP.box k t cs h1 h2 c hc id hid)
 have ext : ∀ s' : St, (∀ r ∈ readsOf ops o, s'.env r = s.env r) -> (∀ i, P i -> s'.ak i = s.ak i) -> Ext s0 s' o.op.operands.toList := by
  intro s' h1 h2
  refine ⟨fun id e h => ?_, fun x hx => ?_⟩
  ·obtain ⟨h3, h4⟩ := good h
   rw [h2 id h3]
   exact h4
  ·cases x with
   | tmp t =>
    show s'.env t = if t ∈ readsOf ops o then s.env t else .undef
    rw [if_pos (hop t hx)]
    exact h1 t (hop t hx)
   | global g => rfl
   | func f => rfl
   | const v => rfl
 rw [zL l hq (ext s1 he hs), zL l hq (ext s (fun _ _ => rfl) fun _ _ => rfl)]
theorem Ef (id i : Nat) (p : Bool) : ∀ (t : Ty) (x : t.den) (o : Nat), ∀ c ∈ cellsD id i p t x o, ∀ j ∈ c.ids, j = id
 | .list _, _, o, c, hc, j, hj => by
  simp only [cellsD, List.mem_singleton] at hc
  subst hc
  cases p <;> simp [Cell.ids] at hj
  exact hj
 | .dh _, _, _, c, hc, j, hj => by
  simp only [cellsD, List.mem_singleton] at hc
  subst hc
  simp [Cell.ids] at hj
 | .pair a b, x, o, c, hc, j, hj => by
  simp only [cellsD] at hc
  rcases List.mem_append.1 hc with hc | hc
  ·exact Ef id i p a x.1 o c hc j hj
  ·exact Ef id i p b x.2 _ c hc j hj
 | .bool, x, _, c, hc, j, hj => by simp only [cellsD] at hc; rw [fV _ _ _ c hc] at hj; cases hj
 | .int k, x, _, c, hc, j, hj => by simp only [cellsD] at hc; rw [fV _ _ _ c hc] at hj; cases hj
 | .str, x, _, c, hc, j, hj => by simp only [cellsD] at hc; rw [fV _ _ _ c hc] at hj; cases hj
 | .unit, x, _, c, hc, j, hj => by simp [cellsD] at hc
theorem PV {n : Nat} {agg : Bool} {s : St} {p : Cell} {v : aH} {P : Nat -> Prop} (hP : Shut s P) (hp : ∀ i ∈ p.ids, P i) (h : (s.jN n agg p).run ah some = some v) : ∀ i ∈ v.ids, P i := by
 have fin : ∀ {cs : List Cell}, (∀ c ∈ cs, ∀ i ∈ c.ids, P i) -> ∀ i ∈ (bG agg cs).ids, P i := by
  intro cs hc i hi
  obtain ⟨c, h1, h2⟩ := mD hi
  exact hc c h1 i h2
 have sub : ∀ {cs : List Cell} {a b : Nat}, (∀ c ∈ cs, ∀ i ∈ c.ids, P i) -> ∀ c ∈ (cs.drop a).take b, ∀ i ∈ c.ids, P i := fun hc c hx => hc c (List.mem_of_mem_drop (List.mem_of_mem_take hx))
 have none_ : ∀ {cs : List Cell}, (∀ c ∈ cs, c.ids = []) -> ∀ c ∈ cs, ∀ i ∈ c.ids, P i := fun h c hc i hi => by rw [h c hc] at hi; cases hi
 cases p <;> simp only [St.jN] at h <;> try (cases h; done)
 case ptr id off =>
  split at h
  ·rename_i t cs hs
   split at h
   ·cases h
    exact fin (sub (hP.box id t cs (hp id (by simp [Cell.ids])) hs))
   ·cases h
  ·cases h
 case lD id i off =>
  split at h
  ·split at h
   ·cases h
    exact fin (sub (none_ (fV _ _ _)))
   ·cases h
  ·cases h
 case pF fr t x off =>
  split at h
  ·cases h
   exact fin (sub (none_ (fV _ _ _)))
  ·cases h
 case ny id i off =>
  split at h
  ·split at h
   ·cases h
    exact fin (sub fun c hc j hj => by rw [Ef id i _ _ _ _ c hc j hj]; exact hp id (by simp [Cell.ids]))
   ·cases h
  ·cases h
theorem Vl {o : Oper} {s : St} {P : Nat -> Prop} (hP : Shut s P) (hl : OV C o = true) (hr : ∀ r ∈ readsOf ops o, ∀ i ∈ (s.env r).ids, P i) {v : Slot} {es : List (Nat × Entry)} (h : (dG C o s).run ah some = some (v, es)) : es = [] /\ ∀ i ∈ v.ids, P i := by
 have rd : ∀ x ∈ o.op.operands.toList, ∀ i ∈ (s.ev x).ids, P i := by
  intro x hx i hi
  obtain ⟨t, rfl, ht⟩ := PN hi
  exact hr t (by unfold readsOf; exact List.mem_append_left _ (List.mem_filterMap.2 ⟨_, hx, rfl⟩)) i ht
 have aaP : ∀ i ∈ (Slot.cell .nil).ids, P i := fun i hi => by simp [Slot.ids, aH.ids, aH.cells, Cell.ids] at hi
 obtain ⟨dst, op, type, pos, after, guard⟩ := o
 cases op <;> simp only [OV] at hl <;> try (cases hl; done)
 case move x =>
  cases x with
  | tmp z =>
   simp only [dG] at h
   have hz : ∀ i ∈ (s.ev (.tmp z)).ids, P i := rd (.tmp z) (by simp [Op.operands])
   split at h
   ·split at h
    ·cases h; exact ⟨rfl, aaP⟩
    ·rename_i hd
     split at h
     ·rename_i he
      rw [hd, he] at hl
      cases hl
     ·cases h; exact ⟨rfl, aaP⟩
   ·cases h
    exact ⟨rfl, hz⟩
  | _ => cases hl
 case load t x =>
  simp only [dG] at h
  split at h
  ·rename_i n agg p hsh hp
   rw [T.run_bind] at h
   obtain ⟨u, h1, h⟩ := T.aN h
   cases h
   refine ⟨rfl, fun i hi => ?_⟩
   refine PV hP (fun j hj => ?_) h1 i hi
   exact rd x (by simp [Op.operands]) j (by rw [hp]; simpa [Slot.ids, aH.ids, aH.cells] using hj)
  ·cases h
 case nilCheck x =>
  have hx : ∀ i ∈ (s.ev x).ids, P i := rd x (by simp [Op.operands])
  simp only [dG] at h
  split at h <;> first
   | (cases h; done)
   | (rename_i hq; cases h; exact ⟨rfl, fun i hi => hx i (by rw [hq]; exact hi)⟩)
 case fieldAddr t x k =>
  have hx : ∀ i ∈ (s.ev x).ids, P i := rd x (by simp [Op.operands])
  simp only [dG] at h
  split at h <;> first
   | (cases h; done)
   | (rename_i hq; cases h; refine ⟨rfl, fun i hi => hx i ?_⟩; rw [hq]; first | (simp [Slot.ids, aH.ids, aH.cells, Cell.ids] at hi; done) | simpa [Slot.ids, aH.ids, aH.cells, Cell.ids] using hi)
 case slice t x lo hi m =>
  cases m with
  | some _ => cases hl
  | none =>
   have hx : ∀ i ∈ (s.ev x).ids, P i := rd x (by simp [Op.operands])
   simp only [dG] at h
   split at h
   ·rw [T.run_bind] at h
    obtain ⟨a, _, h⟩ := T.aN h
    rw [T.run_bind] at h
    obtain ⟨b, _, h⟩ := T.aN h
    rw [T.run_bind] at h
    obtain ⟨c, h1, h⟩ := T.aN h
    cases h
    refine ⟨rfl, fun i hi => ?_⟩
    unfold zi at h1
    rw [T.run_bind] at h1
    obtain ⟨y, _, h1⟩ := T.aN h1
    cases h1
    simp [Slot.ids, aH.ids, aH.cells, Cell.ids] at hi
   ·rename_i e c hu hq
    split at h
    ·rw [T.run_bind] at h
     obtain ⟨a, _, h⟩ := T.aN h
     rw [T.run_bind] at h
     obtain ⟨b, _, h⟩ := T.aN h
     rw [T.run_bind] at h
     obtain ⟨y, h1, h⟩ := T.aN h
     cases h
     refine ⟨rfl, fun i hi => hx i ?_⟩
     rw [hq]
     cases c <;> simp only [jY] at h1 <;> try (cases h1; done)
     case nil =>
      rw [T.run_bind] at h1
      obtain ⟨y, _, h1⟩ := T.aN h1
      cases h1
      simp [Slot.ids, aH.ids, aH.cells, Cell.ids] at hi
     case list fr t l =>
      split at h1
      ·rw [T.run_bind] at h1
       obtain ⟨y, _, h1⟩ := T.aN h1
       cases h1
       simp [Slot.ids, aH.ids, aH.cells, Cell.ids] at hi
      ·cases h1
     case ref id =>
      split at h1
      ·split at h1
       ·rw [T.run_bind] at h1
        obtain ⟨y, _, h1⟩ := T.aN h1
        cases h1
        simpa [Slot.ids, aH.ids, aH.cells, Cell.ids] using hi
       ·cases h1
      ·cases h1
     case sub id off n =>
      split at h1
      ·split at h1
       ·rw [T.run_bind] at h1
        obtain ⟨y, _, h1⟩ := T.aN h1
        cases h1
        simpa [Slot.ids, aH.ids, aH.cells, Cell.ids] using hi
       ·cases h1
      ·cases h1
    ·cases h
   ·cases h
variable {s0 : St}
theorem Shut.same {s s2 : St} {P : Nat -> Prop} (h : Shut s P) (hs : ∀ i, P i -> s2.ak i = s.ak i) : Shut s2 P :=
 ⟨fun i hi => by rw [hs i hi]; exact h.ent i hi, fun i t cs hi hb => h.box i t cs hi (by rw [<- hs i hi]; exact hb)⟩
theorem Eh (hg : ∀ o ∈ ops, o.guard = none) {j : Nat} {o : Oper} (ho : o ∈ ops) (hq : dI C o = true) {s s2 : St} (h : (stepT C ops j o s).run ah some = some s2) :
  ∃ x v es σ, o.dst = some x /\ (dG C o s).run ah some = some (v, es) /\ dM s.ak es = some σ /\ uF x s.n = true /\ s2 = ⟨s.n, upd s.env x v, σ⟩ := by
 obtain ⟨x, hx⟩ : ∃ d, o.dst = some d := Option.isSome_iff_exists.1 (by simp only [dI, Bool.and_eq_true] at hq; exact hq.1)
 rw [iU hq, hx, T.run_bind, qB hg ho] at h
 obtain ⟨⟨v, es⟩, hv, h⟩ := T.aN h
 rw [dJ] at h
 obtain ⟨σ, hσ, h⟩ := Option.bind_eq_some_iff.1 h
 cases hb : uF x s.n with
 | false => rw [hb] at h; cases h
 | true =>
  rw [hb] at h
  simp only [cond_true, Option.some.injEq] at h
  exact ⟨x, v, es, σ, hx, hv, hσ, hb, h.symm⟩
theorem Ir (hg : ∀ o ∈ ops, o.guard = none) {j : Nat} {o : Oper} (ho : o ∈ ops) (hq : dI C o = true) {s : St} {x : Tmp} {v : Slot} (hx : o.dst = some x) (hv : (dG C o s).run ah some = some (v, [])) (hb : uF x s.n = true) :
  (stepT C ops j o s).run ah some = some ⟨s.n, upd s.env x v, s.ak⟩ := by
 rw [iU hq, hx, T.run_bind, qB hg ho, T.qz hv, dJ]
 simp only [dM, Option.bind_some, hb, cond_true]
end
end Go.Flat
