/- What an operation's value leans on. No condition. -/
import Derived.Test.YtmocpfgfjeaelaaGreatDraw1
set_option linter.unusedVariables false
set_option linter.unusedSimpArgs false
namespace Go.Flat

/-- Nothing is named that is not there. -/
structure Live (s : St) : Prop where
  env : ∀ t, ∀ id ∈ (s.env t).ids, ∃ e, s.sto id = some e
  box : ∀ k t cs, s.sto k = some (.box t cs) → ∀ c ∈ cs, ∀ id ∈ c.ids, ∃ e, s.sto id = some e

theorem cellRel_live {M : Mem} {c : Cell} {v : Value} (h : CellRel M c v) : ∀ id ∈ c.ids, ∃ e, M.sto id = some e := by
  intro id hid
  cases c <;> simp only [Cell.ids] at hid <;> try (simp at hid; done)
  case ref j => simp at hid; subst hid; obtain ⟨t, l, o, hs, _⟩ := h; exact ⟨_, hs⟩
  case sub j off n => simp at hid; subst hid; obtain ⟨t, l, o, hs, _⟩ := h; exact ⟨_, hs⟩
  case ptr j off => simp at hid; subst hid; obtain ⟨t, l, o, hs, _⟩ := h; exact ⟨_, hs⟩
  case eptr j i off => simp at hid; subst hid; obtain ⟨t, l, o, p, hs, _⟩ := h; exact ⟨_, hs⟩
  case dref j => simp at hid; subst hid; obtain ⟨t, l, o, hs, _⟩ := h; exact ⟨_, hs⟩
  case dptr j i off => simp at hid; subst hid; obtain ⟨t, l, o, p, hs, _⟩ := h; exact ⟨_, hs⟩
  case inn j i off => simp at hid; subst hid; obtain ⟨t, l, n, hs, _⟩ := h; exact ⟨_, hs⟩
  case clo f caps =>
    obtain ⟨cp, hcp, he⟩ := List.mem_filterMap.1 hid
    obtain ⟨vs, _, hl, hc⟩ := h
    obtain ⟨i, hi⟩ := List.mem_iff_getElem?.1 hcp
    have hlt : i < vs.length := by rw [hl]; exact (List.getElem?_eq_some_iff.1 hi).1
    have := hc i cp vs[i] hi (List.getElem?_eq_getElem hlt)
    cases cp with
    | ro t x => simp at he
    | ptr j =>
      simp at he
      subst he
      obtain ⟨t, cs, p, hs, _⟩ := this
      exact ⟨_, hs⟩

theorem cellsRel_live {M : Mem} {cs : List Cell} {vs : List Value} (h : CellsRel M cs vs) : ∀ c ∈ cs, ∀ id ∈ c.ids, ∃ e, M.sto id = some e := by
  intro c hc
  obtain ⟨i, hi⟩ := List.mem_iff_getElem?.1 hc
  have hlt : i < vs.length := by rw [h.1]; exact (List.getElem?_eq_some_iff.1 hi).1
  exact cellRel_live (h.2 i c vs[i] hi (List.getElem?_eq_getElem hlt)).1

theorem compRel_live {M : Mem} {c : Comp} {v : Value} (h : CompRel M c v) : ∀ id ∈ c.ids, ∃ e, M.sto id = some e := by
  intro id hid
  cases c with
  | cell c => exact cellRel_live h id (by simpa [Comp.ids, Comp.cells] using hid)
  | agg cs =>
    obtain ⟨vs, _, hc⟩ := h
    simp only [Comp.ids, Comp.cells, List.mem_flatMap] at hid
    obtain ⟨c, hcm, hid⟩ := hid
    exact cellsRel_live hc c hcm id hid

theorem slotRel_live {M : Mem} {s : Slot} {v : Value} (h : SlotRel M s v) : ∀ id ∈ s.ids, ∃ e, M.sto id = some e := by
  intro id hid
  cases s with
  | one c => exact compRel_live h id hid
  | tup cs =>
    obtain ⟨vs, _, hl, hc⟩ := h
    simp only [Slot.ids, List.mem_flatMap] at hid
    obtain ⟨c, hcm, hid⟩ := hid
    obtain ⟨i, hi⟩ := List.mem_iff_getElem?.1 hcm
    have hlt : i < vs.length := by rw [hl]; exact (List.getElem?_eq_some_iff.1 hi).1
    exact compRel_live (hc i c vs[i] hi (List.getElem?_eq_getElem hlt)) id hid

theorem Inv.live {F0 : Fr0} {G : Nat → Prop} {s : St} {a : Act} {w : World} {pl : Nat → Option Pl} (i : Inv F0 G s a w pl) : Live s :=
  ⟨fun t => slotRel_live (i.env t), fun k t cs hs => by
    obtain ⟨p, c, e, fz, h1, h2, h3, h4, h5, h6, h7, h8, h9⟩ := i.sto.ent k _ hs
    exact cellsRel_live h8⟩

theorem Live.ev {s : St} (l : Live s) (x : Operand) : ∀ id ∈ (s.ev x).ids, ∃ e, s.sto id = some e := by
  intro id hid
  cases x with
  | tmp t => exact l.env t id hid
  | global g => simp [St.ev, Slot.ids, Comp.ids, Comp.cells, Cell.ids] at hid
  | func f => simp [St.ev, Slot.ids, Comp.ids, Comp.cells, Cell.ids] at hid
  | const v =>
    exfalso
    simp only [St.ev] at hid
    unfold ofConst at hid
    split at hid <;> simp [Slot.ids, Comp.ids, Comp.cells, Cell.ids] at hid

structure Ext (s s1 : St) (xs : List Operand) : Prop where
  sto : ∀ id e, s.sto id = some e → s1.sto id = some e
  ev : ∀ x ∈ xs, s1.ev x = s.ev x

section
variable {s s1 : St} (hs : ∀ id e, s.sto id = some e → s1.sto id = some e)
include hs

theorem ext_at {id : Nat} (h : ∃ e, s.sto id = some e) : s1.sto id = s.sto id := by
  obtain ⟨e, he⟩ := h
  rw [he, hs id e he]

theorem cellsAt_ext {n : Nat} {agg : Bool} {p : Cell} (h : ∀ id ∈ p.ids, ∃ e, s.sto id = some e) : s1.cellsAt n agg p = s.cellsAt n agg p := by
  cases p <;> try rfl
  case ptr id off => simp only [St.cellsAt]; rw [ext_at hs (h id (by simp [Cell.ids]))]
  case eptr id i off => simp only [St.cellsAt]; rw [ext_at hs (h id (by simp [Cell.ids]))]
  case dptr id i off => simp only [St.cellsAt]; rw [ext_at hs (h id (by simp [Cell.ids]))]

theorem len_ext {d : TypeDesc} {c : Cell} (h : ∀ id ∈ c.ids, ∃ e, s.sto id = some e) : s1.len d c = s.len d c := by
  cases d <;> cases c <;> try rfl
  case slice.ref e id => simp only [St.len]; rw [ext_at hs (h id (by simp [Cell.ids]))]
  case slice.dref e id => simp only [St.len]; rw [ext_at hs (h id (by simp [Cell.ids]))]

theorem sliceCell_ext {u : Ty} {lo hi : Option Int} {c : Cell} (h : ∀ id ∈ c.ids, ∃ e, s.sto id = some e) : sliceCell s1 u lo hi c = sliceCell s u lo hi c := by
  cases c <;> try rfl
  case ref id => simp only [sliceCell]; rw [ext_at hs (h id (by simp [Cell.ids]))]
  case sub id off n => simp only [sliceCell]; rw [ext_at hs (h id (by simp [Cell.ids]))]

theorem indexCell_ext {u : Ty} {i : Int} {c : Cell} (h : ∀ id ∈ c.ids, ∃ e, s.sto id = some e) : indexCell s1 u i c = indexCell s u i c := by
  cases c <;> try rfl
  case ref id => simp only [indexCell]; rw [ext_at hs (h id (by simp [Cell.ids]))]
  case sub id off n => simp only [indexCell]; rw [ext_at hs (h id (by simp [Cell.ids]))]
  case dref id => simp only [indexCell]; rw [ext_at hs (h id (by simp [Cell.ids]))]

theorem listOf_ext {m : Mode} {t : Ty} {c : Cell} (h : ∀ id ∈ c.ids, ∃ e, s.sto id = some e) : listOf s1.sto m t c = listOf s.sto m t c := by
  cases c <;> try rfl
  case ref id => simp only [listOf]; rw [ext_at hs (h id (by simp [Cell.ids]))]
  case sub id off n => simp only [listOf]; rw [ext_at hs (h id (by simp [Cell.ids]))]

theorem dlistOf_ext {m : Mode} {t : Ty} {c : Cell} (h : ∀ id ∈ c.ids, ∃ e, s.sto id = some e) : dlistOf s1.sto m t c = dlistOf s.sto m t c := by
  cases c <;> try rfl
  case dref id => simp only [dlistOf]; rw [ext_at hs (h id (by simp [Cell.ids]))]

theorem look_ext {t : Ty} {c : Cell} (h : ∀ id ∈ c.ids, ∃ e, s.sto id = some e) : s1.look t c = s.look t c := by
  unfold St.look
  rw [listOf_ext hs h]

theorem ofCells_ext {m : Mode} : ∀ {t : Ty} {cs : List Cell}, (∀ c ∈ cs, ∀ id ∈ c.ids, ∃ e, s.sto id = some e) → ofCells s1.sto m t cs = ofCells s.sto m t cs ∧ ∀ x r ids, ofCells s.sto m t cs = some (x, r, ids) → ∀ c ∈ r, c ∈ cs
  | .bool, [], h => ⟨rfl, fun x r ids hx => by simp [ofCells] at hx⟩
  | .int k, [], h => ⟨rfl, fun x r ids hx => by simp [ofCells] at hx⟩
  | .str, [], h => ⟨rfl, fun x r ids hx => by simp [ofCells] at hx⟩
  | .list t, [], h => ⟨rfl, fun x r ids hx => by simp [ofCells] at hx⟩
  | .dlist t, [], h => ⟨rfl, fun x r ids hx => by simp [ofCells] at hx⟩
  | .unit, cs, h => by
    have e : ∀ σ : Nat → Option Entry, ofCells σ m .unit cs = some ((), cs, []) := fun σ => by
      cases cs with
      | nil => rfl
      | cons c cs => cases c <;> rfl
    rw [e, e]
    refine ⟨rfl, fun x r ids hx => ?_⟩
    simp at hx
    rw [hx.1]
    exact fun c hc => hc
  | .pair a b, cs, h => by
    rw [ofCells_pair, ofCells_pair]
    obtain ⟨h1, h2⟩ := ofCells_ext (m := m) (t := a) h
    rw [h1]
    cases ha : ofCells s.sto m a cs with
    | none => exact ⟨rfl, fun x r ids hx => by cases hx⟩
    | some ra =>
      obtain ⟨x1, r1, ids1⟩ := ra
      have hsub := h2 x1 r1 ids1 ha
      obtain ⟨h3, h4⟩ := ofCells_ext (m := m) (t := b) (cs := r1) (fun c hc => h c (hsub c hc))
      simp only
      rw [h3]
      refine ⟨rfl, fun x r ids hx => ?_⟩
      cases hb : ofCells s.sto m b r1 with
      | none => rw [hb] at hx; cases hx
      | some rb =>
        obtain ⟨x2, r2, ids2⟩ := rb
        rw [hb] at hx
        simp at hx
        obtain ⟨_, rfl, _⟩ := hx
        exact fun c hc => hsub c (h4 x2 r2 ids2 hb c hc)
  | .bool, c :: cs, h => by
    cases c <;> refine ⟨rfl, fun x r ids hx => ?_⟩ <;> simp [ofCells] at hx
    all_goals
      obtain ⟨_, rfl, _⟩ := hx
      exact fun c hc => List.mem_cons_of_mem _ hc
  | .int k, c :: cs, h => by
    cases c <;> refine ⟨rfl, fun x r ids hx => ?_⟩ <;> simp [ofCells] at hx
    obtain ⟨_, _, rfl, _⟩ := hx
    exact fun c hc => List.mem_cons_of_mem _ hc
  | .str, c :: cs, h => by
    cases c <;> refine ⟨rfl, fun x r ids hx => ?_⟩ <;> simp [ofCells] at hx
    obtain ⟨_, rfl, _⟩ := hx
    exact fun c hc => List.mem_cons_of_mem _ hc
  | .list t, c :: cs, h => by
    have e : ∀ σ : Nat → Option Entry, ofCells σ m (.list t) (c :: cs) = (listOf σ m t c).map fun (l, ids) => (l, cs, ids) := fun σ => by cases c <;> rfl
    rw [e, e, listOf_ext hs (h c (by simp))]
    refine ⟨rfl, fun x r ids hx => ?_⟩
    obtain ⟨⟨l, js⟩, _, he⟩ := Option.map_eq_some_iff.1 hx
    simp at he
    obtain ⟨_, rfl, _⟩ := he
    exact fun c hc => List.mem_cons_of_mem _ hc
  | .dlist t, c :: cs, h => by
    have e : ∀ σ : Nat → Option Entry, ofCells σ m (.dlist t) (c :: cs) = (dlistOf σ m t c).map fun (l, ids) => (l, cs, ids) := fun σ => by cases c <;> rfl
    rw [e, e, dlistOf_ext hs (h c (by simp))]
    refine ⟨rfl, fun x r ids hx => ?_⟩
    obtain ⟨⟨l, js⟩, _, he⟩ := Option.map_eq_some_iff.1 hx
    simp at he
    obtain ⟨_, rfl, _⟩ := he
    exact fun c hc => List.mem_cons_of_mem _ hc

theorem ofCellsAll_ext {m : Mode} {t : Ty} {cs : List Cell} (h : ∀ c ∈ cs, ∀ id ∈ c.ids, ∃ e, s.sto id = some e) : ofCellsAll s1.sto m t cs = ofCellsAll s.sto m t cs := by
  unfold ofCellsAll
  rw [(ofCells_ext hs h).1]

theorem capsRo_ext (l : Live s) : ∀ {caps : List Cap}, (∀ id ∈ caps.filterMap (fun | .ptr id => some id | _ => none), ∃ e, s.sto id = some e) → capsRo s1 caps = capsRo s caps
  | [], _ => rfl
  | c :: caps, h => by
    simp only [capsRo]
    have ih := capsRo_ext l (caps := caps) (fun id hid => h id (by
      rw [List.filterMap_cons]
      split
      · exact hid
      · exact List.mem_cons_of_mem _ hid))
    rw [ih]
    have hc : capRo s1 c = capRo s c := by
      cases c with
      | ro t x => rfl
      | ptr id =>
        obtain ⟨e, he⟩ := h id (by simp)
        simp only [capRo]
        rw [ext_at hs ⟨e, he⟩, he]
        cases e with
        | arr _ _ _ => rfl
        | deep _ _ _ => rfl
        | box t cs =>
          cases t with
          | none => rfl
          | some t => simp only; rw [ofCellsAll_ext hs (l.box id _ cs he)]
    rw [hc]

theorem toArg_ext {C : Cfg} (l : Live s) {io : Bool} {t : TypeId} {v : Comp} (h : ∀ id ∈ v.ids, ∃ e, s.sto id = some e) : toArg C s1 io t v = toArg C s io t v := by
  have hcs : ∀ c ∈ v.cells, ∀ id ∈ c.ids, ∃ e, s.sto id = some e := fun c hc id hid => h id (by simp only [Comp.ids, List.mem_flatMap]; exact ⟨c, hc, hid⟩)
  unfold toArg
  cases io with
  | true =>
    simp only [cond_true]
    unfold toArgIo
    cases v with
    | agg _ => rfl
    | cell c =>
      cases c <;> try rfl
      case ref id => simp only; rw [ext_at hs (h id (by simp [Comp.ids, Comp.cells, Cell.ids]))]
      case ptr id off =>
        cases off with
        | succ _ => rfl
        | zero =>
          obtain ⟨e, he⟩ := h id (by simp [Comp.ids, Comp.cells, Cell.ids])
          simp only
          rw [ext_at hs ⟨e, he⟩, he]
          cases e with
          | arr _ _ _ => rfl
          | deep _ _ _ => rfl
          | box t cs =>
            cases t with
            | none => rfl
            | some t => simp only; rw [ofCellsAll_ext hs (l.box id _ cs he)]
  | false =>
    simp only [cond_false]
    unfold toArgVal
    cases C.ty t with
    | some u => simp only [ofCellsAll_ext hs hcs]
    | none =>
      simp only
      cases v with
      | agg _ => rfl
      | cell c =>
        cases c <;> try rfl
        case rptr fr u x off => cases off <;> rfl
        case clo f caps =>
          simp only
          rw [capsRo_ext hs l (fun id hid => h id (by simp only [Comp.ids, Comp.cells, List.flatMap_cons, List.flatMap_nil, List.append_nil]; exact hid))]
        case ptr id off =>
          cases off with
          | succ _ => rfl
          | zero =>
            obtain ⟨e, he⟩ := h id (by simp [Comp.ids, Comp.cells, Cell.ids])
            simp only [capRo]
            rw [ext_at hs ⟨e, he⟩, he]
            cases e with
            | arr _ _ _ => rfl
            | deep _ _ _ => rfl
            | box t cs =>
              cases t with
              | none => rfl
              | some t => simp only; rw [ofCellsAll_ext hs (l.box id _ cs he)]

theorem toArgs_ext {C : Cfg} (l : Live s) {io : List Nat} : ∀ {vs : List Comp} {i : Nat} {ts : List TypeId}, (∀ v ∈ vs, ∀ id ∈ v.ids, ∃ e, s.sto id = some e) → toArgs C s1 io i ts vs = toArgs C s io i ts vs
  | [], i, ts, _ => by cases ts <;> rfl
  | v :: vs, i, [], _ => rfl
  | v :: vs, i, t :: ts, h => by
    simp only [toArgs]
    rw [toArg_ext hs l (h v (by simp)), toArgs_ext l (vs := vs) (fun v hv => h v (List.mem_cons_of_mem _ hv))]

omit hs in
theorem any_congr {α : Type} {f g : α → Bool} : ∀ {l : List α}, (∀ x ∈ l, f x = g x) → l.any f = l.any g
  | [], _ => rfl
  | x :: l, h => by rw [List.any_cons, List.any_cons, h x (by simp), any_congr (fun y hy => h y (List.mem_cons_of_mem _ hy))]

theorem argDeep_ext {vs : List Comp} {caps : List Cap} (h : ∀ v ∈ vs, ∀ id ∈ v.ids, ∃ e, s.sto id = some e)
    (hc : ∀ id ∈ caps.filterMap (fun | .ptr id => some id | _ => none), ∃ e, s.sto id = some e) : argDeep s1 vs caps = argDeep s vs caps := by
  have cap : ∀ {caps : List Cap}, (∀ id ∈ caps.filterMap (fun | .ptr id => some id | _ => none), ∃ e, s.sto id = some e) → caps.any (capDeep s1) = caps.any (capDeep s) := by
    intro caps hc
    refine any_congr fun c hcm => ?_
    cases c with
    | ro _ _ => rfl
    | ptr id => simp only [capDeep]; rw [ext_at hs (hc id (List.mem_filterMap.2 ⟨_, hcm, rfl⟩))]
  unfold argDeep
  rw [cap hc]
  congr 1
  refine any_congr fun v hv => any_congr fun c hcm => ?_
  have hid : ∀ id ∈ c.ids, ∃ e, s.sto id = some e := fun id hid => h v hv id (by simp only [Comp.ids, List.mem_flatMap]; exact ⟨c, hcm, hid⟩)
  cases c <;> try rfl
  case ptr id off => simp only [cellDeep, capDeep]; rw [ext_at hs (hid id (by simp [Cell.ids]))]
  case clo f cs => exact cap (fun id hm => hid id hm)

theorem callV_ext {C : Cfg} (l : Live s) {d : Tmp} {f : FuncId} {vs : List Comp} {caps : List Cap} (h : ∀ v ∈ vs, ∀ id ∈ v.ids, ∃ e, s.sto id = some e)
    (hc : ∀ id ∈ caps.filterMap (fun | .ptr id => some id | _ => none), ∃ e, s.sto id = some e) : callV C s1 d f vs caps = callV C s d f vs caps := by
  unfold callV
  cases (C.sig f).lend with
  | some _ => rfl
  | none =>
  simp only
  cases (C.sig f).io with
  | cons _ _ => rfl
  | nil =>
  simp only
  unfold callVOld
  cases C.P.funcs[f]? with
  | none => rfl
  | some fn => simp only; rw [toArgs_ext hs l h, capsRo_ext hs l hc, argDeep_ext hs h hc]

end

section
variable {s s1 : St} {xs : List Operand} (e : Ext s s1 xs)
include e

theorem compsOf_ext : ∀ {ys : List Operand}, (∀ x ∈ ys, x ∈ xs) → compsOf s1 ys = compsOf s ys
  | [], _ => rfl
  | y :: ys, h => by
    simp only [compsOf]
    rw [e.ev y (h y (by simp)), compsOf_ext (ys := ys) (fun x hx => h x (List.mem_cons_of_mem _ hx))]

theorem int_ext {x : Operand} (h : x ∈ xs) : s1.int x = s.int x := by
  unfold St.int
  rw [e.ev x h]

theorem comp_ext {x : Operand} (h : x ∈ xs) : s1.comp x = s.comp x := by
  unfold St.comp
  rw [e.ev x h]

theorem optInt_ext {x : Option Operand} (h : ∀ y, x = some y → y ∈ xs) : optInt s1 x = optInt s x := by
  cases x with
  | none => rfl
  | some y => simp only [optInt]; rw [int_ext e (h y rfl)]

theorem buildCells_ext {C : Cfg} {t : TypeId} : ∀ {parts : List (Nat × Operand)} {cs : List Cell}, (∀ p ∈ parts, p.2 ∈ xs) → buildCells C s1 t parts cs = buildCells C s t parts cs
  | [], _, _ => rfl
  | (i, x) :: r, cs, h => by
    simp only [buildCells]
    rw [e.ev x (h (i, x) (by simp))]
    have ih : ∀ cs, buildCells C s1 t r cs = buildCells C s t r cs := fun cs => buildCells_ext (fun p hp => h p (List.mem_cons_of_mem _ hp))
    simp only [ih]

theorem buildElems_ext (l : Live s) {t : Ty} : ∀ {parts : List (Nat × Operand)} {a : List t.den} {ids : List Nat}, (∀ p ∈ parts, p.2 ∈ xs) → buildElems s1 t parts a ids = buildElems s t parts a ids
  | [], _, _, _ => rfl
  | (i, x) :: r, a, ids, h => by
    simp only [buildElems]
    rw [e.ev x (h (i, x) (by simp))]
    have ih : ∀ a ids, buildElems s1 t r a ids = buildElems s t r a ids := fun a ids => buildElems_ext l (fun p hp => h p (List.mem_cons_of_mem _ hp))
    simp only [ih]
    have hl := l.ev x
    cases hx : s.ev x with
    | tup _ => rfl
    | one v =>
      rw [hx] at hl
      simp only
      rw [ofCellsAll_ext e.sto (fun c hc id hid => hl id (by simp only [Slot.ids, Comp.ids, List.mem_flatMap]; exact ⟨c, hc, hid⟩))]

end

theorem evs_live {s : St} (l : Live s) : ∀ {ys : List Operand} {vs : List Comp}, compsOf s ys = some vs → ∀ v ∈ vs, ∀ id ∈ v.ids, ∃ e, s.sto id = some e
  | [], vs, h => by simp [compsOf] at h; subst h; simp
  | y :: ys, vs, h => by
    have hl := l.ev y
    simp only [compsOf] at h
    split at h
    · rename_i c r hc hr
      simp at h
      subst h
      intro v hv
      rcases List.mem_cons.1 hv with rfl | hv
      · rw [hc] at hl; exact hl
      · exact evs_live l hr v hv
    · cases h


theorem valT_ext {C : Cfg} {o : Oper} {s s1 : St} (l : Live s) (hq : quietOp C o = true) (e : Ext s s1 o.op.operands.toList) : valT C o s1 = valT C o s := by
  obtain ⟨dst, op, type, pos, after, guard⟩ := o
  simp only [quietOp, Bool.and_eq_true] at hq
  obtain ⟨hd, hq⟩ := hq
  have el : ∀ x ∈ op.operands.toList, ∀ c, s.ev x = .one (.cell c) → ∀ id ∈ c.ids, ∃ e, s.sto id = some e := fun x _ c hx id hid => l.ev x id (by rw [hx]; simpa [Slot.ids, Comp.ids, Comp.cells] using hid)
  replace e : Ext s s1 op.operands.toList := e
  cases op <;> try (simp at hq; done)
  case move x => simp only [valT]; rw [e.ev x (by simp [Op.operands])]
  case assign x => simp only [valT]; rw [e.ev x (by simp [Op.operands])]
  case pick c a b => simp only [valT]; rw [e.ev c (by simp [Op.operands]), e.ev a (by simp [Op.operands]), e.ev b (by simp [Op.operands])]
  case alloc t => rfl
  case box t x => simp only [valT]; rw [e.ev x (by simp [Op.operands])]
  case build t parts => simp only [valT]; simp only [buildCells_ext e (fun p hp => by simp only [Op.operands, List.mem_map]; exact ⟨p, hp, rfl⟩)]
  case buildSlice t n parts => simp only [valT]; simp only [buildElems_ext e l (fun p hp => by simp only [Op.operands, List.mem_map]; exact ⟨p, hp, rfl⟩)]
  case load t x =>
    simp only [valT]
    rw [e.ev x (by simp [Op.operands])]
    cases C.shape t with
    | none => rfl
    | some na =>
      obtain ⟨n, agg⟩ := na
      cases hx : s.ev x with
      | tup _ => rfl
      | one c =>
        cases c with
        | agg _ => rfl
        | cell c => simp only; rw [cellsAt_ext e.sto (el x (by simp [Op.operands]) c hx)]
  case nilCheck x => simp only [valT]; rw [e.ev x (by simp [Op.operands])]
  case binOp op t x y t' => simp only [valT]; rw [comp_ext e (x := x) (by simp [Op.operands]), comp_ext e (x := y) (by simp [Op.operands])]
  case unOp op t x => simp only [valT]; rw [comp_ext e (x := x) (by simp [Op.operands])]
  case convert src dt x =>
    simp only [valT]
    rw [e.ev x (by simp [Op.operands])]
    split
    · rfl
    · rfl
    · rename_i hx
      split
      · rw [look_ext e.sto (el x (by simp [Op.operands]) _ hx)]
      · rfl
    · rfl
  case makeFunc fn first captured =>
    cases fn <;> try (simp at hq; done)
    simp only [valT]
    rw [compsOf_ext e (fun x hx => by simp [Op.operands] at *; exact .inr hx)]
  case makeSlice t a c => simp only [valT]; rw [int_ext e (x := a) (by simp [Op.operands]), int_ext e (x := c) (by simp [Op.operands])]
  case slice t x lo hi mx =>
    cases mx with
    | some _ => simp at hq
    | none =>
      simp only [valT]
      rw [e.ev x (by simp [Op.operands]), optInt_ext e (x := lo) (fun y hy => by subst hy; simp [Op.operands]), optInt_ext e (x := hi) (fun y hy => by subst hy; simp [Op.operands])]
      split
      · rfl
      · rename_i hx
        split
        · simp only [sliceCell_ext e.sto (el x (by simp [Op.operands]) _ hx)]
        · rfl
      · rfl
  case fieldAddr t x ix => simp only [valT]; rw [e.ev x (by simp [Op.operands])]
  case field t x ix => simp only [valT]; rw [e.ev x (by simp [Op.operands])]
  case indexAddr t x ix =>
    simp only [valT]
    rw [e.ev x (by simp [Op.operands]), int_ext e (x := ix) (by simp [Op.operands])]
    congr 1
    funext y
    split
    · rename_i hx
      rw [indexCell_ext e.sto (el x (by simp [Op.operands]) _ hx)]
    · rfl
  case index t x ix => simp only [valT]; rw [e.ev x (by simp [Op.operands]), int_ext e (x := ix) (by simp [Op.operands])]
  case extract x ix => simp only [valT]; rw [e.ev x (by simp [Op.operands])]
  case call c =>
    obtain ⟨callee, args, argTypes⟩ := c
    have hargs : ∀ x ∈ args.toList, x ∈ (Op.call ⟨callee, args, argTypes⟩).operands.toList := fun x hx => by
      cases callee <;> simp [Op.operands, Call.operands] at * <;> first | exact hx | exact .inr hx
    have hmap : args.toList.map s1.ev = args.toList.map s.ev := List.map_congr_left fun x hx => e.ev x (hargs x hx)
    cases callee with
    | invoke _ _ => simp at hq
    | value g =>
      have hg : g ∈ (Op.call ⟨.value g, args, argTypes⟩).operands.toList := by simp [Op.operands, Call.operands]
      simp only [valT]
      rw [e.ev g hg, compsOf_ext e hargs]
      split
      · rename_i hg' hvs
        exact callV_ext e.sto l (evs_live l hvs) (el g hg _ hg')
      · rfl
    | builtin b =>
      cases b <;> try (simp at hq; done)
      case len =>
        simp only [valT]
        split
        · rename_i hx hd
          have hm := hargs
          rw [hx] at hm
          rw [e.ev _ (hm _ (by simp))]
          split
          · rename_i c hc
            rw [len_ext e.sto (el _ (hm _ (by simp)) _ hc)]
          · rfl
        · rfl
      case max => simp only [valT]; rw [hmap]
      case min => simp only [valT]; rw [hmap]

end Go.Flat
