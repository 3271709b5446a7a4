/- What a call is handed, and what it hands back. No condition. -/
import Derived.Test.YtkfnhbdloidfmaaCode3
set_option linter.unusedVariables false
set_option linter.unusedSimpArgs false
namespace Go.Flat

/-- Data that a call hands back: each list outside is a row of its own at a place. -/
def OwnRd (own : Bool) (G : Nat → Prop) (h : Array Obj) : (t : Ty) → t.den → List Value → List (Option Pl) → Prop
  | .list t, l, cs, ps => if own then ∃ v π, cs = [v] ∧ ps = [π] ∧ SliceAt t.sz π 0 l.length v ∧ ArrAt G h t l π else ps = [] ∧ Rd G h (.list t) G l cs
  | .pair a b, x, cs, ps => ∃ c d p q, cs = c ++ d ∧ ps = p ++ q ∧ OwnRd own G h a x.1 c p ∧ OwnRd own G h b x.2 d q
  | .bool, x, cs, ps => ps = [] ∧ cs = [.bool x]
  | .int k, x, cs, ps => ps = [] ∧ cs = [.int k x]
  | .str, x, cs, ps => ps = [] ∧ cs = [.string x]
  | .unit, _, cs, ps => ps = [] ∧ cs = []

theorem OwnRd.len {own : Bool} {G : Nat → Prop} {h : Array Obj} : ∀ {t : Ty} {x : t.den} {cs : List Value} {ps : List (Option Pl)}, OwnRd own G h t x cs ps → cs.length = t.sz
  | .bool, _, _, _, ⟨_, e⟩ => by subst e; rfl
  | .int _, _, _, _, ⟨_, e⟩ => by subst e; rfl
  | .str, _, _, _, ⟨_, e⟩ => by subst e; rfl
  | .unit, _, _, _, ⟨_, e⟩ => by subst e; rfl
  | .list t, l, cs, ps, h => by
    simp only [OwnRd] at h
    split at h
    · obtain ⟨v, π, rfl, _⟩ := h; rfl
    · exact h.2.len
  | .pair a b, x, cs, ps, ⟨c, d, p, q, hc, _, h1, h2⟩ => by
    subst hc
    simp [Ty.sz, OwnRd.len h1, OwnRd.len h2]

/-- The components of several results. -/
def TupIs : Ty → List Value → List Value → Prop
  | .unit, cs, vs => cs = [] ∧ vs = []
  | .pair a b, cs, vs => ∃ v vs', vs = v :: vs' ∧ ValIs a.isAgg (cs.take a.sz) v ∧ TupIs b (cs.drop a.sz) vs'
  | _, _, _ => False

def ResIs (own one : Bool) (t : Ty) (G : Nat → Prop) (h : Array Obj) (r : t.den) (v : Value) (ps : List (Option Pl)) : Prop :=
  ∃ cs, OwnRd own G h t r cs ps ∧ (if one then ValIs t.isAgg cs v else ∃ vs : List Value, v = .tuple vs.toArray ∧ TupIs t cs vs)

def emptyMem (A G : Nat → Prop) (h : Array Obj) : Mem := ⟨A, G, h, fun _ => none, fun _ => none, fun _ => none, fun _ => 0⟩

def ArgRel (A G : Nat → Prop) (h : Array Obj) : Arg → Value → Prop
  | .val t x, v => ∃ es, Rd G h t A x es ∧ ValIs t.isAgg es v
  | .clo f caps, v => CellRel (emptyMem A G h) (.clo f caps) v
  | .rp t x, v => CellRel (emptyMem A G h) (.rptr false t x 0) v
  | .ioArr t l, v => ∃ π, SliceAt t.sz π 0 l.length v ∧ ArrAt G h t l π ∧ ∀ p, π = some p → ¬ A p.b
  | _, _ => False

def ArgsRel (A G : Nat → Prop) (h : Array Obj) (as : List Arg) (vs : List Value) : Prop :=
  vs.length = as.length ∧ ∀ (i : Nat) a v, as[i]? = some a → vs[i]? = some v → ArgRel A G h a v

def Arg.isIo : Arg → Bool
  | .ioArr _ _ => true
  | _ => false

/-- One row at most is given away. -/
def IoOne (as : List Arg) : Prop := ∀ (i j : Nat) a b, as[i]? = some a → as[j]? = some b → a.isIo = true → b.isIo = true → i = j

/-- What a call that the evaluator answers owes. 'A': the blocks that it leaves as they are. -/
def CallOk (C : Cfg) (callF : FuncId → (t : Ty) → List Arg → Option t.den) : Prop :=
  ∀ (f : FuncId) (fn : Func) (t : Ty) (args : List Arg) (r : t.den), C.P.funcs[f]? = some fn → callF f t args = some r → fn.body.isSome = true ∧
    ∀ (w : World) (A G : Nat → Prop) (vals : List Value), (∀ b, A b → b < w.heap.size) → (∀ b, G b → A b) → Tab C w A → IoOne args → ArgsRel A G w.heap args vals →
      Calls C.P f vals.toArray w fun e w' => ∃ v G' ps, e = .returned v ∧ w.heap.size ≤ w'.heap.size ∧ Str w w' ∧ (∀ b, A b → w'.heap[b]? = w.heap[b]?) ∧ (∀ b, G b → G' b) ∧ (∀ b, G' b → G b ∨ (¬ A b ∧ b < w'.heap.size)) ∧
        ResIs (C.sig f).own (Nat.beq fn.resultTypes.size 1) t G' w'.heap r v ps ∧ (∀ p, some p ∈ ps → ¬ A p.b ∧ ¬ G' p.b) ∧ ((ps.filterMap id).map Pl.b).Nodup

/-- A value whose rows are lent lie at places of their own. -/
def LendArg (A G : Nat → Prop) (h : Array Obj) (T : Ty) (x : T.den) (v : Value) (cs : List Value) (ps : List (Option Pl)) : Prop :=
  OwnRd true G h T x cs ps ∧ ValIs T.isAgg cs v ∧ (∀ p, some p ∈ ps → ¬ A p.b) ∧ ((ps.filterMap id).map Pl.b).Nodup

/-- The rows that were lent, as they come back. -/
def RowsBack (G : Nat → Prop) (h : Array Obj) : (T : Ty) → T.den → T.rows.den → List (Option Pl) → Prop
  | .list t, l, l', ps => ∃ π, ps = [π] ∧ ArrAt G h t l' π ∧ l'.length = l.length
  | .pair a b, x, z, ps => ∃ p q, ps = p ++ q ∧ RowsBack G h a x.1 z.1 p ∧ RowsBack G h b x.2 z.2 q
  | .bool, _, _, ps => ps = []
  | .int _, _, _, ps => ps = []
  | .str, _, _, ps => ps = []
  | .unit, _, _, ps => ps = []

/-- What a call owes to which a value is lent. -/
def LendOk (C : Cfg) (callF : FuncId → (t : Ty) → List Arg → Option t.den) : Prop :=
  ∀ (f : FuncId) (fn : Func) (rt T : Ty) (x : T.den) (i : Nat) (args : List Arg) (r : rt.den × T.rows.den), C.P.funcs[f]? = some fn → callF f (.pair rt T.rows) args = some r → args[i]? = some (.lend T x) → fn.body.isSome = true ∧
    ∀ (w : World) (A G : Nat → Prop) (vals : List Value) (v0 : Value) (cs : List Value) (ps : List (Option Pl)), (∀ b, A b → b < w.heap.size) → (∀ b, G b → A b) → Tab C w A → vals.length = args.length → vals[i]? = some v0 → LendArg A G w.heap T x v0 cs ps →
      (∀ (j : Nat) a v, j ≠ i → args[j]? = some a → vals[j]? = some v → a.isIo = false ∧ ArgRel A G w.heap a v) →
      Calls C.P f vals.toArray w fun e w' => ∃ v G' qs, e = .returned v ∧ w.heap.size ≤ w'.heap.size ∧ Str w w' ∧ (∀ b, A b → w'.heap[b]? = w.heap[b]?) ∧ (∀ b, G b → G' b) ∧ (∀ b, G' b → G b ∨ (¬ A b ∧ b < w'.heap.size)) ∧
        ResIs (C.sig f).own (Nat.beq fn.resultTypes.size 1) rt G' w'.heap r.1 v qs ∧ (∀ p, some p ∈ qs → ¬ A p.b ∧ ¬ G' p.b) ∧ ((qs.filterMap id).map Pl.b).Nodup ∧
        RowsBack G' w'.heap T x r.2 ps ∧ ∀ p, some p ∈ ps → ¬ G' p.b ∧ ∀ q, some q ∈ qs → q.b ≠ p.b

/-- What calls owe. -/
def CallsOk (C : Cfg) (callF : FuncId → (t : Ty) → List Arg → Option t.den) : Prop := CallOk C callF ∧ LendOk C callF

theorem valIs_of {M : Mem} {c : Comp} {v : Value} {u : Ty} (hk : c.known = true) (ha : aggOk u c = true) (h : CompRel M c v) : ValIs u.isAgg v.cells.toList v := by
  unfold ValIs
  cases c with
  | agg cs =>
    obtain ⟨vs, rfl, _⟩ := h
    have : u.isAgg = true := ha
    rw [this]
    simp [Value.cells]
  | cell c =>
    have hf : u.isAgg = false := by simpa [aggOk] using ha
    rw [hf]
    have h1 : one v = true := cell_one hk h
    simp only [Bool.false_eq_true, if_false]
    cases v <;> simp [one] at h1 <;> rfl

theorem toArgVal_io {C : Cfg} {s : St} {t : TypeId} {c : Comp} {x : Arg} (h : toArgVal C s t c = some x) : x.isIo = false := by
  unfold toArgVal at h
  split at h
  · rename_i u hu
    cases hb : (c.known && aggOk u c) with
    | false => rw [hb] at h; cases h
    | true =>
      rw [hb] at h
      obtain ⟨_, _, rfl⟩ := Option.map_eq_some_iff.1 h
      rfl
  · split at h
    · obtain ⟨_, _, rfl⟩ := Option.map_eq_some_iff.1 h; rfl
    · split at h
      · simp at h; subst h; rfl
      · cases h
    · simp at h; subst h; rfl
    · cases h

theorem capArg_io {c : Cap} {x : Arg} (h : capArg c = some x) : x.isIo = false := by
  cases c <;> simp [capArg] at h
  subst h; rfl

theorem listOf_live {σ : Nat → Option Entry} {m : Mode} {t : Ty} {c : Cell} {l : List t.den} {ids : List Nat} (h : listOf σ m t c = some (l, ids)) : ∀ id ∈ ids, ∃ u l' o, σ id = some (.arr u l' o) ∧ (m = .give → o = .open) := by
  intro id hid
  cases c <;> simp only [listOf] at h <;> try (cases h; done)
  case nil => simp at h; rw [h.2] at hid; simp at hid
  case list fr u l' =>
    cases m <;> cases fr <;> simp at h
    all_goals
      obtain ⟨x, hx, rfl, rfl⟩ := h
      simp at hid
  case ref id' =>
    cases hs : σ id' with
    | none => simp [hs] at h
    | some e =>
      cases e with
      | box _ _ => simp [hs] at h
      | arr u l' o =>
        cases m <;> cases o <;> simp [hs] at h
        all_goals
          obtain ⟨x, hx, rfl, rfl⟩ := h
          simp at hid
          subst hid
          exact ⟨u, l', _, hs, by simp⟩
  case sub id' off n =>
    cases hs : σ id' with
    | none => simp [hs] at h
    | some e =>
      cases e with
      | box _ _ => simp [hs] at h
      | arr u l' o =>
        cases m <;> cases o <;> simp [hs] at h
        all_goals
          obtain ⟨x, hx, rfl, rfl⟩ := h
          simp at hid
          subst hid
          exact ⟨u, l', _, hs, by simp⟩

theorem ofCells_live {σ : Nat → Option Entry} {m : Mode} : ∀ {t : Ty} {cs : List Cell} {x : t.den} {rest : List Cell} {ids : List Nat}, ofCells σ m t cs = some (x, rest, ids) → ∀ id ∈ ids, ∃ u l o, σ id = some (.arr u l o) ∧ (m = .give → o = .open) := by
  intro t
  induction t with
  | list t _ =>
    intro cs x rest ids h
    cases cs with
    | nil => simp [ofCells] at h
    | cons c cs =>
      have h : (listOf σ m t c).map (fun (l, ids) => (l, cs, ids)) = some (x, rest, ids) := by cases c <;> simpa [ofCells] using h
      rw [Option.map_eq_some_iff] at h
      obtain ⟨⟨l, js⟩, hl, he⟩ := h
      simp at he
      obtain ⟨rfl, rfl, rfl⟩ := he
      exact listOf_live hl
  | pair a b iha ihb =>
    intro cs x rest ids h
    rw [ofCells_pair] at h
    cases h1 : ofCells σ m a cs with
    | none => simp [h1] at h
    | some r1 =>
      obtain ⟨x1, rest1, ids1⟩ := r1
      simp only [h1] at h
      cases h2 : ofCells σ m b rest1 with
      | none => simp [h2] at h
      | some r2 =>
        obtain ⟨x2, rest2, ids2⟩ := r2
        simp [h2] at h
        obtain ⟨rfl, rfl, rfl⟩ := h
        intro id hid
        rcases List.mem_append.1 hid with hid | hid
        · exact iha h1 id hid
        · exact ihb h2 id hid
  | bool =>
    intro cs x rest ids h
    cases cs with
    | nil => simp [ofCells] at h
    | cons c cs => cases c <;> simp [ofCells] at h <;> (obtain ⟨_, _, rfl⟩ := h; intro id hid; simp at hid)
  | int k =>
    intro cs x rest ids h
    cases cs with
    | nil => simp [ofCells] at h
    | cons c cs => cases c <;> simp [ofCells] at h; obtain ⟨_, _, _, rfl⟩ := h; intro id hid; simp at hid
  | str =>
    intro cs x rest ids h
    cases cs with
    | nil => simp [ofCells] at h
    | cons c cs => cases c <;> simp [ofCells] at h; obtain ⟨_, _, rfl⟩ := h; intro id hid; simp at hid
  | unit =>
    intro cs x rest ids h
    have : ids = [] := by
      cases cs with
      | nil => simp [ofCells] at h; exact h.2
      | cons c cs => cases c <;> simp [ofCells] at h <;> exact h.2
    subst this
    intro id hid
    simp at hid

theorem ofCellsAll_live {σ : Nat → Option Entry} {m : Mode} {t : Ty} {cs : List Cell} {x : t.den} {ids : List Nat} (h : ofCellsAll σ m t cs = some (x, ids)) : ∀ id ∈ ids, ∃ u l o, σ id = some (.arr u l o) ∧ (m = .give → o = .open) := by
  unfold ofCellsAll at h
  split at h
  · rename_i x' ids' he
    simp at h
    obtain ⟨rfl, rfl⟩ := h
    exact ofCells_live he
  · cases h

theorem capRo_ok {F0 : Fr0} {A G : Nat → Prop} {s : St} {a : Act} {w : World} {pl : Nat → Option Pl} (i : Inv F0 G s a w pl) (hFA : ∀ b, F0 b ∨ G b → A b) (hPA : ∀ id e p, s.sto id = some e → pl id = some p → A p.b) {cp cp' : Cap} {u : Value} (hu : CapRel (mem F0 G w.heap s.sto pl) cp u) (hcp : capRo s cp = some cp') :
    CapRel (emptyMem A G w.heap) cp' u := by
    have hGA : ∀ b, G b → A b := fun b hb => hFA b (.inr hb)
    cases cp with
    | ro t y =>
      simp [capRo] at hcp
      subst hcp
      obtain ⟨b, o, es, h1, h2, h3, h4⟩ := hu
      exact ⟨b, o, es, h1, hFA b h2, Rd.move (fun _ h => h) (fun _ _ => rfl) hFA (fun _ _ => rfl) h3, h4⟩
    | ptr id =>
      obtain ⟨t', cs, p, hs, hp, ho, hv⟩ := hu
      obtain ⟨p', c, e, fz, h1, h2, h3, h4, h5, h6, h7, h8, h9⟩ := i.sto.ent id _ hs
      obtain rfl : p = p' := Option.some.inj (hp.symm.trans h1)
      simp only [capRo, show s.sto id = some (.box t' cs) from hs] at hcp
      cases t' with
      | none => simp at hcp
      | some t' =>
        simp only at hcp
        obtain ⟨⟨y, ids⟩, hof, rfl⟩ := Option.map_eq_some_iff.1 hcp
        have hh : w.heap[p.b]? = some (.cells c e fz) := h3
        have hb : A p.b := hPA id _ p hs hp
        have hr : Rd G w.heap t' A y c.toList := ofCellsAll_rd i.sto (fun _ h => h) hGA (fun _ => hFA) hof h8 (fun j hj q hq => by
          obtain ⟨_, _, _, he, _⟩ := ofCellsAll_live hof j hj
          exact hPA j _ q he hq)
        refine ⟨p.b, 0, c.toList, hv, hb, hr, fun j u hj => ?_⟩
        unfold hcell
        show (match w.heap[p.b]? with | some (.cells c _ _) => c[0 + j]? | _ => none) = _
        rw [hh]
        simpa using hj

theorem capsRo_ok {F0 : Fr0} {A G : Nat → Prop} {s : St} {a : Act} {w : World} {pl : Nat → Option Pl} (i : Inv F0 G s a w pl) (hFA : ∀ b, F0 b ∨ G b → A b) (hPA : ∀ id e p, s.sto id = some e → pl id = some p → A p.b) : ∀ {caps caps' : List Cap} {vs : List Value}, capsRo s caps = some caps' → vs.length = caps.length →
    (∀ (i : Nat) c u, caps[i]? = some c → vs[i]? = some u → CapRel (mem F0 G w.heap s.sto pl) c u) →
    vs.length = caps'.length ∧ ∀ (i : Nat) c u, caps'[i]? = some c → vs[i]? = some u → CapRel (emptyMem A G w.heap) c u := by
  intro caps
  induction caps with
  | nil => intro caps' vs h hl _; simp [capsRo] at h; subst h; exact ⟨hl, fun i c u hi => by simp at hi⟩
  | cons c0 caps ih =>
    intro caps' vs h hl hcs
    simp only [capsRo] at h
    split at h
    · rename_i c1 r1 hc1 hr1
      simp at h
      subst h
      cases vs with
      | nil => simp at hl
      | cons v vs =>
        obtain ⟨k1, k2⟩ := ih hr1 (by simpa using hl) (fun i c u hi hu => hcs (i + 1) c u (by simpa using hi) (by simpa using hu))
        refine ⟨by simp [k1], fun j c u hi hu => ?_⟩
        cases j with
        | zero => simp at hi hu; subst hi hu; exact capRo_ok i hFA hPA (hcs 0 c0 v rfl rfl) hc1
        | succ j => exact k2 j c u (by simpa using hi) (by simpa using hu)
    · cases h

theorem toArg_ok {C : Cfg} {F0 : Fr0} {A G : Nat → Prop} {s : St} {a : Act} {w : World} {pl : Nat → Option Pl} (i : Inv F0 G s a w pl) (hFA : ∀ b, F0 b ∨ G b → A b) (hPA : ∀ id e p, s.sto id = some e → pl id = some p → A p.b) {t : TypeId} {c : Comp} {v : Value} {x : Arg} (hc : CompRel (mem F0 G w.heap s.sto pl) c v)
    (h : toArgVal C s t c = some x) : ArgRel A G w.heap x v := by
  have hGA : ∀ b, G b → A b := fun b hb => hFA b (.inr hb)
  unfold toArgVal at h
  · split at h
    · rename_i u hu
      cases hb : (c.known && aggOk u c) with
      | false => rw [hb] at h; cases h
      | true =>
        rw [hb] at h
        simp only [cond_true] at h
        simp only [Bool.and_eq_true] at hb
        obtain ⟨⟨y, ids⟩, hof, rfl⟩ := Option.map_eq_some_iff.1 h
        exact ⟨v.cells.toList, ofCellsAll_rd i.sto (fun _ h => h) hGA (fun _ => hFA) hof (cells_of_comp hb.1 hc) (fun j hj q hq => by
          obtain ⟨_, _, _, he, _⟩ := ofCellsAll_live hof j hj
          exact hPA j _ q he hq), valIs_of hb.1 hb.2 hc⟩
    · split at h
      · rename_i f caps
        obtain ⟨caps', hcaps, rfl⟩ := Option.map_eq_some_iff.1 h
        obtain ⟨vs, hv, hl, hcs⟩ := hc
        obtain ⟨k1, k2⟩ := capsRo_ok i hFA hPA hcaps hl hcs
        exact ⟨vs, hv, k1, k2⟩
      · rename_i id
        split at h
        · rename_i t' y hcp
          simp at h
          subst h
          obtain ⟨b, o, es, h1, h2, h3, h4⟩ := capRo_ok i hFA hPA (cp := .ptr id) hc hcp
          exact ⟨b, o, es, by rw [Nat.add_zero]; exact h1, h2, h3, h4⟩
        · cases h
      · rename_i fr t' y
        simp at h
        subst h
        obtain ⟨b, o, es, h1, h2, h3, h4⟩ := hc
        refine ⟨b, o, es, h1, hFA b h2, ?_, h4⟩
        show Rd G w.heap t' A y es
        cases fr with
        | false => exact Rd.move (fun _ h => h) (fun _ _ => rfl) hFA (fun _ _ => rfl) h3
        | true => exact Rd.move (fun _ h => h) (fun _ _ => rfl) hGA (fun _ _ => rfl) h3
      · cases h

end Go.Flat
