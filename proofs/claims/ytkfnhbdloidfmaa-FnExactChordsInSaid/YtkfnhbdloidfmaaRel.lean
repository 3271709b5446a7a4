/- What the plain evaluator's values stand for in memory, and that this lasts while memory that they lie in is not written. No condition. -/
import Derived.Test.YtkfnhbdloidfmaaEv
set_option linter.unusedVariables false
set_option linter.unusedSimpArgs false
namespace Go.Flat

def hcell (h : Array Obj) (b o : Nat) : Option Value :=
  match h[b]? with
  | some (.cells c _ _) => c[o]?
  | _ => none

theorem cell_eq (w : World) (b o : Nat) : w.cell? ⟨b, o, none⟩ = hcell w.heap b o := by
  unfold World.cell? hcell
  cases w.heap[b]? with
  | none => rfl
  | some x => cases x <;> rfl

theorem hcell_congr {h h' : Array Obj} {b : Nat} (e : h'[b]? = h[b]?) (o : Nat) : hcell h' b o = hcell h b o := by
  unfold hcell; rw [e]

/-- A value that takes one cell. -/
def one : Value → Bool
  | .agg _ | .tuple _ => false
  | _ => true

/-- The cells of typed data; rows within it lie in 'F', rows within those in 'G'. -/
def Rd (G : Nat → Prop) (h : Array Obj) : (t : Ty) → (Nat → Prop) → t.den → List Value → Prop
  | .bool, _, b, cs => cs = [.bool b]
  | .int k, _, n, cs => cs = [.int k n]
  | .str, _, s, cs => cs = [.string s]
  | .list t, F, l, cs => ∃ a cap, cs = [.slice a l.length cap] ∧ l.length ≤ cap ∧
      (l ≠ [] → ∃ b o, a = some ⟨b, o, none⟩ ∧ F b ∧ ∀ i x, l[i]? = some x → ∃ es, Rd G h t G x es ∧ ∀ j v, es[j]? = some v → hcell h b (o + i * t.sz + j) = some v)
  | .unit, _, _, cs => cs = []
  | .pair a b, F, x, cs => ∃ c d, cs = c ++ d ∧ Rd G h a F x.1 c ∧ Rd G h b F x.2 d

theorem Rd.len {G : Nat → Prop} {h : Array Obj} : ∀ {t : Ty} {F : Nat → Prop} {x : t.den} {cs : List Value}, Rd G h t F x cs → cs.length = t.sz
  | .bool, _, _, _, e => by cases e; rfl
  | .int _, _, _, _, e => by cases e; rfl
  | .str, _, _, _, e => by cases e; rfl
  | .list _, _, _, _, ⟨_, _, e, _⟩ => by cases e; rfl
  | .unit, _, _, _, e => by cases e; rfl
  | .pair a b, _, x, _, ⟨c, d, e, p, q⟩ => by
    have := Rd.len p
    have := Rd.len q
    subst e
    simp [Ty.sz, *]

theorem Rd.one {G : Nat → Prop} {h : Array Obj} : ∀ {t : Ty} {F : Nat → Prop} {x : t.den} {cs : List Value}, Rd G h t F x cs → ∀ v ∈ cs, one v = true
  | .bool, _, _, _, e => by cases e; simp [Flat.one]
  | .int _, _, _, _, e => by cases e; simp [Flat.one]
  | .str, _, _, _, e => by cases e; simp [Flat.one]
  | .list _, _, _, _, ⟨_, _, e, _⟩ => by cases e; simp [Flat.one]
  | .unit, _, _, _, e => by cases e; simp
  | .pair a b, _, x, _, ⟨c, d, e, p, q⟩ => by
    subst e
    intro v hv
    rcases List.mem_append.1 hv with hv | hv
    · exact Rd.one p v hv
    · exact Rd.one q v hv

theorem Rd.move {G G' : Nat → Prop} {h h' : Array Obj} (hG : ∀ b, G b → G' b) (hs : ∀ b, G b → h'[b]? = h[b]?) :
    ∀ {t : Ty} {F F' : Nat → Prop} (hF : ∀ b, F b → F' b) (hsF : ∀ b, F b → h'[b]? = h[b]?) {x : t.den} {cs : List Value}, Rd G h t F x cs → Rd G' h' t F' x cs
  | .bool, _, _, _, _, _, _, e => e
  | .int _, _, _, _, _, _, _, e => e
  | .str, _, _, _, _, _, _, e => e
  | .list t, F, F', hF, hsF, l, cs, ⟨a, cap, e, hl, hx⟩ => by
    refine ⟨a, cap, e, hl, fun hne => ?_⟩
    obtain ⟨b, o, ha, hb, hc⟩ := hx hne
    refine ⟨b, o, ha, hF b hb, fun i x hi => ?_⟩
    obtain ⟨es, hes, hj⟩ := hc i x hi
    exact ⟨es, Rd.move hG hs hG hs hes, fun j v hv => by rw [hcell_congr (hsF b hb)]; exact hj j v hv⟩
  | .unit, _, _, _, _, _, _, e => e
  | .pair a b, _, _, hF, hsF, _, _, ⟨c, d, e, p, q⟩ => ⟨c, d, e, Rd.move hG hs hF hsF p, Rd.move hG hs hF hsF q⟩

/-- Where a row or a box lies. -/
structure Pl where
  b : Nat
  o : Nat
  size : Nat

/-- A slice of a row. -/
def SliceAt (sz : Nat) : Option Pl → Nat → Nat → Value → Prop
  | none, _, n, v => n = 0 ∧ v = .slice none 0 0
  | some p, off, n, v => ∃ a cap, v = .slice (some a) n cap ∧ n ≤ cap ∧ (0 < cap → a = ⟨p.b, p.o + off * sz, none⟩) ∧ p.o + (off + cap) * sz ≤ p.size

/-- No cell of the block is one that a string shares. -/
def Free (fz : Nat × Nat) (n : Nat) : Prop := ∀ o, o < n → ¬ (fz.1 ≤ o ∧ o < fz.2)

theorem Free.zero (n : Nat) : Free (0, 0) n := fun o _ h => by simp at h

/-- A row. -/
def ArrAt (G : Nat → Prop) (h : Array Obj) (t : Ty) (l : List t.den) : Option Pl → Prop
  | none => l = []
  | some p => ∃ c e fz, h[p.b]? = some (.cells c e fz) ∧ Free fz c.size ∧ c.size = p.size ∧ p.o + l.length * t.sz ≤ p.size ∧
      ∀ i x, l[i]? = some x → ∃ es, Rd G h t G x es ∧ ∀ j v, es[j]? = some v → c[p.o + i * t.sz + j]? = some v

structure Mem where
  F : Nat → Prop
  G : Nat → Prop
  h : Array Obj
  sto : Nat → Option Entry
  pl : Nat → Option Pl
  pin : Nat → Option Pl
  len : Nat → Nat

/-- What a frame finds: the blocks that stay, and the rows that it was lent. -/
structure Fr0 where
  F : Nat → Prop
  pin : Nat → Option Pl
  len : Nat → Nat
instance : CoeFun Fr0 (fun _ => Nat → Prop) := ⟨Fr0.F⟩
instance : Coe Fr0 (Nat → Prop) := ⟨Fr0.F⟩

def CapRel (M : Mem) : Cap → Value → Prop
  | .ptr id, v => ∃ t cs p, M.sto id = some (.box t cs) ∧ M.pl id = some p ∧ p.o = 0 ∧ v = .pointer (some ⟨p.b, 0, none⟩)
  | .ro t x, v => ∃ b o es, v = .pointer (some ⟨b, o, none⟩) ∧ M.F b ∧ Rd M.G M.h t M.F x es ∧ ∀ j u, es[j]? = some u → hcell M.h b (o + j) = some u

def CellRel (M : Mem) : Cell → Value → Prop
  | .undef, _ => True
  | .void, v => v = undef
  | .bool b, v => v = .bool b
  | .prop p d, v => v = .bool (@decide p d)
  | .int k n, v => v = .int k n
  | .str s, v => v = .string s
  | .nil, v => v = .slice none 0 0
  | .list fr t l, v => Rd M.G M.h (.list t) (if fr then M.G else M.F) l [v]
  | .ref id, v => ∃ t l o, M.sto id = some (.arr t l o) ∧ SliceAt t.sz (M.pl id) 0 l.length v
  | .sub id off n, v => ∃ t l o, M.sto id = some (.arr t l o) ∧ off + n ≤ l.length ∧ SliceAt t.sz (M.pl id) off n v
  | .ptr id off, v => ∃ t cs p, M.sto id = some (.box t cs) ∧ M.pl id = some p ∧ p.o = 0 ∧ v = .pointer (some ⟨p.b, off, none⟩)
  | .eptr id i off, v => ∃ t l o p, M.sto id = some (.arr t l o) ∧ i < l.length ∧ M.pl id = some p ∧ v = .pointer (some ⟨p.b, p.o + i * t.sz + off, none⟩)
  | .rptr fr t x off, v => ∃ b o es, v = .pointer (some ⟨b, o + off, none⟩) ∧ M.F b ∧ Rd M.G M.h t (if fr then M.G else M.F) x es ∧ ∀ j u, es[j]? = some u → hcell M.h b (o + j) = some u
  | .clo f caps, v => ∃ vs : List Value, v = .func (.func f) #[] vs.toArray ∧ vs.length = caps.length ∧ ∀ (i : Nat) c u, caps[i]? = some c → vs[i]? = some u → CapRel M c u

/-- Side by side. -/
def CellsRel (M : Mem) (cs : List Cell) (vs : List Value) : Prop :=
  vs.length = cs.length ∧ ∀ (i : Nat) c v, cs[i]? = some c → vs[i]? = some v → CellRel M c v ∧ one v = true

def CompRel (M : Mem) : Comp → Value → Prop
  | .cell c, v => CellRel M c v
  | .agg cs, v => ∃ vs : List Value, v = .agg vs.toArray ∧ CellsRel M cs vs

def SlotRel (M : Mem) : Slot → Value → Prop
  | .one c, v => CompRel M c v
  | .tup cs, v => ∃ vs : List Value, v = .tuple vs.toArray ∧ vs.length = cs.length ∧ ∀ (i : Nat) c u, cs[i]? = some c → vs[i]? = some u → CompRel M c u

def EntryRel (M : Mem) : Entry → Option Pl → Prop
  | .box t cs, π => ∃ p c e fz, π = some p ∧ p.o = 0 ∧ M.h[p.b]? = some (.cells c e fz) ∧ Free fz c.size ∧ c.size = p.size ∧ c.size = cs.length ∧ (∀ u, t = some u → cs.length = u.sz) ∧ CellsRel M cs c.toList ∧ ¬ M.F p.b
  | .arr t l o, π => ArrAt M.G M.h t l π ∧ ∀ p, π = some p → (o = .frozen → M.G p.b) ∧ (o ≠ .frozen → ¬ M.F p.b)

/-- All that the frame's own store holds, each at a place of its own. -/
structure StoRel (M : Mem) : Prop where
  gf : ∀ b, M.G b → M.F b
  lt : ∀ b, M.F b → b < M.h.size
  ent : ∀ id e, M.sto id = some e → EntryRel M e (M.pl id)
  apart : ∀ i j ei ej p q, M.sto i = some ei → M.sto j = some ej → i ≠ j → M.pl i = some p → M.pl j = some q → p.b ≠ q.b
  pin : ∀ id t l n, M.sto id = some (.arr t l (.pinned n)) → M.pl id = M.pin n ∧ l.length = M.len n

/-- An entry that says as much of its place. -/
def Entry.like : Entry → Entry → Prop
  | .box t cs, .box t' cs' => True
  | .arr t l _, .arr t' l' _ => ∃ h : t = t', l.length = l'.length
  | _, _ => False

theorem Entry.like_refl : ∀ e : Entry, e.like e
  | .box _ _ => trivial
  | .arr _ _ _ => ⟨rfl, rfl⟩

/-- One memory after another: what a cell says goes on, but for the numbers in 'D'. -/
structure Goes (D : Nat → Prop) (M M' : Mem) : Prop where
  F : ∀ b, M.F b → M'.F b
  G : ∀ b, M.G b → M'.G b
  gf : ∀ b, M.G b → M.F b
  h : ∀ b, M.F b → M'.h[b]? = M.h[b]?
  sto : ∀ id e, ¬ D id → M.sto id = some e → ∃ e', M'.sto id = some e' ∧ e.like e' ∧ M'.pl id = M.pl id

theorem Goes.rd {D : Nat → Prop} {M M' : Mem} (g : Goes D M M') {t : Ty} {x : t.den} {cs : List Value} (h : Rd M.G M.h t M.F x cs) : Rd M'.G M'.h t M'.F x cs :=
  Rd.move g.G (fun b hb => g.h b (g.gf b hb)) g.F g.h h

theorem Goes.rdG {D : Nat → Prop} {M M' : Mem} (g : Goes D M M') {t : Ty} {x : t.den} {cs : List Value} (h : Rd M.G M.h t M.G x cs) : Rd M'.G M'.h t M'.G x cs :=
  Rd.move g.G (fun b hb => g.h b (g.gf b hb)) g.G (fun b hb => g.h b (g.gf b hb)) h

theorem Goes.rdIf {D : Nat → Prop} {M M' : Mem} (g : Goes D M M') (fr : Bool) {t : Ty} {x : t.den} {cs : List Value} (h : Rd M.G M.h t (if fr then M.G else M.F) x cs) : Rd M'.G M'.h t (if fr then M'.G else M'.F) x cs := by
  cases fr
  · exact g.rd h
  · exact g.rdG h

theorem Goes.cap {D : Nat → Prop} {M M' : Mem} (g : Goes D M M') {c : Cap} {v : Value} (hd : ∀ id, c = .ptr id → ¬ D id) (h : CapRel M c v) : CapRel M' c v := by
  cases c with
  | ptr id =>
    obtain ⟨t, cs, p, hs, hp, ho, hv⟩ := h
    obtain ⟨e', he', hl, hpl⟩ := g.sto id _ (hd id rfl) hs
    cases e' with
    | box t' cs' => exact ⟨t', cs', p, he', by rw [hpl, hp], ho, hv⟩
    | arr _ _ _ => exact hl.elim
  | ro t x =>
    obtain ⟨b, o, es, hv, hb, hr, hj⟩ := h
    exact ⟨b, o, es, hv, g.F b hb, g.rd hr, fun j u hu => by rw [hcell_congr (g.h b hb)]; exact hj j u hu⟩

theorem Goes.cell {D : Nat → Prop} {M M' : Mem} (g : Goes D M M') {c : Cell} {v : Value} (hd : ∀ id ∈ c.ids, ¬ D id) (h : CellRel M c v) : CellRel M' c v := by
  cases c with
  | undef => trivial
  | void => exact h
  | bool b => exact h
  | prop p d => exact h
  | int k n => exact h
  | str s => exact h
  | nil => exact h
  | list fr t l => exact g.rdIf fr h
  | ref id =>
    obtain ⟨t, l, o, hs, hv⟩ := h
    obtain ⟨e', he', hl, hpl⟩ := g.sto id _ (hd id (by simp [Cell.ids])) hs
    cases e' with
    | box _ _ => exact hl.elim
    | arr t' l' o' =>
      obtain ⟨rfl, hl⟩ := hl
      exact ⟨t, l', o', he', by rw [hpl, ← hl]; exact hv⟩
  | sub id off n =>
    obtain ⟨t, l, o, hs, hle, hv⟩ := h
    obtain ⟨e', he', hl, hpl⟩ := g.sto id _ (hd id (by simp [Cell.ids])) hs
    cases e' with
    | box _ _ => exact hl.elim
    | arr t' l' o' =>
      obtain ⟨rfl, hl⟩ := hl
      exact ⟨t, l', o', he', by rw [← hl]; exact hle, by rw [hpl]; exact hv⟩
  | ptr id off =>
    obtain ⟨t, cs, p, hs, hp, ho, hv⟩ := h
    obtain ⟨e', he', hl, hpl⟩ := g.sto id _ (hd id (by simp [Cell.ids])) hs
    cases e' with
    | box t' cs' => exact ⟨t', cs', p, he', by rw [hpl, hp], ho, hv⟩
    | arr _ _ _ => exact hl.elim
  | eptr id i off =>
    obtain ⟨t, l, o, p, hs, hi, hp, hv⟩ := h
    obtain ⟨e', he', hl, hpl⟩ := g.sto id _ (hd id (by simp [Cell.ids])) hs
    cases e' with
    | box _ _ => exact hl.elim
    | arr t' l' o' =>
      obtain ⟨rfl, hl⟩ := hl
      exact ⟨t, l', o', p, he', by rw [← hl]; exact hi, by rw [hpl, hp], hv⟩
  | rptr fr t x off =>
    obtain ⟨b, o, es, hv, hb, hr, hj⟩ := h
    exact ⟨b, o, es, hv, g.F b hb, g.rdIf fr hr, fun j u hu => by rw [hcell_congr (g.h b hb)]; exact hj j u hu⟩
  | clo f caps =>
    obtain ⟨vs, hv, hl, hc⟩ := h
    refine ⟨vs, hv, hl, fun i c u hi hu => g.cap (fun id he => ?_) (hc i c u hi hu)⟩
    subst he
    refine hd id ?_
    simp only [Cell.ids, List.mem_filterMap]
    exact ⟨_, List.mem_of_getElem? hi, rfl⟩

theorem Goes.cells {D : Nat → Prop} {M M' : Mem} (g : Goes D M M') {cs : List Cell} {vs : List Value} (hd : ∀ c ∈ cs, ∀ id ∈ c.ids, ¬ D id) (h : CellsRel M cs vs) : CellsRel M' cs vs :=
  ⟨h.1, fun i c v hi hv => ⟨g.cell (hd c (List.mem_of_getElem? hi)) (h.2 i c v hi hv).1, (h.2 i c v hi hv).2⟩⟩

theorem Goes.comp {D : Nat → Prop} {M M' : Mem} (g : Goes D M M') {c : Comp} {v : Value} (hd : ∀ id ∈ c.ids, ¬ D id) (h : CompRel M c v) : CompRel M' c v := by
  cases c with
  | cell c => exact g.cell (fun id hi => hd id (by simpa [Comp.ids, Comp.cells] using hi)) h
  | agg cs =>
    obtain ⟨vs, hv, hc⟩ := h
    exact ⟨vs, hv, g.cells (fun c hc id hi => hd id (by simp only [Comp.ids, Comp.cells, List.mem_flatMap]; exact ⟨c, hc, hi⟩)) hc⟩

theorem Goes.slot {D : Nat → Prop} {M M' : Mem} (g : Goes D M M') {s : Slot} {v : Value} (hd : ∀ id ∈ s.ids, ¬ D id) (h : SlotRel M s v) : SlotRel M' s v := by
  cases s with
  | one c => exact g.comp hd h
  | tup cs =>
    obtain ⟨vs, hv, hl, hc⟩ := h
    exact ⟨vs, hv, hl, fun i c u hi hu => g.comp (fun id hid => hd id (by simp only [Slot.ids, List.mem_flatMap]; exact ⟨c, List.mem_of_getElem? hi, hid⟩)) (hc i c u hi hu)⟩

theorem Goes.refl (D : Nat → Prop) {M : Mem} (h : ∀ b, M.G b → M.F b) : Goes D M M :=
  ⟨fun _ h => h, fun _ h => h, h, fun _ _ => rfl, fun id e _ he => ⟨e, he, e.like_refl, rfl⟩⟩

theorem Goes.arrAt {D : Nat → Prop} {M M' : Mem} (g : Goes D M M') {t : Ty} {l : List t.den} {π : Option Pl} (hb : ∀ p, π = some p → M'.h[p.b]? = M.h[p.b]?) (h : ArrAt M.G M.h t l π) : ArrAt M'.G M'.h t l π := by
  cases π with
  | none => exact h
  | some p =>
    obtain ⟨c, e, fz, hc, hfz, hsz, hle, hx⟩ := h
    refine ⟨c, e, fz, by rw [hb p rfl]; exact hc, hfz, hsz, hle, fun i x hi => ?_⟩
    obtain ⟨es, hes, hj⟩ := hx i x hi
    exact ⟨es, g.rdG hes, hj⟩

end Go.Flat
