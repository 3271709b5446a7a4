/- Tools for a law's row: whatever reads as data of a type is a value of the kind of that type, and the numbers in it are ones of their kinds. No condition. -/
import Derived.Test.YtidegbeadeoaeaaWWords
import Derived.Deep.Slices
import Derived.Carry
import Derived.WideShapes
namespace Go.Proofs.Ytidegbeadeoaeaa.Fit
open Go.RowKit Go.Proofs.YtidegbeadeoaeaaW.PrintWords Go.ChangeShapes Go.WideShapes Go.Deep
/-- 'K' fits the type 't' of the program 'P': what reads as data of that type is a value of that kind, and 'W' is true of it. -/
def Fits {α : Type} (P : Program) (t : TypeId) (K : Kd α) (W : α → Prop) : Prop :=
  ∀ (H : Type) (enc : TypeId × Value → H) (w : World) (base : Nat) (spare : Nat → Bool) (held : Bool) (fuel : Nat) (cs : List Value) (x : DataW H × List MemPlace),
    DataW.trod enc P w base spare held fuel t cs = some x → ∃ a : α, K.K w a cs ∧ W a
def Wint (k : IntKind) (x : Int) : Prop := (Lit.int k x).wf = true
def Wany {α : Type} (_ : α) : Prop := True
def Wsl {α : Type} (W : α → Prop) (l : List α) : Prop := l.length ≤ maxLen ∧ ∀ x ∈ l, W x
def Wpair {α β : Type} (W : α → Prop) (V : β → Prop) (x : α × β) : Prop := W x.1 ∧ V x.2
def Wiso {α β : Type} (W : α → Prop) (f : β → α) (x : β) : Prop := W (f x)
theorem fits_int {P : Program} {t : TypeId} {k : IntKind} (ht : P.underlying t = some (.int k)) : Fits P t (Kd.int k) (Wint k) := by
  intro H enc w base spare held fuel cs x h
  obtain ⟨n, rfl, h1, h2⟩ := DataW.trod_int ht h
  exact ⟨n, rfl, h2⟩
theorem fits_bool {P : Program} {t : TypeId} (ht : P.underlying t = some .bool) : Fits P t Kd.bool Wany := by
  intro H enc w base spare held fuel cs x h
  obtain ⟨n, rfl, h1⟩ := DataW.trod_bool ht h
  exact ⟨n, rfl, trivial⟩
theorem fits_string {P : Program} {t : TypeId} (ht : P.underlying t = some .string) : Fits P t Kd.string Wany := by
  intro H enc w base spare held fuel cs x h
  obtain ⟨n, rfl, h1⟩ := DataW.trod_string ht h
  exact ⟨n, rfl, trivial⟩
theorem fits_slice {α : Type} {P : Program} {t e : TypeId} {d : Kd α} {W : α → Prop} (ht : P.underlying t = some (.slice e)) (hc : P.cellsOf e = d.sz) (hf : Fits P e d W) : Fits P t (Kd.slice e d) (Wsl W) := by
  intro H enc w base spare held fuel cs x h
  rcases open_slice ht h with ⟨rfl, rfl⟩ | ⟨a, len, cap, m, n, D, Pl, rfl, hb, hl, hm, hmm, rfl, hx⟩
  · exact ⟨[], ⟨none, 0, rfl, Nat.le_refl _, rfl, by simp, fun h => absurd h (by simp)⟩, by simp [maxLen], by simp⟩
  · have hlm : len ≤ m := by rw [hmm]; split <;> omega
    have key : ∀ i, i < len → ∃ v : α, (∃ c : List Value, c.length = d.sz ∧ d.K w v c ∧ ∀ j u, c[j]? = some u → w.cell? (a.add (i * d.sz + j)) = some u) ∧ W v := by
      intro i hi
      obtain ⟨cs', h1, h2⟩ := hx i (by omega)
      obtain ⟨v, hK, hW⟩ := hf H enc w base spare held n cs' _ h2
      obtain ⟨_, hlen, hcell⟩ := World.cells?_some h1
      rw [hc] at hlen hcell
      refine ⟨v, ⟨cs', hlen, hK, fun j u hu => ?_⟩, hW⟩
      have hj : j < d.sz := by
        have := (List.getElem?_eq_some_iff.1 hu).1
        omega
      have := hcell j hj
      rw [Deep.add_add] at this
      rw [this, hu]
    by_cases h0 : len = 0
    · subst h0
      exact ⟨[], ⟨some a, cap, rfl, Nat.zero_le _, rfl, by simp, fun h => absurd h (by simp)⟩, by simp [maxLen], by simp⟩
    · obtain ⟨v0, _⟩ := key 0 (by omega)
      haveI : Inhabited α := ⟨v0⟩
      obtain ⟨f, hf2⟩ := choose_lt key
      have hlen : ((List.range len).map f).length = len := by simp
      have hml : len ≤ 9223372036854775807 := by have := hm; simp only [maxLen] at this; omega
      refine ⟨(List.range len).map f, ⟨some a, cap, by rw [hlen], by rw [hlen]; exact hl, by rw [hlen], by rw [hlen]; exact hml, fun _ => ⟨a, rfl, fun j p hp => ?_⟩⟩, by rw [hlen]; omega, fun x hx => ?_⟩
      · rw [List.getElem?_map] at hp
        obtain ⟨j', hj', rfl⟩ := Option.map_eq_some_iff.1 hp
        obtain ⟨hlt, rfl⟩ := List.getElem?_eq_some_iff.1 hj'
        simp only [List.getElem_range] at *
        exact (hf2 j (by simpa using hlt)).1
      · obtain ⟨j, hj, rfl⟩ := List.mem_map.1 hx
        exact (hf2 j (List.mem_range.1 hj)).2
/-- The fields from the offset 'o' on. -/
def FitsF {α : Type} (P : Program) (fs : List Field) (o : Nat) (K : Kd α) (W : α → Prop) : Prop :=
  ∀ (H : Type) (enc : TypeId × Value → H) (w : World) (base : Nat) (spare : Nat → Bool) (held : Bool) (n : Nat) (cs : List Value), cs.length = o + K.sz →
    (∀ (i : Nat) (f : Field), fs[i]? = some f → ∃ x, DataW.trod enc P w base spare held n f.type ((cs.drop f.offset).take (P.cellsOf f.type)) = some x) → ∃ a : α, K.K w a (cs.drop o) ∧ W a
theorem fitsF_last {α : Type} {P : Program} {f : Field} {o : Nat} {K : Kd α} {W : α → Prop} (ho : f.offset = o) (hc : P.cellsOf f.type = K.sz) (hf : Fits P f.type K W) : FitsF P [f] o K W := by
  intro H enc w base spare held n cs hl h
  obtain ⟨x, hx⟩ := h 0 f rfl
  rw [ho, hc, List.take_of_length_le (by rw [List.length_drop]; omega)] at hx
  exact hf H enc w base spare held n _ x hx
theorem fitsF_cons {α β : Type} {P : Program} {f : Field} {fs : List Field} {o o2 : Nat} {K : Kd α} {L : Kd β} {W : α → Prop} {V : β → Prop} (ho : f.offset = o) (ho2 : o + K.sz = o2) (hc : P.cellsOf f.type = K.sz) (hf : Fits P f.type K W) (hr : FitsF P fs o2 L V) :
    FitsF P (f :: fs) o (Kd.pair K L) (Wpair W V) := by
  intro H enc w base spare held n cs hl h
  have hl' : cs.length = o + (K.sz + L.sz) := hl
  obtain ⟨x, hx⟩ := h 0 f rfl
  rw [ho, hc] at hx
  obtain ⟨a, ha, wa⟩ := hf H enc w base spare held n _ x hx
  obtain ⟨b, hb, wb⟩ := hr H enc w base spare held n cs (by omega) (fun i g hg => h (i + 1) g hg)
  refine ⟨(a, b), ⟨(cs.drop o).take K.sz, cs.drop o2, ?_, ha, hb⟩, wa, wb⟩
  rw [← ho2, ← List.drop_drop, List.take_append_drop]
theorem fits_struct {α β : Type} {P : Program} {t : TypeId} {fs : Array Field} {K : Kd α} {W : α → Prop} (f : β → α) (g : α → β) (hg : ∀ a, f (g a) = a) (ht : P.underlying t = some (.struct fs)) (hc : P.cellsOf t = K.sz) (hf : FitsF P fs.toList 0 K W) :
    Fits P t (Kd.iso K f) (Wiso W f) := by
  intro H enc w base spare held fuel cs x h
  obtain ⟨xs, n, _, _, hl, hlen, hh⟩ := DataW.trod_struct ht h
  obtain ⟨a, ha, wa⟩ := hf H enc w base spare held n cs (by rw [hl, hc, Nat.zero_add]) (fun i f' hi => by
    have hi' : fs[i]? = some f' := by simpa using hi
    have hlt : i < xs.length := by
      have := (Array.getElem?_eq_some_iff.1 hi').1
      omega
    exact ⟨xs[i], by rw [hh i f' hi', List.getElem?_eq_getElem hlt]⟩)
  refine ⟨g a, ?_, ?_⟩
  · show K.K w (f (g a)) cs
    rw [hg]
    simpa using ha
  · show W (f (g a))
    rw [hg]
    exact wa
/-- A slice that comes in. -/
theorem in_slice {α H : Type} {enc : TypeId × Value → H} {P : Program} {t e : TypeId} {d : Kd α} {W : α → Prop} {w : World} {base : Nat} {spare : Nat → Bool} {held : Bool} {r : Reach} {b0 : Nat} {v : Value} {x : DataW H} {p : List MemPlace} (hf : Fits P t (Kd.slice e d) (Wsl W)) (ht : P.underlying t = some (.slice e)) (hv : Value.okWide P w r b0 t v) (h : DataW.Trod enc P w base spare held t v x p) :
    ∃ (A : Option Addr) (c : Nat) (l : List α), v = .slice A l.length c ∧ l.length ≤ c ∧ d.C w A l.length l ∧ Wsl W l := by
  obtain ⟨a, len, cap, rfl⟩ := okWide_slice ht hv
  obtain ⟨fuel, hh⟩ := h
  obtain ⟨l, ⟨A, c, he, hl, hC⟩, hW⟩ := hf H enc w base spare held fuel _ _ hh
  simp [Value.cells] at he
  obtain ⟨rfl, rfl, rfl⟩ := he
  exact ⟨a, cap, l, rfl, hl, hC, hW⟩
/-- A struct that comes in. -/
theorem in_struct {α H : Type} {enc : TypeId × Value → H} {P : Program} {t : TypeId} {fs : Array Field} {d : Kd α} {W : α → Prop} {w : World} {base : Nat} {spare : Nat → Bool} {held : Bool} {r : Reach} {b0 : Nat} {v : Value} {x : DataW H} {p : List MemPlace} (hf : Fits P t d W) (ht : P.underlying t = some (.struct fs)) (hv : Value.okWide P w r b0 t v) (h : DataW.Trod enc P w base spare held t v x p) :
    ∃ (a : α) (cs : List Value), v = .agg cs.toArray ∧ d.K w a cs ∧ W a := by
  obtain ⟨cs, rfl, _⟩ := okWide_struct ht hv
  obtain ⟨fuel, hh⟩ := h
  obtain ⟨a, hK, hW⟩ := hf H enc w base spare held fuel _ _ hh
  exact ⟨a, cs.toList, by simp, by simpa [Value.cells] using hK, hW⟩
end Go.Proofs.Ytidegbeadeoaeaa.Fit
