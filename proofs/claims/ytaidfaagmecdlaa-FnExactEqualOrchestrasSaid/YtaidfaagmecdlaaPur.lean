/- Tools for what the equations come to. No condition. -/
import Derived.Test.YtaidfaagmecdlaaFitF
set_option linter.unusedVariables false
set_option linter.unusedSimpArgs false
namespace Go.Flat
variable {α β : Type}

/-- With rounds enough it is 'v'. -/
def Ev (f : Nat → Option α) (v : α) : Prop := ∃ K, ∀ k, K ≤ k → f k = some v
/-- The same of a loop, whose rounds are counted apart. -/
def E2 (f : Nat → Nat → Option α) (v : α) : Prop := ∃ K M, ∀ k m, K ≤ k → M ≤ m → f k m = some v

theorem Ev.ret {v : α} : Ev (fun _ => some v) v := ⟨0, fun _ _ => rfl⟩
theorem Ev.eq {F f : Nat → Option α} {v : α} (h : ∀ k, F (k + 1) = f k) (e : Ev f v) : Ev F v := by
  obtain ⟨K, e⟩ := e
  refine ⟨K + 1, fun k hk => ?_⟩
  obtain ⟨j, rfl⟩ : ∃ j, k = j + 1 := ⟨k - 1, by omega⟩
  rw [h]
  exact e j (by omega)
theorem Ev.bind {f : Nat → Option α} {g : Nat → α → Option β} {a : α} {v : β} (h : Ev f a) (e : Ev (fun k => g k a) v) : Ev (fun k => (f k).bind fun x => g k x) v := by
  obtain ⟨K, h⟩ := h
  obtain ⟨M, e⟩ := e
  refine ⟨max K M, fun k hk => ?_⟩
  show (f k).bind _ = _
  rw [h k (by omega)]
  exact e k (by omega)
theorem Ev.pos {p : Prop} [d : Decidable p] {f g : Nat → Option α} {v : α} (h : p) (e : Ev f v) : Ev (fun k => if p then f k else g k) v := by
  obtain ⟨K, e⟩ := e
  exact ⟨K, fun k hk => by show (if p then f k else g k) = _; rw [if_pos h]; exact e k hk⟩
theorem Ev.neg {p : Prop} [d : Decidable p] {f g : Nat → Option α} {v : α} (h : ¬ p) (e : Ev g v) : Ev (fun k => if p then f k else g k) v := by
  obtain ⟨K, e⟩ := e
  exact ⟨K, fun k hk => by show (if p then f k else g k) = _; rw [if_neg h]; exact e k hk⟩
theorem Ev.at {f : Nat → Option α} {v : α} (e : Ev f v) : ∃ k, f k = some v := let ⟨K, h⟩ := e; ⟨K, h K (Nat.le_refl _)⟩
theorem Ev.val {f : Nat → Option α} {v u : α} (e : Ev f v) (h : v = u) : Ev f u := h ▸ e

theorem E2.ret {v : α} : E2 (fun _ _ => some v) v := ⟨0, 0, fun _ _ _ _ => rfl⟩
theorem E2.eq {F f : Nat → Nat → Option α} {v : α} (h : ∀ k m, F k (m + 1) = f k m) (e : E2 f v) : E2 F v := by
  obtain ⟨K, M, e⟩ := e
  refine ⟨K, M + 1, fun k m hk hm => ?_⟩
  obtain ⟨j, rfl⟩ : ∃ j, m = j + 1 := ⟨m - 1, by omega⟩
  rw [h]
  exact e k j hk (by omega)
theorem E2.bind {f : Nat → Option α} {g : Nat → Nat → α → Option β} {a : α} {v : β} (h : Ev f a) (e : E2 (fun k m => g k m a) v) : E2 (fun k m => (f k).bind fun x => g k m x) v := by
  obtain ⟨K, h⟩ := h
  obtain ⟨N, M, e⟩ := e
  refine ⟨max K N, M, fun k m hk hm => ?_⟩
  show (f k).bind _ = _
  rw [h k (by omega)]
  exact e k m (by omega) hm
theorem E2.pos {p : Prop} [d : Decidable p] {f g : Nat → Nat → Option α} {v : α} (h : p) (e : E2 f v) : E2 (fun k m => if p then f k m else g k m) v := by
  obtain ⟨K, M, e⟩ := e
  exact ⟨K, M, fun k m hk hm => by show (if p then f k m else g k m) = _; rw [if_pos h]; exact e k m hk hm⟩
theorem E2.neg {p : Prop} [d : Decidable p] {f g : Nat → Nat → Option α} {v : α} (h : ¬ p) (e : E2 g v) : E2 (fun k m => if p then f k m else g k m) v := by
  obtain ⟨K, M, e⟩ := e
  exact ⟨K, M, fun k m hk hm => by show (if p then f k m else g k m) = _; rw [if_neg h]; exact e k m hk hm⟩
theorem E2.of {f : Nat → Option α} {v : α} (e : Ev f v) : E2 (fun k _ => f k) v := let ⟨K, h⟩ := e; ⟨K, 0, fun k _ hk _ => h k hk⟩
theorem Ev.loop {f : Nat → Nat → Option α} {v : α} (e : E2 f v) : Ev (fun k => f k k) v := by
  obtain ⟨K, M, e⟩ := e
  exact ⟨max K M, fun k hk => e k k (by omega) (by omega)⟩
theorem E2.val {f : Nat → Nat → Option α} {v u : α} (e : E2 f v) (h : v = u) : E2 f u := h ▸ e

/-! ### Numbers and elements -/
theorem wrapI {n : Int} (h1 : -9223372036854775808 ≤ n) (h2 : n ≤ 9223372036854775807) : IntKind.wrap .i64 n = n := by
  unfold IntKind.wrap
  simp only [IntKind.signed, IntKind.bits]
  simp
  omega
theorem wrapS {i : Nat} (h : i < 9223372036854775807) : IntKind.wrap .i64 ((i : Int) + 1) = ((i + 1 : Nat) : Int) := by
  rw [wrapI (by omega) (by omega)]; omega
theorem rd_at {t : Ty} {l : List t.den} {i : Nat} (h : i < l.length) : rd t l (i : Int) = l[i] := by
  unfold rd
  rw [Int.toNat_natCast, List.getD_eq_getElem?_getD, List.getElem?_eq_getElem h]
  rfl

/-- A loop that stops at the first that fails. -/
theorem loop_all {F : Int → Nat → Nat → Option Bool} {n : Nat} (Q : Nat → Prop) (hend : E2 (F (n : Int)) true)
    (hgo : ∀ i, i < n → Q i → ∀ v, E2 (F ((i + 1 : Nat) : Int)) v → E2 (F (i : Int)) v) (hstop : ∀ i, i < n → ¬ Q i → E2 (F (i : Int)) false) :
    ∃ r, E2 (F 0) r ∧ (r = true ↔ ∀ i, i < n → Q i) := by
  have key : ∀ d i, i + d = n → ∃ r, E2 (F (i : Int)) r ∧ (r = true ↔ ∀ j, i ≤ j → j < n → Q j) := by
    intro d
    induction d with
    | zero =>
      intro i hi
      have hi : i = n := by omega
      subst hi
      exact ⟨true, hend, by simp; omega⟩
    | succ d ih =>
      intro i hi
      obtain ⟨r, er, hr⟩ := ih (i + 1) (by omega)
      by_cases hq : Q i
      · refine ⟨r, hgo i (by omega) hq r er, hr.trans ⟨fun h j h1 h2 => ?_, fun h j h1 h2 => h j (by omega) h2⟩⟩
        by_cases hj : j = i
        · subst hj; exact hq
        · exact h j (by omega) h2
      · exact ⟨false, hstop i (by omega) hq, by simp; exact ⟨i, Nat.le_refl _, by omega, hq⟩⟩
  obtain ⟨r, er, hr⟩ := key n 0 (by omega)
  exact ⟨r, er, hr.trans ⟨fun h i hi => h i (Nat.zero_le _) hi, fun h i _ hi => h i hi⟩⟩

theorem list_eq_iff {t : Ty} {x y : List t.den} (h : x.length = y.length) : (∀ i, i < x.length → rd t x (i : Int) = rd t y (i : Int)) ↔ x = y := by
  constructor
  · intro hx
    refine List.ext_getElem h fun i h1 h2 => ?_
    have := hx i h1
    rwa [rd_at h1, rd_at h2] at this
  · rintro rfl i _; rfl

/-- A loop that fills a row with what each element gives. -/
theorem loop_map {t u : Ty} {F : Int → List u.den → Nat → Nat → Option (List u.den)} {x : List t.den} (g : t.den → u.den)
    (hend : ∀ y : List u.den, E2 (F (x.length : Int) y) y) (hgo : ∀ (i : Nat) (y : List u.den), i < x.length → y.length = x.length → ∀ v, E2 (F ((i + 1 : Nat) : Int) (y.set i (g (rd t x (i : Int))))) v → E2 (F (i : Int) y) v)
    (y0 : List u.den) (hy : y0.length = x.length) : E2 (F 0 y0) (x.map g) := by
  have key : ∀ d i (y : List u.den), i + d = x.length → y.length = x.length → y.take i = (x.map g).take i → E2 (F (i : Int) y) (x.map g) := by
    intro d
    induction d with
    | zero =>
      intro i y hi hl ht
      have hi : i = x.length := by omega
      subst hi
      rw [List.take_of_length_le (by omega), List.take_of_length_le (by simp)] at ht
      rw [← ht]
      exact hend y
    | succ d ih =>
      intro i y hi hl ht
      have hi' : i < x.length := by omega
      refine hgo i y hi' hl _ (ih (i + 1) _ (by omega) (by simpa using hl) ?_)
      rw [List.take_succ_eq_append_getElem (by simp; omega), List.take_succ_eq_append_getElem (by simp; omega), List.take_set_of_le (Nat.le_refl _), ht]
      simp [rd_at hi']
  exact key x.length 0 y0 (by omega) hy (by simp)

end Go.Flat
