/- slices.Insert of one element, slices.Delete: rows of structs without rows, by the walks. No condition. -/
import Derived.Test.YtpllllapbjkkbaaPrim
set_option linter.unusedVariables false
set_option linter.unusedSimpArgs false
namespace Go.Flat
open Go.RowKit

/-- The cells of a value without rows. -/
def cv : (t : Ty) → t.den → List Value
  | .bool, b => [.bool b]
  | .int k, n => [.int k n]
  | .str, s => [.string s]
  | .pair a b, x => cv a x.1 ++ cv b x.2
  | .unit, _ => []
  | .list _, _ => []
  | .dlist _, _ => []
theorem rd_cv {G : Nat → Prop} {h : Array Obj} : ∀ {t : Ty} {F : Nat → Prop} {x : t.den} {es : List Value}, t.plain = true → (Rd G h t F x es ↔ es = cv t x)
  | .bool, _, _, _, _ => Iff.rfl
  | .int _, _, _, _, _ => Iff.rfl
  | .str, _, _, _, _ => Iff.rfl
  | .unit, _, _, _, _ => Iff.rfl
  | .list _, _, _, _, h => by cases h
  | .dlist _, _, _, _, h => by cases h
  | .pair a b, F, x, es, h => by
    simp only [Ty.plain, Bool.and_eq_true] at h
    constructor
    · rintro ⟨c, d, rfl, h1, h2⟩
      rw [(rd_cv h.1).1 h1, (rd_cv h.2).1 h2]
      rfl
    · rintro rfl
      exact ⟨_, _, rfl, (rd_cv h.1).2 rfl, (rd_cv h.2).2 rfl⟩
theorem cv_len {t : Ty} {x : t.den} (h : t.plain = true) : (cv t x).length = t.sz := ((rd_cv (G := fun _ => False) (h := #[]) (F := fun _ => False) h).2 rfl).len
theorem cv_one {t : Ty} {x : t.den} (h : t.plain = true) : ∀ v ∈ cv t x, v.oneCell' = true := fun v hv => by
  rw [one_eq]
  exact ((rd_cv (G := fun _ => False) (h := #[]) (F := fun _ => False) h).2 (rfl : cv t x = cv t x)).one v hv

def rowOf (t : Ty) (l : List t.den) : List Value := l.flatMap (cv t)
theorem rowOf_len {t : Ty} (h : t.plain = true) : ∀ l : List t.den, (rowOf t l).length = l.length * t.sz
  | [] => by simp [rowOf]
  | x :: l => by
    have := rowOf_len h l
    simp only [rowOf, List.flatMap_cons, List.length_append, List.length_cons, cv_len h, Nat.add_mul, Nat.one_mul] at this ⊢
    omega
theorem rowOf_one {t : Ty} (h : t.plain = true) {l : List t.den} : ∀ v ∈ rowOf t l, v.oneCell' = true := fun v hv => by
  obtain ⟨x, _, hx⟩ := List.mem_flatMap.1 hv
  exact cv_one h v hx
theorem rowOf_app {t : Ty} (a b : List t.den) : rowOf t (a ++ b) = rowOf t a ++ rowOf t b := by simp [rowOf]
theorem rowOf_take {t : Ty} (h : t.plain = true) (l : List t.den) (i : Nat) : rowOf t (l.take i) = (rowOf t l).take (i * t.sz) := by
  have e : rowOf t l = rowOf t (l.take i) ++ rowOf t (l.drop i) := by rw [← rowOf_app, List.take_append_drop]
  by_cases hi : i ≤ l.length
  · rw [e, List.take_left' (by rw [rowOf_len h, List.length_take, Nat.min_eq_left hi])]
  · have hi : l.length ≤ i := by omega
    rw [List.take_of_length_le hi, List.take_of_length_le]
    rw [rowOf_len h]
    exact Nat.mul_le_mul_right _ hi
theorem rowOf_drop {t : Ty} (h : t.plain = true) (l : List t.den) (i : Nat) : rowOf t (l.drop i) = (rowOf t l).drop (i * t.sz) := by
  have e : rowOf t l = rowOf t (l.take i) ++ rowOf t (l.drop i) := by rw [← rowOf_app, List.take_append_drop]
  by_cases hi : i ≤ l.length
  · rw [e, List.drop_left' (by rw [rowOf_len h, List.length_take, Nat.min_eq_left hi])]
  · have hi : l.length ≤ i := by omega
    rw [List.drop_eq_nil_of_le hi, List.drop_eq_nil_of_le]
    · rfl
    · rw [rowOf_len h]
      exact Nat.mul_le_mul_right _ hi

/-- A row of such things by its cells alone. -/
theorem rowF_cells {G : Nat → Prop} {h : Array Obj} {t : Ty} (hp : t.plain = true) {c : Nat → Option Value} : ∀ (l : List t.den) (o : Nat),
    (∀ (i : Nat) x, l[i]? = some x → ∃ es, Rd G h t G x es ∧ ∀ (j : Nat) v, es[j]? = some v → c (o + i * t.sz + j) = some v) ↔ ∀ (j : Nat) v, (rowOf t l)[j]? = some v → c (o + j) = some v
  | [], o => by simp [rowOf]
  | x :: l, o => by
    have ih := rowF_cells (G := G) (h := h) hp (c := c) l (o + t.sz)
    have hl := cv_len (x := x) hp
    constructor
    · intro H j v hj
      have hj : (cv t x ++ rowOf t l)[j]? = some v := hj
      by_cases hlt : j < t.sz
      · rw [List.getElem?_append_left (by omega)] at hj
        obtain ⟨es, h1, h2⟩ := H 0 x rfl
        rw [(rd_cv hp).1 h1] at h2
        have := h2 j v hj
        rwa [show o + 0 * t.sz + j = o + j by omega] at this
      · rw [List.getElem?_append_right (by omega), hl] at hj
        have := ih.1 (fun i y hy => by
          obtain ⟨es, h1, h2⟩ := H (i + 1) y (by simpa using hy)
          exact ⟨es, h1, fun k u hk => by have := h2 k u hk; rwa [show o + (i + 1) * t.sz + k = o + t.sz + i * t.sz + k by rw [Nat.add_mul, Nat.one_mul]; omega] at this⟩) (j - t.sz) v hj
        rwa [show o + t.sz + (j - t.sz) = o + j by omega] at this
    · intro H i y hy
      refine ⟨cv t y, (rd_cv hp).2 rfl, fun k u hk => ?_⟩
      cases i with
      | zero =>
        simp at hy
        subst hy
        have hlt : k < (cv t x).length := (List.getElem?_eq_some_iff.1 hk).1
        have := H k u (by show (cv t x ++ rowOf t l)[k]? = some u; rw [List.getElem?_append_left hlt]; exact hk)
        rwa [show o + 0 * t.sz + k = o + k by omega]
      | succ i =>
        obtain ⟨es, h1, h2⟩ := ih.2 (fun j v hj => by
          have := H (t.sz + j) v (by
            show (cv t x ++ rowOf t l)[t.sz + j]? = some v
            rw [List.getElem?_append_right (by omega), hl, Nat.add_sub_cancel_left]
            exact hj)
          rwa [show o + (t.sz + j) = o + t.sz + j by omega] at this) i y (by simpa using hy)
        rw [(rd_cv hp).1 h1] at h2
        have := h2 k u hk
        rwa [show o + t.sz + i * t.sz + k = o + (i + 1) * t.sz + k by rw [Nat.add_mul, Nat.one_mul]; omega] at this

/-- Cells that are set one by one. -/
theorem put_cells {w : World} {b o : Nat} {cur : Array Value} {e : TypeId} {fz : Nat × Nat} {vs : List Value} (hg : w.heap[b]? = some (.cells cur e fz)) (hl : o + vs.length ≤ cur.size) :
    ∃ cur' : Array Value, (w.setCells b o vs).heap[b]? = some (.cells cur' e fz) ∧ cur'.size = cur.size ∧ (∀ (j : Nat) v, vs[j]? = some v → cur'[o + j]? = some v) ∧ (∀ k : Nat, k < o ∨ o + vs.length ≤ k → cur'[k]? = cur[k]?) ∧
      (∀ k, k ≠ b → (w.setCells b o vs).heap[k]? = w.heap[k]?) ∧ (w.setCells b o vs).heap.size = w.heap.size ∧ (w.setCells b o vs).os = w.os ∧ (w.setCells b o vs).tape = w.tape ∧ (w.setCells b o vs).output = w.output ∧ (w.setCells b o vs).drawn = w.drawn := by
  rw [setCells_row b e fz vs o cur w hg hl]
  refine ⟨_, setRow_heap w b cur _ e fz hg, by simp; omega, fun j v hj => ?_, fun k hk => ?_, fun k hk => setRow_other w b k _ hk, setRow_size w b _, rfl, rfl, rfl, rfl⟩
  · have hlt : j < vs.length := (List.getElem?_eq_some_iff.1 hj).1
    simp only [List.getElem?_toArray]
    rw [List.append_assoc, List.getElem?_append_right (by simp; omega), List.getElem?_append_left (by simp; omega)]
    rw [← hj]
    congr 1
    simp
    omega
  · simp only [List.getElem?_toArray]
    rcases hk with hk | hk
    · rw [List.append_assoc, List.getElem?_append_left (by simp; omega), List.getElem?_take, if_pos hk]
      simp
    · rw [List.getElem?_append_right (by simp; omega), List.getElem?_drop]
      simp
      congr 1
      omega

/-- What is owed where one row comes back. -/
theorem row_post {C : Cfg} {f : FuncId} {fn : Func} {T : Ty} (hT : T.plain = true) (ho : (C.sig f).own = true) (hr : fn.resultTypes.size = 1) {A G : Nat → Prop} {w w' : World} {l : List T.den} {v : Value} {p : Pl} {c : Array Value} {e : TypeId} {fz : Nat × Nat} {e0 : Ending}
    (he : e0 = .returned v) (hin : p.inn = []) (hh : w'.heap[p.b]? = some (.cells c e fz)) (hfz : Free fz c.size) (hsz : c.size = p.size) (hroom : p.o + l.length * T.sz ≤ p.size) (hrow : ∀ (k : Nat) u, (rowOf T l)[k]? = some u → c[p.o + k]? = some u)
    (hv : SliceAt T.sz (some p) 0 l.length v) (hnA : ¬ A p.b) (hGA : ∀ b, G b → A b) (hsame : ∀ b, A b → w'.heap[b]? = w.heap[b]?) (hsize : w.heap.size ≤ w'.heap.size) (hstr : Str C.mono w w') :
    ∃ v G' ps, e0 = .returned v ∧ w.heap.size ≤ w'.heap.size ∧ Str C.mono w w' ∧ (∀ b, A b → w'.heap[b]? = w.heap[b]?) ∧ (∀ b, G b → G' b) ∧ (∀ b, G' b → G b ∨ (¬ A b ∧ b < w'.heap.size)) ∧
        ResIs (C.sig f).own (Nat.beq fn.resultTypes.size 1) (.list T) G' w'.heap l v ps ∧ (∀ b ∈ blks ps, ¬ A b ∧ ¬ G' b ∧ b < w'.heap.size) ∧ (blks ps).Nodup := by
  have hb : ∀ b ∈ blks [some p], b = p.b := fun b hb => by simpa [blks, Pl.bs, Pl.ibs, hin] using hb
  refine ⟨v, G, [some p], he, hsize, hstr, hsame, fun _ h => h, fun _ h => .inl h, ⟨[v], ?_, ?_⟩, fun b hbb => ?_, by simp [blks, Pl.bs, Pl.ibs, hin]⟩
  · rw [ho]
    simp only [OwnRd, if_true]
    exact ⟨v, some p, rfl, rfl, hv, ⟨c, e, fz, hh, hfz, hsz, hroom, (rowF_cells hT (c := fun k => c[k]?) l p.o).2 hrow⟩, fun q hq => by cases hq; exact hin⟩
  · rw [hr]
    show (if Nat.beq 1 1 = true then ValIs false [v] v else _)
    rw [if_pos (show Nat.beq 1 1 = true from rfl)]
    rfl
  · rw [hb b hbb]
    exact ⟨hnA, fun h => hnA (hGA _ h), (Array.getElem?_eq_some_iff.1 hh).1⟩

def primInsert (T : Ty) (B : Nat) : (t : Ty) → List Arg → Option t.den
  | .list u, [.give (.list a) l, .val (.int .i64) i, .val (.list b) vs] => if h : u = T ∧ a = T ∧ b = T then (if 0 ≤ i ∧ i ≤ (l.length : Int) ∧ vs.length = 1 ∧ (l.length + 1) * B ≤ 140737488355328 then some (h.1 ▸ ((h.2.1 ▸ l : List T.den).take i.toNat ++ (h.2.2 ▸ vs) ++ (h.2.1 ▸ l : List T.den).drop i.toNat)) else none) else none
  | _, _ => none
def primDelete (T : Ty) : (t : Ty) → List Arg → Option t.den
  | .list u, [.give (.list a) l, .val (.int .i64) i, .val (.int .i64) j] => if h : u = T ∧ a = T then (if 0 ≤ i ∧ i < j ∧ j ≤ (l.length : Int) ∧ l.length ≤ 4611686018427387904 then some (h.1 ▸ ((h.2 ▸ l : List T.den).take i.toNat ++ (h.2 ▸ l : List T.den).drop j.toNat)) else none) else none
  | _, _ => none

theorem primInsert_eq {T : Ty} {B : Nat} {l : List T.den} {i : Int} {x : T.den} (h0 : 0 ≤ i) (h1 : i ≤ (l.length : Int)) (h2 : (l.length + 1) * B ≤ 140737488355328) :
    primInsert T B (.list T) [.give (.list T) l, .val (.int .i64) i, .val (.list T) [x]] = some (l.take i.toNat ++ [x] ++ l.drop i.toNat) := by
  simp [primInsert, h0, h1, h2]
theorem primDelete_eq {T : Ty} {l : List T.den} {i j : Int} (h0 : 0 ≤ i) (h1 : i < j) (h2 : j ≤ (l.length : Int)) (h3 : l.length ≤ 4611686018427387904) :
    primDelete T (.list T) [.give (.list T) l, .val (.int .i64) i, .val (.int .i64) j] = some (l.take i.toNat ++ l.drop j.toNat) := by
  simp [primDelete, h0, h1, h2, h3]

theorem primInsert_spec {T : Ty} {B : Nat} {t : Ty} {args : List Arg} {r : t.den} (h : primInsert T B t args = some r) :
    ∃ (l : List T.den) (i : Nat) (x : T.den), args = [.give (.list T) l, .val (.int .i64) i, .val (.list T) [x]] ∧ i ≤ l.length ∧ (l.length + 1) * B ≤ 140737488355328 ∧ ∃ e : Ty.list T = t, (e ▸ (l.take i ++ [x] ++ l.drop i : (Ty.list T).den)) = r := by
  unfold primInsert at h
  split at h
  · rename_i u a l i b vs
    split at h
    · rename_i hh
      obtain ⟨rfl, rfl, rfl⟩ := hh
      split at h
      · rename_i hc
        obtain ⟨x, rfl⟩ := List.length_eq_one_iff.1 hc.2.2.1
        obtain ⟨n, rfl⟩ := Int.eq_ofNat_of_zero_le hc.1
        exact ⟨l, n, x, rfl, Int.ofNat_le.1 hc.2.1, hc.2.2.2, rfl, by simpa using h⟩
      · cases h
    · cases h
  · cases h
theorem primDelete_spec {T : Ty} {t : Ty} {args : List Arg} {r : t.den} (h : primDelete T t args = some r) :
    ∃ (l : List T.den) (i j : Nat), args = [.give (.list T) l, .val (.int .i64) i, .val (.int .i64) j] ∧ i < j ∧ j ≤ l.length ∧ l.length ≤ 4611686018427387904 ∧ ∃ e : Ty.list T = t, (e ▸ (l.take i ++ l.drop j : (Ty.list T).den)) = r := by
  unfold primDelete at h
  split at h
  · rename_i u a l i j
    split at h
    · rename_i hh
      obtain ⟨rfl, rfl⟩ := hh
      split at h
      · rename_i hc
        obtain ⟨n, rfl⟩ := Int.eq_ofNat_of_zero_le hc.1
        obtain ⟨m, rfl⟩ := Int.eq_ofNat_of_zero_le (show 0 ≤ j from Int.le_trans hc.1 (Int.le_of_lt hc.2.1))
        exact ⟨l, n, m, rfl, Int.ofNat_lt.1 hc.2.1, Int.ofNat_le.1 hc.2.2.1, hc.2.2.2, rfl, by simpa using h⟩
      · cases h
    · cases h
  · cases h

/-- A row that is given away, at its place. -/
theorem give_row {A G : Nat → Prop} {h : Array Obj} {T : Ty} (hT : T.plain = true) {l : List T.den} {v : Value} (ha : ArgRel A G h (.give (.list T) l) v) :
    (l = [] ∧ v = .slice none 0 0) ∨ ∃ (p : Pl) (a : Addr) (cap : Nat) (c : Array Value) (e : TypeId) (fz : Nat × Nat), v = .slice (some a) l.length cap ∧ l.length ≤ cap ∧ (0 < cap → a = ⟨p.b, p.o, none⟩) ∧ p.o + cap * T.sz ≤ p.size ∧
      h[p.b]? = some (.cells c e fz) ∧ Free fz c.size ∧ c.size = p.size ∧ (∀ (j : Nat) u, (rowOf T l)[j]? = some u → c[p.o + j]? = some u) ∧ p.inn = [] ∧ ¬ A p.b := by
  obtain ⟨cs, ps, ho, hv, hn, hnd⟩ := ha
  simp only [OwnRd, if_true] at ho
  obtain ⟨u, π, rfl, rfl, hs, hr, hf⟩ := ho
  have hv : [u] = [v] := hv
  obtain rfl : u = v := by simpa using hv
  cases π with
  | none => exact .inl ⟨hr, by rw [hs.2]⟩
  | some p =>
    obtain ⟨a, cap, h1, h2, h3, h4⟩ := hs
    obtain ⟨c, e, fz, k1, k2, k3, k4, k5⟩ := hr
    refine .inr ⟨p, a, cap, c, e, fz, h1, h2, fun hc => by rw [h3 hc]; simp, by simpa using h4, k1, k2, k3, (rowF_cells hT (c := fun k => c[k]?) l p.o).1 k5, hf p rfl, (hn p.b (by simp [blks, Pl.bs])).1⟩

section
variable {C : Cfg} {f : FuncId} {fn : Func}

theorem hcell_of {h : Array Obj} {b : Nat} {c : Array Value} {e : TypeId} {fz : Nat × Nat} (hh : h[b]? = some (.cells c e fz)) (k : Nat) : hcell h b k = c[k]? := by unfold hcell; rw [hh]
theorem not_frozen {w : World} {b : Nat} {c : Array Value} {e : TypeId} {fz : Nat × Nat} (hh : w.heap[b]? = some (.cells c e fz)) (hf : Free fz c.size) {k : Nat} (hk : k ≤ c.size) : w.frozen? ⟨b, k, none⟩ = false := by
  have h := hf k hk
  unfold World.frozen?
  rw [hh]
  simp
  intro h1
  exact Nat.le_of_not_lt fun h2 => h ⟨h1, h2⟩

theorem insert_ok {T : Ty} (S B : Nat) (Z : Value) (hS : T.sz = S) (hS0 : 0 < S) (hB : 0 < B) (hT : T.plain = true) (hZ : (Value.cells Z).size = S) (ho : (C.sig f).own = true) (hf : C.P.funcs[f]? = some fn) (hb : fn.body.isSome = true) (hr : fn.resultTypes.size = 1)
    (h1 : ∀ (b off n c i vb voff vc : Nat) (cs vs : List Value) (w : World), i < n → n + 1 ≤ c → n + 1 ≤ 4611686018427387904 → vb ≠ b → cs.length = n * S → vs.length = S →
      (∀ j v, cs[j]? = some v → w.cell? ⟨b, off + j, none⟩ = some v) → (∀ j, j < (n + 1) * S → (w.cell? ⟨b, off + j, none⟩).isSome = true) → (∀ j, j < (n + 1) * S → w.frozen? ⟨b, off + j, none⟩ = false) →
      (∀ j v, vs[j]? = some v → w.cell? ⟨vb, voff + j, none⟩ = some v) → (∀ v ∈ cs, v.oneCell' = true) → (∀ v ∈ vs, v.oneCell' = true) →
      ∀ (tA tB : TypeId) (kA kB : Nat), w.shape? vb = some (tA, kA) → w.shape? b = some (tB, kB) → kA ≠ 0 → kB ≠ 0 → w.frozen? ⟨b, kB, none⟩ = false →
      Calls C.P f #[.slice (some ⟨b, off, none⟩) n c, .int .i64 i, .slice (some ⟨vb, voff, none⟩) 1 vc] w fun e w' =>
        e = .returned (.slice (some ⟨b, off, none⟩) (n + 1) c) ∧ w' = (w.drew.setCells b (off + (i + 1) * S) (cs.drop (i * S))).setCells b (off + i * S) vs)
    (h2 : ∀ (b off n c vb voff vc : Nat) (vs : List Value) (w : World), n + 1 ≤ c → n + 1 ≤ 4611686018427387904 → vs.length = S → (∀ j, j < S → (w.cell? ⟨b, off + n * S + j, none⟩).isSome = true) → (∀ j, j < S → w.frozen? ⟨b, off + n * S + j, none⟩ = false) →
      (∀ j v, vs[j]? = some v → w.cell? ⟨vb, voff + j, none⟩ = some v) → (∀ v ∈ vs, v.oneCell' = true) →
      Calls C.P f #[.slice (some ⟨b, off, none⟩) n c, .int .i64 n, .slice (some ⟨vb, voff, none⟩) 1 vc] w fun e w' =>
        e = .returned (.slice (some ⟨b, off, none⟩) (n + 1) c) ∧ w' = w.setCells b (off + n * S) vs)
    (h3 : ∀ (base : Option Addr) (n c vb voff vc : Nat) (cs vs : List Value) (w : World), n ≤ c → c < n + 1 → (n + 1) * B ≤ 140737488355328 → cs.length = n * S → vs.length = S → (base = none → n = 0) →
      (∀ a, base = some a → ∀ j v, cs[j]? = some v → w.cell? (a.add j) = some v) → (∀ j v, vs[j]? = some v → w.cell? ⟨vb, voff + j, none⟩ = some v) → (∀ v ∈ vs, v.oneCell' = true) →
      Calls C.P f #[.slice base n c, .int .i64 n, .slice (some ⟨vb, voff, none⟩) 1 vc] w fun e w' =>
        ∃ m z t, n + 1 ≤ m ∧ e = .returned (.slice (some ⟨w.heap.size, 0, none⟩) (n + 1) m) ∧ Value.cells z = Value.cells Z ∧ w' = w.drew.alloc (.cells ((cs ++ vs).toArray ++ Builtin.zeroCells (Value.cells z) (m - (n + 1))) t))
    (h4 : ∀ (b off n c i vb voff vc : Nat) (cs vs : List Value) (w : World), i < n → n ≤ c → c < n + 1 → (n + 1) * B ≤ 140737488355328 → cs.length = n * S → vs.length = S →
      (∀ j v, cs[j]? = some v → w.cell? ⟨b, off + j, none⟩ = some v) → (∀ j v, vs[j]? = some v → w.cell? ⟨vb, voff + j, none⟩ = some v) → (∀ v ∈ cs, v.oneCell' = true) → (∀ v ∈ vs, v.oneCell' = true) →
      Calls C.P f #[.slice (some ⟨b, off, none⟩) n c, .int .i64 i, .slice (some ⟨vb, voff, none⟩) 1 vc] w fun e w' =>
        ∃ m z t, n + 1 ≤ m ∧ e = .returned (.slice (some ⟨w.heap.size, 0, none⟩) (n + 1) m) ∧ Value.cells z = Value.cells Z ∧
        w' = (((w.alloc (.cells ((cs.take (i * S)).toArray ++ Builtin.zeroCells (Value.cells z) (n + 1 - i) ++ Builtin.zeroCells (Value.cells z) (m - (n + 1))) t)).drew.setCells w.heap.size (i * S) vs).drew).setCells w.heap.size ((i + 1) * S) (cs.drop (i * S))) :
    CallsOk C fun g t args => if g = f then primInsert T B t args else none := by
  refine prim_ok hf hb (fun t args r U x h => by obtain ⟨l, i, x, rfl, _⟩ := primInsert_spec h; simp) fun t args r hp w A G vals hA hGA htab hargs => ?_
  obtain ⟨l, i, x, rfl, hil, hbig, rfl, rfl⟩ := primInsert_spec hp
  obtain ⟨hlen, har⟩ := hargs
  match vals, hlen with
  | [v0, v1, v2], _ =>
  have a0 := har 0 _ v0 rfl rfl
  have a1 := arg_int (har 1 _ v1 rfl rfl)
  obtain ⟨es, hes, hv2⟩ := har 2 _ v2 rfl rfl
  obtain ⟨av, cv', rfl, _, hvv⟩ := hes
  have hv2 : [_] = [v2] := hv2
  simp only [List.cons.injEq, and_true] at hv2
  subst hv2
  subst a1
  obtain ⟨vb, vo, rfl, hvA, hvx⟩ := hvv (by simp)
  obtain ⟨ex, hex, hcx⟩ := hvx 0 x rfl
  have hex := (rd_cv hT).1 hex
  subst hex
  have hvs : ∀ (j : Nat) u, (cv T x)[j]? = some u → w.cell? ⟨vb, vo + j, none⟩ = some u := fun j u hj => by
    rw [cell_eq]
    have := hcx j u hj
    rwa [show vo + 0 * T.sz + j = vo + j by omega] at this
  have hvl : (cv T x).length = S := by rw [cv_len hT, hS]
  have hcl : (rowOf T l).length = l.length * S := by rw [rowOf_len hT, hS]
  have hn1 : l.length + 1 ≤ 4611686018427387904 := by
    have : l.length + 1 ≤ (l.length + 1) * B := Nat.le_mul_of_pos_right _ hB
    omega
  have hfin : rowOf T (l.take i ++ [x] ++ l.drop i) = (rowOf T l).take (i * S) ++ cv T x ++ (rowOf T l).drop (i * S) := by
    rw [rowOf_app, rowOf_app, rowOf_take hT, rowOf_drop hT, hS]
    simp [rowOf]
  have hln : (l.take i ++ [x] ++ l.drop i).length = l.length + 1 := by simp; omega
  have hmulS : i * S ≤ l.length * S := Nat.mul_le_mul_right _ hil
  have hap : ∀ (k : Nat) u, ((rowOf T l).take (i * S) ++ cv T x ++ (rowOf T l).drop (i * S))[k]? = some u → (k < i * S ∧ (rowOf T l)[k]? = some u) ∨ (i * S ≤ k ∧ k < (i + 1) * S ∧ (cv T x)[k - i * S]? = some u) ∨ ((i + 1) * S ≤ k ∧ ((rowOf T l).drop (i * S))[k - (i + 1) * S]? = some u) := by
    intro k u hk
    have hS1 : (i + 1) * S = i * S + S := by rw [Nat.add_mul, Nat.one_mul]
    have htl : ((rowOf T l).take (i * S)).length = i * S := by rw [List.length_take, hcl]; omega
    by_cases c1 : k < i * S
    · rw [List.append_assoc, List.getElem?_append_left (by omega), List.getElem?_take, if_pos c1] at hk
      exact .inl ⟨c1, hk⟩
    · by_cases c2 : k < (i + 1) * S
      · rw [List.append_assoc, List.getElem?_append_right (by omega), List.getElem?_append_left (by omega), htl] at hk
        exact .inr (.inl ⟨by omega, c2, hk⟩)
      · rw [List.getElem?_append_right (by simp only [List.length_append]; omega)] at hk
        simp only [List.length_append, htl, hvl] at hk
        exact .inr (.inr ⟨by omega, by rwa [hS1]⟩)
  have hS1 : (i + 1) * S = i * S + S := by rw [Nat.add_mul, Nat.one_mul]
  have hnS1 : (l.length + 1) * S = l.length * S + S := by rw [Nat.add_mul, Nat.one_mul]
  have hdl : ((rowOf T l).drop (i * S)).length = l.length * S - i * S := by rw [List.length_drop, hcl]
  -- a new row that holds it all
  have fresh : ∀ {e0 : Ending} {w' : World} {m : Nat} {c' : Array Value} {e' : TypeId}, e0 = .returned (.slice (some ⟨w.heap.size, 0, none⟩) (l.length + 1) m) → l.length + 1 ≤ m → w'.heap[w.heap.size]? = some (.cells c' e' (0, 0)) → m * S ≤ c'.size →
      (∀ (k : Nat) u, ((rowOf T l).take (i * S) ++ cv T x ++ (rowOf T l).drop (i * S))[k]? = some u → c'[k]? = some u) → (∀ b, b < w.heap.size → w'.heap[b]? = w.heap[b]?) → w.heap.size ≤ w'.heap.size → Str C.mono w w' →
      ∃ v G' ps, e0 = .returned v ∧ w.heap.size ≤ w'.heap.size ∧ Str C.mono w w' ∧ (∀ b, A b → w'.heap[b]? = w.heap[b]?) ∧ (∀ b, G b → G' b) ∧ (∀ b, G' b → G b ∨ (¬ A b ∧ b < w'.heap.size)) ∧
        ResIs (C.sig f).own (Nat.beq fn.resultTypes.size 1) (.list T) G' w'.heap (l.take i ++ [x] ++ l.drop i) v ps ∧ (∀ b ∈ blks ps, ¬ A b ∧ ¬ G' b ∧ b < w'.heap.size) ∧ (blks ps).Nodup := by
    intro e0 w' m c' e' he hm hh hcs hk hold hsz hstr
    have hmS : (l.length + 1) * S ≤ m * S := Nat.mul_le_mul_right _ hm
    exact row_post (p := ⟨w.heap.size, 0, c'.size, []⟩) hT ho hr he rfl hh (Free.zero _) rfl (by simp only [hln, hS]; omega) (by rw [hfin]; simpa using hk)
      ⟨_, m, by rw [hln], by rw [hln]; exact hm, fun _ => by simp, by simp only [hS, Nat.zero_add]; omega⟩ (fun h => Nat.lt_irrefl _ (hA _ h)) hGA (fun b hb => hold b (hA b hb)) hsz hstr
  rcases give_row hT a0 with ⟨rfl, rfl⟩ | ⟨p, a, cap, c, e, fz, rfl, hcap, haddr, hroom, hh, hfz, hsz, hrow, hinn, hnA⟩
  · have hi : i = 0 := by simpa using hil
    subst hi
    refine (h3 none 0 0 vb vo cv' [] (cv T x) w (by omega) (by omega) (by simpa using hbig) (by simp) hvl (fun _ => rfl) (fun a h => by cases h) hvs (cv_one hT)).mono fun e0 w' hpost => ?_
    obtain ⟨m, z, t, hm, he, hz, rfl⟩ := hpost
    refine fresh (m := m) (c' := (([] ++ cv T x).toArray ++ Builtin.zeroCells (Value.cells z) (m - (0 + 1)))) (e' := t) he hm ?_ ?_ ?_ ?_ ?_ ?_
    · show (w.heap.push _)[w.heap.size]? = _
      rw [Array.getElem?_push, if_pos rfl]
    · have : (Value.cells z).size = S := by rw [hz, hZ]
      simp [Builtin.zeroCells, this, hvl]
      have : m * S = (m - 1) * S + S := by
        obtain ⟨q, rfl⟩ : ∃ q, m = q + 1 := ⟨m - 1, by omega⟩
        rw [Nat.add_sub_cancel, Nat.add_mul, Nat.one_mul]
      omega
    · intro k u hk
      simp [rowOf] at hk
      have hlt := (List.getElem?_eq_some_iff.1 hk).1
      rw [Array.getElem?_append_left (by simpa using hlt)]
      simpa using hk
    · intro b hb
      show (w.heap.push _)[b]? = _
      rw [Array.getElem?_push, if_neg (by omega)]
    · show w.heap.size ≤ (w.heap.push _).size
      simp
    · exact ⟨rfl, rfl, rfl, fun _ => Nat.le_succ _⟩
  have hcellp : ∀ (j : Nat) u, (rowOf T l)[j]? = some u → w.cell? ⟨p.b, p.o + j, none⟩ = some u := fun j u hj => by
    rw [cell_eq, hcell_of hh]
    exact hrow j u hj
  have hvbp : vb ≠ p.b := fun e => hnA (e ▸ hvA)
  by_cases hfit : l.length + 1 ≤ cap
  · have ha := haddr (by omega)
    subst ha
    have hcapS : (l.length + 1) * S ≤ cap * S := Nat.mul_le_mul_right _ hfit
    rw [hS] at hroom
    have same : ∀ {e0 : Ending} {w' : World} {c' : Array Value}, e0 = .returned (.slice (some ⟨p.b, p.o, none⟩) (l.length + 1) cap) → w'.heap[p.b]? = some (.cells c' e fz) → c'.size = c.size →
        (∀ (k : Nat) u, ((rowOf T l).take (i * S) ++ cv T x ++ (rowOf T l).drop (i * S))[k]? = some u → c'[p.o + k]? = some u) → (∀ b, b ≠ p.b → w'.heap[b]? = w.heap[b]?) → w'.heap.size = w.heap.size → Str C.mono w w' →
        ∃ v G' ps, e0 = .returned v ∧ w.heap.size ≤ w'.heap.size ∧ Str C.mono w w' ∧ (∀ b, A b → w'.heap[b]? = w.heap[b]?) ∧ (∀ b, G b → G' b) ∧ (∀ b, G' b → G b ∨ (¬ A b ∧ b < w'.heap.size)) ∧
          ResIs (C.sig f).own (Nat.beq fn.resultTypes.size 1) (.list T) G' w'.heap (l.take i ++ [x] ++ l.drop i) v ps ∧ (∀ b ∈ blks ps, ¬ A b ∧ ¬ G' b ∧ b < w'.heap.size) ∧ (blks ps).Nodup := by
      intro e0 w' c' he hh' hcs hk hold hsz' hstr
      exact row_post (p := p) hT ho hr he hinn hh' (by rw [hcs]; exact hfz) (by rw [hcs]; exact hsz) (by rw [hln, hS]; omega) (by rw [hfin]; exact hk)
        ⟨_, cap, by rw [hln], by rw [hln]; exact hfit, fun _ => by simp, by simp only [hS, Nat.zero_add]; exact hroom⟩ hnA hGA (fun b hb => hold b (fun e => hnA (e ▸ hb))) (by omega) hstr
    have hthere : ∀ k, k < cap * S → (w.cell? ⟨p.b, p.o + k, none⟩).isSome = true := fun k hk => by
      rw [cell_eq, hcell_of hh]
      rw [Array.getElem?_eq_getElem (by omega)]
      rfl
    have hfree : ∀ k, k < cap * S → w.frozen? ⟨p.b, p.o + k, none⟩ = false := fun k hk => not_frozen hh hfz (by omega)
    by_cases hend : i = l.length
    · subst hend
      refine (h2 p.b p.o l.length cap vb vo cv' (cv T x) w hfit hn1 hvl (fun j hj => by rw [Nat.add_assoc]; exact hthere _ (by omega)) (fun j hj => by rw [Nat.add_assoc]; exact hfree _ (by omega)) hvs (cv_one hT)).mono fun e0 w' hpost => ?_
      obtain ⟨he, rfl⟩ := hpost
      obtain ⟨c1, g1, g2, g3, g4, g5, g6, g7, g8, g9, g10⟩ := put_cells (vs := cv T x) (o := p.o + l.length * S) hh (by omega)
      refine same he g1 g2 (fun k u hk => ?_) g5 g6 ⟨g7, g8, g9, fun _ => Nat.le_of_eq g10.symm⟩
      rcases hap k u hk with ⟨c1', h⟩ | ⟨c1', c2', h⟩ | ⟨c1', h⟩
      · rw [g4 _ (.inl (by omega))]
        exact hrow k u h
      · have := g3 _ u h
        rwa [show p.o + l.length * S + (k - l.length * S) = p.o + k by omega] at this
      · rw [List.drop_eq_nil_of_le (by omega)] at h
        simp at h
    · have hlt : i < l.length := by omega
      have hkA : ∃ cA eA fA, w.heap[vb]? = some (.cells cA eA fA) ∧ cA.size ≠ 0 := by
        have h0 : (cv T x)[0]? = some ((cv T x)[0]'(by omega)) := List.getElem?_eq_getElem _
        have := hvs 0 _ h0
        rw [cell_eq] at this
        unfold hcell at this
        cases hq : w.heap[vb]? with
        | none => rw [hq] at this; cases this
        | some ob =>
          rw [hq] at this
          cases ob <;> simp at this
          rename_i cA eA fA
          exact ⟨cA, eA, fA, rfl, fun h0 => by
            have hlt := (Array.getElem?_eq_some_iff.1 this).1
            omega⟩
      obtain ⟨cA, eA, fA, hqA, hcA0⟩ := hkA
      refine (h1 p.b p.o l.length cap i vb vo cv' (rowOf T l) (cv T x) w hlt hfit hn1 hvbp hcl hvl hcellp (fun j hj => hthere _ (by omega)) (fun j hj => hfree _ (by omega)) hvs (rowOf_one hT) (cv_one hT) eA e cA.size c.size
        (by unfold World.shape?; rw [hqA]) (by unfold World.shape?; rw [hh]) hcA0 (by omega) (not_frozen hh hfz (Nat.le_refl _))).mono fun e0 w' hpost => ?_
      obtain ⟨he, rfl⟩ := hpost
      obtain ⟨c1, g1, g2, g3, g4, g5, g6, g7, g8, g9, g10⟩ := put_cells (w := w.drew) (vs := (rowOf T l).drop (i * S)) (o := p.o + (i + 1) * S) hh (by rw [hdl]; omega)
      obtain ⟨c2, k1, k2, k3, k4, k5, k6, k7, k8, k9, k10⟩ := put_cells (vs := cv T x) (o := p.o + i * S) g1 (by omega)
      refine same he k1 (k2.trans g2) (fun k u hk => ?_) (fun b hb => (k5 b hb).trans (g5 b hb)) (k6.trans g6) ⟨k7.trans g7, k8.trans g8, k9.trans g9, fun _ => by rw [k10, g10]; exact Nat.le_succ _⟩
      rcases hap k u hk with ⟨c1', h⟩ | ⟨c1', c2', h⟩ | ⟨c1', h⟩
      · rw [k4 _ (.inl (by omega)), g4 _ (.inl (by omega))]
        exact hrow k u h
      · have := k3 _ u h
        rwa [show p.o + i * S + (k - i * S) = p.o + k by omega] at this
      · rw [k4 _ (.inr (by omega))]
        have := g3 _ u h
        rwa [show p.o + (i + 1) * S + (k - (i + 1) * S) = p.o + k by omega] at this
  · have hceq : cap < l.length + 1 := by omega
    by_cases hend : i = l.length
    · subst hend
      refine (h3 (some a) l.length cap vb vo cv' (rowOf T l) (cv T x) w hcap hceq hbig hcl hvl (fun h => by cases h) (fun a' ha' j u hj => ?_) hvs (cv_one hT)).mono fun e0 w' hpost => ?_
      · cases ha'
        have hlt : j < (rowOf T l).length := (List.getElem?_eq_some_iff.1 hj).1
        have hc0 : 0 < cap := by
          rcases Nat.eq_zero_or_pos cap with h0 | h0
          · have : l.length = 0 := by omega
            rw [hcl, this] at hlt
            omega
          · exact h0
        rw [haddr hc0, Addr.add_lit]
        exact hcellp j u hj
      obtain ⟨m, z, t, hm, he, hz, rfl⟩ := hpost
      have hzs : (Value.cells z).size = S := by rw [hz, hZ]
      refine fresh (m := m) (c' := ((rowOf T l ++ cv T x).toArray ++ Builtin.zeroCells (Value.cells z) (m - (l.length + 1)))) (e' := t) he hm ?_ ?_ ?_ ?_ ?_ ?_
      · show (w.heap.push _)[w.heap.size]? = _
        rw [Array.getElem?_push, if_pos rfl]
      · simp [Builtin.zeroCells, hzs, hvl, hcl]
        have : m * S = (m - (l.length + 1)) * S + (l.length + 1) * S := by rw [← Nat.add_mul]; congr 1; omega
        omega
      · intro k u hk
        rw [List.take_of_length_le (by omega), List.drop_eq_nil_of_le (by omega), List.append_nil] at hk
        have hlt := (List.getElem?_eq_some_iff.1 hk).1
        rw [Array.getElem?_append_left (by simpa using hlt)]
        simpa using hk
      · intro b hb
        show (w.heap.push _)[b]? = _
        rw [Array.getElem?_push, if_neg (by omega)]
      · show w.heap.size ≤ (w.heap.push _).size
        simp
      · exact ⟨rfl, rfl, rfl, fun _ => Nat.le_succ _⟩
    · have hlt : i < l.length := by omega
      have ha := haddr (by omega)
      subst ha
      refine (h4 p.b p.o l.length cap i vb vo cv' (rowOf T l) (cv T x) w hlt hcap hceq hbig hcl hvl hcellp hvs (rowOf_one hT) (cv_one hT)).mono fun e0 w' hpost => ?_
      obtain ⟨m, z, t, hm, he, hz, rfl⟩ := hpost
      have hzs : (Value.cells z).size = S := by rw [hz, hZ]
      generalize hROW : ((rowOf T l).take (i * S)).toArray ++ Builtin.zeroCells (Value.cells z) (l.length + 1 - i) ++ Builtin.zeroCells (Value.cells z) (m - (l.length + 1)) = ROW
      have htl : ((rowOf T l).take (i * S)).length = i * S := by rw [List.length_take, hcl]; omega
      have hRs : ROW.size = m * S := by
        rw [← hROW]
        simp only [Array.size_append, List.size_toArray, htl, Builtin.zeroCells, Array.size_map, Array.size_range, hzs]
        have e1 : i * S + (l.length + 1 - i) * S = (l.length + 1) * S := by rw [← Nat.add_mul]; congr 1; omega
        have e2 : (l.length + 1) * S + (m - (l.length + 1)) * S = m * S := by rw [← Nat.add_mul]; congr 1; omega
        omega
      have hR0 : ∀ k, k < i * S → ROW[k]? = (rowOf T l)[k]? := fun k hk => by
        rw [← hROW, Array.append_assoc, Array.getElem?_append_left (by simp only [List.size_toArray, htl]; exact hk)]
        simp only [List.getElem?_toArray]
        rw [List.getElem?_take, if_pos hk]
      have hmS : (l.length + 1) * S ≤ m * S := Nat.mul_le_mul_right _ hm
      have hw1 : ((w.alloc (.cells ROW t)).drew).heap[w.heap.size]? = some (.cells ROW t (0, 0)) := by
        show (w.heap.push _)[w.heap.size]? = _
        rw [Array.getElem?_push, if_pos rfl]
      obtain ⟨c1, g1, g2, g3, g4, g5, g6, g7, g8, g9, g10⟩ := put_cells (vs := cv T x) (o := i * S) hw1 (by omega)
      have hw2 : ((((w.alloc (.cells ROW t)).drew.setCells w.heap.size (i * S) (cv T x)).drew)).heap[w.heap.size]? = some (.cells c1 t (0, 0)) := g1
      obtain ⟨c2, k1, k2, k3, k4, k5, k6, k7, k8, k9, k10⟩ := put_cells (vs := (rowOf T l).drop (i * S)) (o := (i + 1) * S) hw2 (by rw [hdl]; omega)
      refine fresh (m := m) (c' := c2) (e' := t) he hm k1 (by omega) (fun k u hk => ?_) (fun b hb => ?_) ?_ ⟨k7.trans g7, k8.trans g8, k9.trans g9, fun _ => ?_⟩
      · rcases hap k u hk with ⟨c1', h⟩ | ⟨c1', c2', h⟩ | ⟨c1', h⟩
        · rw [k4 _ (.inl (by omega)), g4 _ (.inl (by omega)), hR0 k c1']
          exact h
        · rw [k4 _ (.inl (by omega))]
          have := g3 _ u h
          rwa [show i * S + (k - i * S) = k by omega] at this
        · have := k3 _ u h
          rwa [show (i + 1) * S + (k - (i + 1) * S) = k by omega] at this
      · refine (k5 b (by omega)).trans ((g5 b (by omega)).trans ?_)
        show (w.heap.push _)[b]? = _
        rw [Array.getElem?_push, if_neg (by omega)]
      · rw [k6]
        show w.heap.size ≤ ((w.alloc (.cells ROW t)).drew.setCells w.heap.size (i * S) (cv T x)).heap.size
        rw [g6]
        show w.heap.size ≤ (w.heap.push _).size
        simp
      · rw [k10]
        show w.drawn ≤ ((w.alloc (.cells ROW t)).drew.setCells w.heap.size (i * S) (cv T x)).drawn + 1
        rw [g10]
        show w.drawn ≤ w.drawn + 1 + 1
        omega

theorem delete_ok {T : Ty} (S : Nat) (Z : Value) (hS : T.sz = S) (hT : T.plain = true) (hZ : (Value.cells Z).size = S) (ho : (C.sig f).own = true) (hf : C.P.funcs[f]? = some fn) (hb : fn.body.isSome = true) (hr : fn.resultTypes.size = 1)
    (h1 : ∀ (b off n c i j : Nat) (cs : List Value) (w : World), i < j → j ≤ n → n ≤ c → n ≤ 4611686018427387904 → cs.length = n * S → (∀ j v, cs[j]? = some v → w.cell? ⟨b, off + j, none⟩ = some v) → (∀ j, j < n * S → w.frozen? ⟨b, off + j, none⟩ = false) → (∀ v ∈ cs, v.oneCell' = true) →
      Calls C.P f #[.slice (some ⟨b, off, none⟩) n c, .int .i64 i, .int .i64 j] w fun e w' =>
        e = .returned (.slice (some ⟨b, off, none⟩) (i + (n - j)) c) ∧ w' = (w.drew.setCells b (off + i * S) (cs.drop (j * S))).setCells b (off + (i + (n - j)) * S) (Builtin.zeroCells (Value.cells Z) (j - i)).toList) :
    CallsOk C fun g t args => if g = f then primDelete T t args else none := by
  refine prim_ok hf hb (fun t args r U x h => by obtain ⟨l, i, j, rfl, _⟩ := primDelete_spec h; simp) fun t args r hp w A G vals hA hGA htab hargs => ?_
  obtain ⟨l, i, j, rfl, hij, hjl, hl63, rfl, rfl⟩ := primDelete_spec hp
  obtain ⟨hlen, har⟩ := hargs
  match vals, hlen with
  | [v0, v1, v2], _ =>
  have a0 := har 0 _ v0 rfl rfl
  have a1 := arg_int (har 1 _ v1 rfl rfl)
  have a2 := arg_int (har 2 _ v2 rfl rfl)
  subst a1 a2
  have hcl : (rowOf T l).length = l.length * S := by rw [rowOf_len hT, hS]
  rcases give_row hT a0 with ⟨rfl, rfl⟩ | ⟨p, a, cap, c, e, fz, rfl, hcap, haddr, hroom, hh, hfz, hsz, hrow, hinn, hnA⟩
  · simp at hjl; omega
  have ha := haddr (by omega)
  subst ha
  rw [hS] at hroom
  have hcapS : l.length * S ≤ cap * S := Nat.mul_le_mul_right _ hcap
  have hiS : i * S ≤ j * S := Nat.mul_le_mul_right _ (Nat.le_of_lt hij)
  have hjS : j * S ≤ l.length * S := Nat.mul_le_mul_right _ hjl
  have hln : (l.take i ++ l.drop j).length = i + (l.length - j) := by simp; omega
  have hfin : rowOf T (l.take i ++ l.drop j) = (rowOf T l).take (i * S) ++ (rowOf T l).drop (j * S) := by rw [rowOf_app, rowOf_take hT, rowOf_drop hT, hS]
  have hdl : ((rowOf T l).drop (j * S)).length = l.length * S - j * S := by rw [List.length_drop, hcl]
  have htl : ((rowOf T l).take (i * S)).length = i * S := by rw [List.length_take, hcl]; omega
  have hnS : (i + (l.length - j)) * S = i * S + (l.length * S - j * S) := by rw [Nat.add_mul, Nat.sub_mul]
  have hzl : (Builtin.zeroCells (Value.cells Z) (j - i)).toList.length = j * S - i * S := by simp [Builtin.zeroCells, hZ, Nat.sub_mul]
  refine (h1 p.b p.o l.length cap i j (rowOf T l) w hij hjl hcap hl63 hcl (fun k u hk => by rw [cell_eq, hcell_of hh]; exact hrow k u hk) (fun k hk => not_frozen hh hfz (by omega)) (rowOf_one hT)).mono fun e0 w' hpost => ?_
  obtain ⟨he, rfl⟩ := hpost
  obtain ⟨c1, g1, g2, g3, g4, g5, g6, g7, g8, g9, g10⟩ := put_cells (w := w.drew) (vs := (rowOf T l).drop (j * S)) (o := p.o + i * S) hh (by rw [hdl]; omega)
  obtain ⟨c2, k1, k2, k3, k4, k5, k6, k7, k8, k9, k10⟩ := put_cells (vs := (Builtin.zeroCells (Value.cells Z) (j - i)).toList) (o := p.o + (i + (l.length - j)) * S) g1 (by rw [hzl]; omega)
  have hcs : c2.size = c.size := k2.trans g2
  exact row_post (p := p) hT ho hr he hinn k1 (by rw [hcs]; exact hfz) (by rw [hcs]; exact hsz) (by rw [hln, hS]; omega) (by
      rw [hfin]
      intro k u hk
      have hlt : k < i * S + (l.length * S - j * S) := by
        have := (List.getElem?_eq_some_iff.1 hk).1
        simp only [List.length_append, htl, hdl] at this
        exact this
      rw [k4 _ (.inl (by omega))]
      by_cases c1' : k < i * S
      · rw [List.getElem?_append_left (by omega), List.getElem?_take, if_pos c1'] at hk
        rw [g4 _ (.inl (by omega))]
        exact hrow k u hk
      · rw [List.getElem?_append_right (by omega), htl] at hk
        have := g3 _ u hk
        rwa [show p.o + i * S + (k - i * S) = p.o + k by omega] at this)
    ⟨_, cap, by rw [hln], by rw [hln]; omega, fun _ => by simp, by simp only [hS, Nat.zero_add]; exact hroom⟩ hnA hGA (fun b hb => (k5 b (fun e => hnA (e ▸ hb))).trans (g5 b (fun e => hnA (e ▸ hb)))) (by rw [k6, g6]; exact Nat.le_refl _) ⟨k7.trans g7, k8.trans g8, k9.trans g9, fun _ => by rw [k10, g10]; exact Nat.le_succ _⟩
end

end Go.Flat
