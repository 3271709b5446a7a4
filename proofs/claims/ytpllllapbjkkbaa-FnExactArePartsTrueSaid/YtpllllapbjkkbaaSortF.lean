/- slices.SortFunc over rows of structs, by its contract; the comparison by the evaluator. No condition. -/
import Derived.Test.YtpllllapbjkkbaaIns
import Derived.Shelf.SlSortCmp.NoneTotal
set_option linter.unusedVariables false
set_option linter.unusedSimpArgs false
namespace Go.Flat
open Go.RowKit Go.Sort Go.Proofs Go.Lib

instance denInh (T : Ty) : Inhabited T.den := ⟨T.dflt⟩

def sortF (T : Ty) (cf : T.den → T.den → Int) (l : List T.den) : List T.den := (pdq (Go.Proofs.ltOf cf) l.toArray 0 l.length (Lib.bitLen l.length) true true).toList
def primSortF (g : FuncId) (T : Ty) (cf : T.den → T.den → Int) : (t : Ty) → List Arg → Option t.den
  | .pair .unit (.list u), [.lend (.list a) l, .clo g' []] => if h : u = T ∧ a = T ∧ g' = g then (if l.length < 4611686018427387904 then some ((), h.1 ▸ sortF T cf (h.2.1 ▸ l)) else none) else none
  | _, _ => none
theorem primSortF_eq {g : FuncId} {T : Ty} {cf : T.den → T.den → Int} {l : List T.den} (h : l.length < 4611686018427387904) :
    primSortF g T cf (.pair .unit (.list T)) [.lend (.list T) l, .clo g []] = some ((), sortF T cf l) := by
  simp [primSortF, h]
theorem primSortF_spec {g : FuncId} {T : Ty} {cf : T.den → T.den → Int} {t : Ty} {args : List Arg} {r : t.den} (h : primSortF g T cf t args = some r) :
    ∃ l : List T.den, args = [.lend (.list T) l, .clo g []] ∧ l.length < 4611686018427387904 ∧ ∃ e : Ty.pair .unit (.list T) = t, (e ▸ (((), sortF T cf l) : (Ty.pair .unit (.list T)).den)) = r := by
  unfold primSortF at h
  split at h
  · rename_i u a l g'
    split at h
    · rename_i hh
      obtain ⟨rfl, rfl, rfl⟩ := hh
      split at h
      · rename_i hc
        exact ⟨l, rfl, hc, rfl, by simpa using h⟩
      · cases h
    · cases h
  · cases h

theorem sortF_sorts {T : Ty} {cf : T.den → T.den → Int} (hO : SWO (Go.Proofs.ltOf cf)) (l : List T.den) :
    PermIn 0 l.length l.toArray (sortF T cf l).toArray ∧ SortedIn (Go.Proofs.ltOf cf) 0 l.length (sortF T cf l).toArray := by
  have := pdq_sorts (Go.Proofs.ltOf cf) hO l.toArray 0 l.length (Lib.bitLen l.length) true true (Nat.zero_le _) (by simp) (Or.inl rfl)
  unfold sortF
  simpa using this

theorem sortF_len {T : Ty} {cf : T.den → T.den → Int} (hO : SWO (Go.Proofs.ltOf cf)) (l : List T.den) : (sortF T cf l).length = l.length := by
  simpa using (sortF_sorts hO l).1.1
theorem sortF_perm {T : Ty} {cf : T.den → T.den → Int} (hO : SWO (Go.Proofs.ltOf cf)) (l : List T.den) : (sortF T cf l).Perm l := by
  have h := (sortF_sorts hO l).1.2.2
  have e : (sortF T cf l).length = l.length := sortF_len hO l
  have e1 : ((sortF T cf l).toArray.extract 0 l.length).toList = sortF T cf l := by
    rw [← e]
    simp
  have e2 : (l.toArray.extract 0 l.length).toList = l := by simp
  rw [e1, e2] at h
  exact h
theorem sortF_pw {T : Ty} {cf : T.den → T.den → Int} (hO : SWO (Go.Proofs.ltOf cf)) (l : List T.den) : (sortF T cf l).Pairwise fun a b => Go.Proofs.ltOf cf b a = false := by
  have h := (sortF_sorts hO l).2
  have e : (sortF T cf l).length = l.length := sortF_len hO l
  rw [List.pairwise_iff_getElem]
  intro i j hi hj hij
  have := h i j (Nat.zero_le _) hij (by omega)
  simpa [hi, hj] using this

/-! ### The order of events -/
def cmpZ (x y : Int) : Int := if x < y then -1 else if y < x then 1 else 0
def orZ (x y : Int) : Int := if x ≠ 0 then x else y
@[reducible] def evT : Ty := .pair (.int .i64) (.pair (.int .i64) (.pair (.int .i64) (.pair (.int .i64) .unit)))
def evCmp (a b : Int × (Int × (Int × (Int × Unit)))) : Int := orZ (cmpZ a.1 b.1) (orZ (cmpZ a.2.2.2.1 b.2.2.2.1) (cmpZ a.2.2.1 b.2.2.1))
def evLt (a b : Int × (Int × (Int × (Int × Unit)))) : Prop := (a.1 : Int) < b.1 ∨ (a.1 : Int) = b.1 ∧ ((a.2.2.2.1 : Int) < b.2.2.2.1 ∨ (a.2.2.2.1 : Int) = b.2.2.2.1 ∧ (a.2.2.1 : Int) < b.2.2.1)
theorem evCmp_lt (a b : Int × (Int × (Int × (Int × Unit)))) : Go.Proofs.ltOf evCmp a b = true ↔ evLt a b := by
  unfold Go.Proofs.ltOf evCmp orZ cmpZ evLt
  rw [decide_eq_true_eq]
  repeat' split
  all_goals omega
theorem evCmp_swo : SWO (Go.Proofs.ltOf evCmp) where
  irrefl x := by rw [Bool.eq_false_iff, Ne, evCmp_lt]; unfold evLt; omega
  trans x y z h1 h2 := by rw [evCmp_lt] at *; unfold evLt at *; omega
  ntrans x y z h1 h2 := by rw [Bool.eq_false_iff, Ne, evCmp_lt] at *; unfold evLt at *; omega

/-- The flat row of the sort's, and ours. -/
theorem rowOf_at {t : Ty} (hp : t.plain = true) : ∀ (l : List t.den) (i j : Nat) (x : t.den), l[i]? = some x → j < t.sz → (rowOf t l)[i * t.sz + j]? = (cv t x)[j]?
  | [], i, j, x, h, _ => by simp at h
  | y :: l, 0, j, x, h, hj => by
    obtain rfl : y = x := by simpa using h
    show (cv t y ++ rowOf t l)[0 * t.sz + j]? = _
    rw [Nat.zero_mul, Nat.zero_add, List.getElem?_append_left (by rw [cv_len hp]; exact hj)]
  | y :: l, i + 1, j, x, h, hj => by
    have := rowOf_at hp l i j x (by simpa using h) hj
    show (cv t y ++ rowOf t l)[(i + 1) * t.sz + j]? = _
    rw [List.getElem?_append_right (by rw [cv_len hp, Nat.add_mul, Nat.one_mul]; omega), cv_len hp, ← this]
    congr 1
    rw [Nat.add_mul, Nat.one_mul]
    omega
theorem flatK_row {t : Ty} (hp : t.plain = true) (h0 : 0 < t.sz) (l : List t.den) : flatK (cv t) t.sz l.toArray = (rowOf t l).toArray := by
  apply Array.ext
  · rw [size_flatK]
    simp [rowOf_len hp]
  · intro i h1 h2
    have hi : i < l.length * t.sz := by rw [size_flatK] at h1; simpa using h1
    have hq : i / t.sz < l.length := (Nat.div_lt_iff_lt_mul h0).2 hi
    have hr : i % t.sz < t.sz := Nat.mod_lt _ h0
    have e1 := get_flatK (cv t) t.sz l.toArray i (by simpa using hi)
    rw [getElem!_pos (flatK (cv t) t.sz l.toArray) i h1] at e1
    rw [e1]
    have e2 := rowOf_at hp l (i / t.sz) (i % t.sz) l[i / t.sz] (List.getElem?_eq_getElem hq) hr
    rw [Nat.mul_comm, Nat.div_add_mod] at e2
    have e3 : l.toArray[i / t.sz]! = l[i / t.sz] := by simp [hq]
    rw [e3]
    have e4 : (cv t l[i / t.sz])[i % t.sz]? = some ((cv t l[i / t.sz])[i % t.sz]!) := by
      have : i % t.sz < (cv t l[i / t.sz]).length := by rw [cv_len hp]; exact hr
      rw [getElem!_pos (cv t l[i / t.sz]) (i % t.sz) this, List.getElem?_eq_getElem this]
    rw [e4] at e2
    have e5 : (rowOf t l)[i]? = some ((rowOf t l).toArray[i]) := by
      rw [List.getElem_toArray, List.getElem?_eq_getElem (by simpa using h2)]
    rw [e5] at e2
    exact (Option.some.inj e2).symm

section
variable {C : Cfg} {f g : FuncId} {fn : Func}

theorem sortF_ok {T : Ty} {cf : T.den → T.den → Int} (hT : T.plain = true) (h0 : 0 < T.sz) (hf : C.P.funcs[f]? = some fn) (hb : fn.body.isSome = true) (hr : fn.resultTypes.size = 0)
    (hn : ∀ (a : Option Addr) (c : Nat) (fv : Value) (w : World), Calls C.P f #[.slice a 0 c, fv] w fun e w' => e = .returned (.tuple #[]) ∧ w' = w)
    (h1 : ∀ (bk o c : Nat) (xs : List T.den) (w : World), HoldsK (cv T) T.sz w bk o xs.toArray → bk < w.heap.size → xs.length < 4611686018427387904 → Calls C.P f #[.slice (some ⟨bk, o, none⟩) xs.length c, .func (.func g) #[] #[]] w fun e w' =>
      e = .returned (.tuple #[]) ∧ ∃ n os, w' = sortWorldK (cv T) T.sz w bk o n (sortF T cf xs).toArray os) :
    (∀ l : List T.den, (sortF T cf l).length = l.length) → CallsOk C fun q t args => if q = f then primSortF g T cf t args else none := by
  intro hlen2
  refine ⟨?_, ?_, ?_⟩
  rotate_left 2
  · intro q fn' rt T' x i args r hg hrun hai
    by_cases hgf : q = f
    · subst hgf
      obtain ⟨l, rfl, _⟩ := primSortF_spec (by simpa using hrun)
      cases i with
      | zero => simp at hai
      | succ i =>
        cases i with
        | zero => simp at hai
        | succ i => simp at hai
    · simp [hgf] at hrun
  · intro q fn' t args r hg hrun
    by_cases hgf : q = f
    · subst hgf
      rw [hf] at hg
      cases hg
      refine ⟨hb, fun w A G vals hA hGA htab _ hargs => ?_⟩
      obtain ⟨l, rfl, _⟩ := primSortF_spec (by simpa using hrun)
      obtain ⟨hl, ha⟩ := hargs
      have hlt : 0 < vals.length := by rw [hl]; simp
      exact (ha 0 _ _ rfl (List.getElem?_eq_getElem hlt)).elim
    · simp [hgf] at hrun
  · intro q fn' rt T' x i args r hg hrun hai
    by_cases hgf : q = f
    · subst hgf
      rw [hf] at hg
      cases hg
      refine ⟨hb, fun w A G vals v0 cs ps hA hGA htab hlen hv0 hl hrest => ?_⟩
      obtain ⟨l, rfl, hll, he, hre⟩ := primSortF_spec (by simpa using hrun)
      have hi : i = 0 := by
        cases i with
        | zero => rfl
        | succ i =>
          cases i with
          | zero => simp at hai
          | succ i => simp at hai
      subst hi
      simp only [List.getElem?_cons_zero, Option.some.injEq] at hai
      cases hai
      have hrt : rt = .unit := by injection he with h1 _; exact h1.symm
      subst hrt
      have hr' : r = ((), sortF T cf l) := hre.symm
      subst hr'
      obtain ⟨vv, fv, rfl⟩ : ∃ a b, vals = [a, b] := by
        have hlen : vals.length = 2 := hlen
        match vals, hlen with
        | [a, b], _ => exact ⟨a, b, rfl⟩
      simp only [List.getElem?_cons_zero, Option.some.injEq] at hv0
      subst hv0
      obtain rfl : fv = .func (.func g) #[] #[] := by
        obtain ⟨_, vs, h2, h3, _⟩ := hrest 1 _ _ (by decide) rfl rfl
        obtain rfl := List.length_eq_zero_iff.1 h3
        exact h2
      obtain ⟨hown, hval, hpA, hnd⟩ := hl
      simp only [OwnRd, if_true] at hown
      obtain ⟨v, π, rfl, rfl, hs, ha, hfl⟩ := hown
      have hvv : vv = v := by
        have h : [v] = [vv] := hval
        simpa using h.symm
      subst hvv
      have res : ResIs (C.sig q).own (Nat.beq fn.resultTypes.size 1) .unit G w.heap () (.tuple #[]) [] := by
        refine ⟨[], ⟨rfl, rfl⟩, ?_⟩
        rw [hr]
        show (if Nat.beq 0 1 = true then _ else _)
        rw [if_neg (by decide)]
        exact ⟨[], rfl, rfl, rfl⟩
      have done : l = [] → SliceAt T.sz π 0 0 vv → Calls C.P q #[vv, .func (.func g) #[] #[]] w fun e w' => ∃ v G' qs, e = .returned v ∧ w.heap.size ≤ w'.heap.size ∧ Str C.mono w w' ∧ (∀ b, A b → w'.heap[b]? = w.heap[b]?) ∧ (∀ b, G b → G' b) ∧ (∀ b, G' b → G b ∨ (¬ A b ∧ b < w'.heap.size)) ∧
        ResIs (C.sig q).own (Nat.beq fn.resultTypes.size 1) .unit G' w'.heap () v qs ∧ (∀ b ∈ blks qs, ¬ A b ∧ ¬ G' b ∧ b < w'.heap.size) ∧ (blks qs).Nodup ∧
        RowsBack G' w.heap w'.heap (.list T) l (sortF T cf l) [π] ∧ ∀ b ∈ blks [π], ¬ G' b ∧ b ∉ blks qs := by
        intro h0' hs'
        obtain ⟨a, c, rfl⟩ : ∃ a c, vv = .slice a 0 c := by
          cases π with
          | none => obtain ⟨_, rfl⟩ := hs'; exact ⟨_, _, rfl⟩
          | some p => obtain ⟨a, c, rfl, _⟩ := hs'; exact ⟨_, _, rfl⟩
        refine (hn a c _ w).mono fun e w' hh => ?_
        obtain ⟨he, rfl⟩ := hh
        subst h0'
        have hnil : sortF T cf [] = [] := List.length_eq_zero_iff.1 (hlen2 [])
        refine ⟨_, G, [], he, Nat.le_refl _, Str.refl _ _, fun _ _ => rfl, fun _ h => h, fun _ h => .inl h, res, fun b hb => (by simp [blks] at hb), by simp [blks], ⟨π, rfl, ?_, hlen2 _⟩, fun b hb => ⟨fun hg => (hpA b hb).1 (hGA _ hg), by simp [blks]⟩⟩
        rw [hnil]; exact ha
      by_cases hl0 : l = []
      · refine done hl0 ?_
        subst hl0
        exact hs
      · cases π with
        | none => exact absurd ha hl0
        | some p =>
          obtain ⟨a, cap, rfl, hcap, haddr, hroom⟩ := hs
          have hpos : 0 < l.length := List.length_pos_iff.2 hl0
          obtain rfl := haddr (by omega)
          obtain ⟨c, e0, fz, hh, hfz, hsz, hle, hx⟩ := ha
          have hx := (rowF_cells hT (c := fun k => c[k]?) l p.o).1 hx
          simp only [Nat.zero_mul, Nat.add_zero] at hroom ⊢
          have hbs : p.b < w.heap.size := (Array.getElem?_eq_some_iff.1 hh).1
          have hcs : p.o + l.length * T.sz ≤ c.size := by omega
          have hH : HoldsK (cv T) T.sz w p.b p.o l.toArray := by
            unfold HoldsK
            rw [flatK_row hT h0]
            intro j hj
            have hj : j < (rowOf T l).length := by simpa using hj
            have hjl := hj
            rw [rowOf_len hT] at hjl
            constructor
            · rw [cell_eq]
              unfold hcell
              rw [hh]
              show c[p.o + j]? = _
              rw [hx j _ (List.getElem?_eq_getElem hj)]
              simp [hj]
            · unfold World.frozen?
              simp only [hh]
              have h1 := hfz (p.o + j) (by omega)
              simpa using h1
          have hc := h1 p.b p.o cap l w hH hbs hll
          refine hc.mono fun e w' hpost => ?_
          obtain ⟨he, n, os, hw⟩ := hpost
          have hflat : flatK (cv T) T.sz (sortF T cf l).toArray = (rowOf T (sortF T cf l)).toArray := flatK_row hT h0 _
          have hheap : w'.heap = w.heap.modify p.b (Go.Sort.onCells (Go.Sort.putCells id p.o (rowOf T (sortF T cf l)).toArray)) ++ os := by
            rw [hw]
            unfold sortWorldK putRowK
            rw [hflat]
            rfl
          have hat : w'.heap[p.b]? = some (.cells (Go.Sort.putCells id p.o (rowOf T (sortF T cf l)).toArray c) e0 fz) := by
            rw [hheap, Array.getElem?_append_left (by simpa using hbs), Array.getElem?_modify, if_pos rfl, hh]
            rfl
          have hother : ∀ b, b < w.heap.size → b ≠ p.b → w'.heap[b]? = w.heap[b]? := by
            intro b hb hne
            rw [hheap, Array.getElem?_append_left (by simpa using hb), Array.getElem?_modify, if_neg (fun e => hne e.symm)]
          have hAne : ∀ b, A b → b ≠ p.b := fun b hb e => (hpA p.b (by simp [blks, Pl.bs])).1 (e ▸ hb)
          refine ⟨_, G, [], he, ?_, ?_, fun b hb => hother b (hA b hb) (hAne b hb), fun _ h => h, fun _ h => .inl h, ?_, fun b hb => (by simp [blks] at hb), by simp [blks], ⟨some p, rfl, ?_, hlen2 l⟩, fun b hb => ⟨fun hg => (hpA b hb).1 (hGA _ hg), by simp [blks]⟩⟩
          · rw [hheap]; simp
          · rw [hw]; exact ⟨rfl, rfl, rfl, fun _ => Nat.le_add_right _ _⟩
          · obtain ⟨cs, k1, k2⟩ := res
            have hcs : cs = [] := k1.2
            subst hcs
            exact ⟨[], ⟨rfl, rfl⟩, k2⟩
          · have hsize : (Go.Sort.putCells id p.o (rowOf T (sortF T cf l)).toArray c).size = c.size := by simp [Go.Sort.putCells]
            refine ⟨_, e0, fz, hat, by rw [hsize]; exact hfz, by rw [hsize]; exact hsz, by rw [hlen2]; exact hle, (rowF_cells hT (c := fun k => (Go.Sort.putCells id p.o (rowOf T (sortF T cf l)).toArray c)[k]?) _ p.o).2 fun j u hj => ?_⟩
            have hjl := (List.getElem?_eq_some_iff.1 hj).1
            have hjl2 := hjl
            rw [rowOf_len hT, hlen2] at hjl
            have hlt : p.o + j < c.size := by omega
            show (Go.Sort.putCells id p.o (rowOf T (sortF T cf l)).toArray c)[p.o + j]? = some u
            unfold Go.Sort.putCells
            rw [Array.getElem?_mapIdx, Array.getElem?_eq_getElem hlt]
            simp only [Option.map_some, Option.some.injEq]
            rw [if_pos ⟨by omega, by simpa using hjl2⟩]
            rw [show p.o + j - p.o = j by omega]
            have e2 := hj
            rw [List.getElem?_eq_getElem hjl2] at e2
            simp [hjl2]
            exact Option.some.inj e2
    · simp [hgf] at hrun

/-- A comparison that the evaluator answers lays blocks and draws, and no more. -/
theorem cmp_lays {callF : FuncId → (t : Ty) → List Arg → Option t.den} (hm : C.mono = true) (htab : C.tabs = []) {T : Ty} (hT : T.plain = true) (hagg : T.isAgg = true) (ok : CallOk C callF) (hg : C.P.funcs[g]? = some fn) (hr : fn.resultTypes.size = 1) {x y : T.den} {n : Int}
    (hrun : callF g (.int .i64) [.val T x, .val T y] = some n) (w : World) :
    Calls C.P g #[.agg (cv T x).toArray, .agg (cv T y).toArray] w fun e w' => e = .returned (.int .i64 n) ∧ ∃ q os, w' = Go.Sort.grow (w.drewN q) os := by
  obtain ⟨hb, H⟩ := ok g fn _ _ _ hg hrun
  have H := H w (fun b => b < w.heap.size) (fun _ => False) [.agg (cv T x).toArray, .agg (cv T y).toArray] (fun b h => h) (fun b h => h.elim) (fun x hx => by rw [htab] at hx; simp at hx) (fun i j a b h1 h2 h3 h4 => by
    have : a.isIo = false := by
      cases i with
      | zero => simp at h1; subst h1; rfl
      | succ i =>
        cases i with
        | zero => simp at h1; subst h1; rfl
        | succ i => simp at h1
    rw [this] at h3; cases h3) ⟨rfl, fun i a v h1 h2 => by
      cases i with
      | zero => simp at h1 h2; subst h1 h2; exact ⟨cv T x, (rd_cv hT).2 rfl, by unfold ValIs; rw [hagg]; rfl⟩
      | succ i =>
        cases i with
        | zero => simp at h1 h2; subst h1 h2; exact ⟨cv T y, (rd_cv hT).2 rfl, by unfold ValIs; rw [hagg]; rfl⟩
        | succ i => simp at h1⟩
  refine H.mono fun e w' hh => ?_
  obtain ⟨v, G', ps, he, hsize, hstr, hsame, _, _, ⟨cs, ho, hv⟩, _, _⟩ := hh
  rw [hr] at hv
  have hv : ValIs false cs v := hv
  have ho : ps = [] ∧ cs = [.int .i64 n] := ho
  obtain ⟨_, rfl⟩ := ho
  have hv : [Value.int .i64 n] = [v] := hv
  obtain rfl : Value.int .i64 n = v := by simpa using hv
  refine ⟨he, w'.drawn - w.drawn, w'.heap.extract w.heap.size w'.heap.size, ?_⟩
  have hd := hstr.2.2.2 hm
  have hheap : w'.heap = w.heap ++ w'.heap.extract w.heap.size w'.heap.size := by
    apply Array.ext
    · simp; omega
    · intro i h1 h2
      by_cases hi : i < w.heap.size
      · rw [Array.getElem_append_left hi]
        have := hsame i hi
        rw [Array.getElem?_eq_getElem h1, Array.getElem?_eq_getElem hi] at this
        exact Option.some.inj this
      · rw [Array.getElem_append_right (by omega), Array.getElem_extract]
        congr 1
        omega
  obtain ⟨o1, o2, o3, _⟩ := hstr
  cases w with
  | mk => cases w' with
    | mk =>
      simp only [World.drewN, Go.Sort.grow] at *
      subst o1 o2 o3
      congr 1
      omega
end
end Go.Flat
