/- The plain statement of the law FnExactMoves: over numbers and lists, its printed function answers true. No condition. -/
import Derived.Test.YtidegbeadeoaeaaSFnExactMoves
namespace Go.Proofs.Ytidegbeadeoaeaa.Pure
open Go.RowKit Go.Proofs.Ytidegbeadeoaeaa Go.Proofs.Ytidegbeadeoaeaa.PFnExactMoves Go.Proofs.YtidegbeadeoaeaaW.PrintWords Go.Proofs.YtidegbeadeoaeaaW.PrintLast
theorem evHere {α : Type} {g : Nat → Option α} {r : α} (h : ∀ k, g (k + 1) = some r) : Ev g r :=
  ⟨1, fun k hk => by obtain ⟨m, rfl⟩ : ∃ m, k = m + 1 := ⟨k - 1, by omega⟩; exact h m⟩
theorem evOf {α : Type} {g : Nat → Option α} {r : α} (h : ∀ k, g k = some r) : Ev g r := ⟨0, fun k _ => h k⟩
theorem evIte {α : Type} {c : Prop} [Decidable c] {g f : Nat → Option α} {r : α} (h : c → Ev g r) (h' : ¬ c → Ev f r) : Ev (fun k => if c then g k else f k) r := by
  by_cases hc : c
  · simp only [if_pos hc]; exact h hc
  · simp only [if_neg hc]; exact h' hc
theorem evPos {α : Type} {c : Prop} [Decidable c] {g f : Nat → Option α} {r : α} (hc : c) (h : Ev g r) : Ev (fun k => if c then g k else f k) r := by
  simp only [if_pos hc]; exact h
theorem evNeg {α : Type} {c : Prop} [Decidable c] {g f : Nat → Option α} {r : α} (hc : ¬ c) (h : Ev f r) : Ev (fun k => if c then g k else f k) r := by
  simp only [if_neg hc]; exact h
theorem evEq {α : Type} {g : Nat → Option α} {r s : α} (h : Ev g r) (e : r = s) : Ev g s := e ▸ h
theorem wrapS {i n : Nat} (h : i < n) (hn : n ≤ 4611686018427387904) : wrap64 ((i : Int) + 1) = ((i + 1 : Nat) : Int) := by unfold wrap64; omega
theorem wrapI {x : Int} (h : -9223372036854775808 ≤ x) (h' : x ≤ 9223372036854775807) : wrap64 x = x := by unfold wrap64; omega
theorem rdN (l : List Int) (i : Nat) : rd l (i : Int) = l.getD i 0 := rfl
theorem rdGet {l : List Int} {i : Nat} (h : i < l.length) : rd l (i : Int) = l[i] := by
  rw [rdN, List.getD_eq_getElem?_getD, List.getElem?_eq_getElem h]; rfl
theorem dropC {α : Type} {l : List α} {i : Nat} (h : i < l.length) : l.drop i = l[i] :: l.drop (i + 1) := List.drop_eq_getElem_cons h

theorem szIntS_no (l : List Int) (n : Int) (h : l.length ≤ 9223372036854775807) (hn : 0 ≤ n) (hn' : n ≤ 1048576) : laws_szIntS.f l n = some (if n < l.length then -1 else n - l.length) := by
  unfold laws_szIntS.f
  rw [wrapI (by omega) (by omega)]
  split <;> split <;> first | rfl | omega
theorem toIntS_l (x : List Int) (hx : x.length ≤ 1048576) : ∀ (d i : Nat) (y : List Int), y.length = x.length → i + d = x.length → y.take i = x.take i → Ev (fun k => laws_toIntS.l0 k x y (i : Int)) x := by
  intro d
  induction d with
  | zero =>
    intro i y hl hi ht
    refine evHere fun k => ?_
    simp only [laws_toIntS.l0]
    rw [if_neg (by omega)]
    rw [List.take_of_length_le (by omega), List.take_of_length_le (by omega)] at ht
    rw [ht]
  | succ d ih =>
    intro i y hl hi ht
    have hi' : i < x.length := by omega
    refine Ev.step (f := fun k => laws_toIntS.l0 k x (y.set i x[i]) ((i + 1 : Nat) : Int)) (fun k => ?_) (ih (i + 1) (y.set i x[i]) (by simp [hl]) (by omega) ?_)
    · simp only [laws_toIntS.l0]
      rw [if_pos (by omega), if_pos (by omega), if_pos (by omega), wrapS hi' (by omega), rdGet hi', Int.toNat_natCast]
    · rw [List.take_succ_eq_append_getElem (by simp; omega), List.take_succ_eq_append_getElem hi', List.take_set_of_le (Nat.le_refl _), ht]
      simp
theorem toIntS_ev (x : List Int) (hx : x.length ≤ 1048576) : Ev (fun k => laws_toIntS.f k x) x := by
  unfold laws_toIntS.f
  refine evPos (by omega) (evPos (by omega) ?_)
  exact toIntS_l x hx x.length 0 _ (by simp) (by omega) (by simp)
theorem eqIntS_l (x : List Int) (hx : x.length ≤ 1048576) : ∀ (d i : Nat), i + d = x.length → Ev (fun k => laws_eqIntS.l0 k x x (i : Int)) true := by
  intro d
  induction d with
  | zero =>
    intro i hi
    refine evHere fun k => ?_
    simp only [laws_eqIntS.l0]
    rw [if_neg (by omega)]
  | succ d ih =>
    intro i hi
    refine Ev.step (f := fun k => laws_eqIntS.l0 k x x ((i + 1 : Nat) : Int)) (fun k => ?_) (ih (i + 1) (by omega))
    rw [laws_eqIntS.l0, if_pos (by omega), if_pos (by omega), if_pos (by omega), if_pos rfl, wrapS (show i < x.length by omega) (by omega)]
theorem eqIntS_ev (x : List Int) (hx : x.length ≤ 1048576) : Ev (fun k => laws_eqIntS.f k x x) true := by
  unfold laws_eqIntS.f
  refine evPos rfl ?_
  exact eqIntS_l x hx x.length 0 (by omega)

theorem has_l (x : List Int) (n : Int) (hx : x.length ≤ 1048576) : ∀ (d i : Nat), i + d = x.length → Ev (fun k => spec_l27Has.l0 k x n (i : Int)) (decide (n ∈ x.drop i)) := by
  intro d
  induction d with
  | zero =>
    intro i hi
    refine evHere fun k => ?_
    simp only [spec_l27Has.l0]
    rw [if_neg (by omega), List.drop_eq_nil_of_le (by omega)]
    simp
  | succ d ih =>
    intro i hi
    have hi' : i < x.length := by omega
    rw [dropC hi']
    by_cases e : x[i] = n
    · refine evHere fun k => ?_
      simp only [spec_l27Has.l0]
      rw [if_pos (by omega), if_pos (by omega), if_pos (by rw [rdGet hi', e]), decide_eq_true (show n ∈ x[i] :: x.drop (i + 1) from List.mem_cons.2 (.inl e.symm))]
    · refine Ev.step (f := fun k => spec_l27Has.l0 k x n ((i + 1 : Nat) : Int)) (fun k => ?_) (evEq (ih (i + 1) (by omega)) (decide_eq_decide.2 ⟨fun h => List.mem_cons_of_mem _ h, fun h => (List.mem_cons.1 h).resolve_left (fun h => e h.symm)⟩))
      simp only [spec_l27Has.l0]
      rw [if_pos (by omega), if_pos (by omega), if_neg (by rw [rdGet hi']; exact e), wrapS hi' (by omega)]
theorem has_ev (x : List Int) (n : Int) (hx : x.length ≤ 1048576) : Ev (fun k => spec_l27Has.f k x n) (decide (n ∈ x)) := by
  unfold spec_l27Has.f
  exact has_l x n hx x.length 0 (by omega)

theorem index_l (x : List Int) (n : Int) (hx : x.length ≤ 1048576) : ∀ (d i : Nat), i + d = x.length → Ev (fun k => slices_Index_int_int.l0 k x n (x.length : Int) (i : Int)) (if n ∈ x.drop i then ((i + (x.drop i).idxOf n : Nat) : Int) else -1) := by
  intro d
  induction d with
  | zero =>
    intro i hi
    refine evHere fun k => ?_
    simp only [slices_Index_int_int.l0]
    rw [if_neg (by omega), List.drop_eq_nil_of_le (by omega)]
    simp
  | succ d ih =>
    intro i hi
    have hi' : i < x.length := by omega
    rw [dropC hi']
    by_cases e : n = x[i]
    · refine evHere fun k => ?_
      simp only [slices_Index_int_int.l0]
      rw [if_pos (by omega), if_pos (by omega), if_pos (by omega), if_pos (by rw [rdGet hi', e]), if_pos (show n ∈ x[i] :: x.drop (i + 1) from List.mem_cons.2 (.inl e)), List.idxOf_cons]
      simp [e]
    · refine Ev.step (f := fun k => slices_Index_int_int.l0 k x n (x.length : Int) ((i + 1 : Nat) : Int)) (fun k => ?_) (evEq (ih (i + 1) (by omega)) ?_)
      · simp only [slices_Index_int_int.l0]
        rw [if_pos (by omega), if_pos (by omega), if_pos (by omega), if_neg (by rw [rdGet hi']; exact e), wrapS hi' (by omega)]
      · have e2 : ¬ x[i] = n := fun h => e h.symm
        by_cases hm : n ∈ x.drop (i + 1)
        · rw [if_pos hm, if_pos (List.mem_cons_of_mem _ hm), List.idxOf_cons]
          have e3 : (x[i] == n) = false := by simpa using e2
          rw [e3]
          simp only [cond_false]
          omega
        · rw [if_neg hm, if_neg (fun h => (List.mem_cons.1 h).elim e hm)]
theorem index_ev (x : List Int) (n : Int) (hx : x.length ≤ 1048576) : Ev (fun k => slices_Index_int_int.f k x n) (if n ∈ x then (x.idxOf n : Int) else -1) := by
  unfold slices_Index_int_int.f
  have := index_l x n hx x.length 0 (by omega)
  simpa using this
theorem contains_ev (x : List Int) (n : Int) (hx : x.length ≤ 1048576) : Ev (fun k => slices_Contains_int_int.f k x n) (decide (n ∈ x)) := by
  unfold slices_Contains_int_int.f
  refine Ev.bind (index_ev x n hx) (evOf fun _ => ?_)
  by_cases h : n ∈ x
  · simp [h]
  · simp [h]

def lack (a b : List Int) : Nat := (a.filter fun n => !decide (n ∈ b)).length
theorem lack_le (a b : List Int) : lack a b ≤ a.length := List.length_filter_le _ _
theorem lack_cons (n : Int) (a b : List Int) : lack (n :: a) b = (if n ∈ b then 0 else 1) + lack a b := by
  unfold lack
  by_cases h : n ∈ b <;> simp [h]; omega
theorem lacking_l (a b : List Int) (ha : a.length ≤ 1048576) (hb : b.length ≤ 1048576) : ∀ (d i c : Nat), i + d = a.length → c ≤ i → Ev (fun k => impl_lacking.l0 k b (c : Int) a (a.length : Int) (i : Int)) ((c + lack (a.drop i) b : Nat) : Int) := by
  intro d
  induction d with
  | zero =>
    intro i c hi hc
    refine evHere fun k => ?_
    simp only [impl_lacking.l0]
    rw [if_neg (by omega), List.drop_eq_nil_of_le (by omega)]
    rfl
  | succ d ih =>
    intro i c hi hc
    have hi' : i < a.length := by omega
    rw [dropC hi', lack_cons]
    refine Ev.step (f := fun k => (slices_Contains_int_int.f k b a[i]).bind fun t => if t = true then impl_lacking.l0 k b (c : Int) a (a.length : Int) ((i + 1 : Nat) : Int) else impl_lacking.l0 k b ((c + 1 : Nat) : Int) a (a.length : Int) ((i + 1 : Nat) : Int)) (fun k => ?_) (Ev.bind (contains_ev b a[i] hb) ?_)
    · simp only [impl_lacking.l0]
      rw [if_pos (by omega), if_pos (by omega), if_pos (by omega), rdGet hi', wrapS hi' (by omega), wrapS (show c < a.length by omega) (by omega)]
    · by_cases h : a[i] ∈ b
      · simp only [h, decide_true, if_true]
        exact evEq (ih (i + 1) c (by omega) (by omega)) (by omega)
      · simp only [h, decide_false, if_false]
        exact evEq (ih (i + 1) (c + 1) (by omega) (by omega)) (by omega)
theorem lacking_ev (a b : List Int) (ha : a.length ≤ 1048576) (hb : b.length ≤ 1048576) : Ev (fun k => impl_lacking.f k a b) (lack a b : Int) := by
  unfold impl_lacking.f
  have := lacking_l a b ha hb a.length 0 0 (by omega) (by omega)
  simpa using this
theorem moves_ev (p q : Int) (a b : List Int) (ha : a.length ≤ 1048576) (hb : b.length ≤ 1048576) : Ev (fun k => impl_Moves.f k p a q b) ((lack a b + lack b a : Nat) : Int) := by
  unfold impl_Moves.f
  refine Ev.bind (lacking_ev a b ha hb) (Ev.bind (lacking_ev b a hb ha) (evOf fun _ => ?_))
  have h1 := lack_le a b
  have h2 := lack_le b a
  rw [wrapI (by omega) (by omega)]
  simp
theorem spec_moves_l1 (p q : Int) (a b : List Int) (ha : a.length ≤ 1048576) (hb : b.length ≤ 1048576) : ∀ (d i c : Nat), i + d = b.length → c ≤ a.length + i → Ev (fun k => spec_Moves.l1 k (c : Int) (i : Int) p a q b) ((c + lack (b.drop i) a : Nat) : Int) := by
  intro d
  induction d with
  | zero =>
    intro i c hi hc
    refine evHere fun k => ?_
    simp only [spec_Moves.l1]
    rw [if_neg (by omega), List.drop_eq_nil_of_le (by omega)]
    rfl
  | succ d ih =>
    intro i c hi hc
    have hi' : i < b.length := by omega
    rw [dropC hi', lack_cons]
    refine Ev.step (f := fun k => (spec_l27Has.f k a b[i]).bind fun t => if t = true then spec_Moves.l1 k (c : Int) ((i + 1 : Nat) : Int) p a q b else spec_Moves.l1 k ((c + 1 : Nat) : Int) ((i + 1 : Nat) : Int) p a q b) (fun k => ?_) (Ev.bind (has_ev a b[i] ha) ?_)
    · simp only [spec_Moves.l1]
      rw [if_pos (by omega), if_pos (by omega), rdGet hi', wrapS hi' (by omega), wrapS (show c < a.length + b.length by omega) (by omega)]
    · by_cases h : b[i] ∈ a
      · simp only [h, decide_true, if_true]
        exact evEq (ih (i + 1) c (by omega) (by omega)) (by omega)
      · simp only [h, decide_false, if_false]
        exact evEq (ih (i + 1) (c + 1) (by omega) (by omega)) (by omega)
theorem spec_moves_l0 (p q : Int) (a b : List Int) (ha : a.length ≤ 1048576) (hb : b.length ≤ 1048576) : ∀ (d i c : Nat), i + d = a.length → c ≤ i → Ev (fun k => spec_Moves.l0 k (c : Int) (i : Int) p a q b) ((c + lack (a.drop i) b + lack b a : Nat) : Int) := by
  intro d
  induction d with
  | zero =>
    intro i c hi hc
    refine Ev.step (f := fun k => spec_Moves.l1 k (c : Int) ((0 : Nat) : Int) p a q b) (fun k => ?_) (evEq (spec_moves_l1 p q a b ha hb b.length 0 c (by omega) (by omega)) ?_)
    · simp only [spec_Moves.l0]
      rw [if_neg (by omega)]
      rfl
    · rw [List.drop_eq_nil_of_le (show a.length ≤ i by omega)]
      simp [lack]
  | succ d ih =>
    intro i c hi hc
    have hi' : i < a.length := by omega
    rw [dropC hi', lack_cons]
    refine Ev.step (f := fun k => (spec_l27Has.f k b a[i]).bind fun t => if t = true then spec_Moves.l0 k (c : Int) ((i + 1 : Nat) : Int) p a q b else spec_Moves.l0 k ((c + 1 : Nat) : Int) ((i + 1 : Nat) : Int) p a q b) (fun k => ?_) (Ev.bind (has_ev b a[i] hb) ?_)
    · simp only [spec_Moves.l0]
      rw [if_pos (by omega), if_pos (by omega), rdGet hi', wrapS hi' (by omega), wrapS (show c < a.length by omega) (by omega)]
    · by_cases h : a[i] ∈ b
      · simp only [h, decide_true, if_true]
        exact evEq (ih (i + 1) c (by omega) (by omega)) (by omega)
      · simp only [h, decide_false, if_false]
        exact evEq (ih (i + 1) (c + 1) (by omega) (by omega)) (by omega)
theorem spec_moves_ev (p q : Int) (a b : List Int) (ha : a.length ≤ 1048576) (hb : b.length ≤ 1048576) : Ev (fun k => spec_Moves.f k p a q b) ((lack a b + lack b a : Nat) : Int) := by
  unfold spec_Moves.f
  have := spec_moves_l0 p q a b ha hb a.length 0 0 (by omega) (by omega)
  simpa using this

theorem szWork_no (p : Int) (l : List Int) (n : Int) (h : l.length ≤ 9223372036854775807) (hn : 0 ≤ n) (hn' : n ≤ 1048576) : laws_szWork.f p l n = some (if n < l.length then -1 else n - l.length) := by
  unfold laws_szWork.f
  rw [szIntS_no l n h hn hn']
  simp only [Option.bind_some]
  split <;> split <;> first | rfl | omega
theorem toWork_ev (p : Int) (l : List Int) (h : l.length ≤ 1048576) : Ev (fun k => laws_toWork.f k p l) (p, l) := by
  unfold laws_toWork.f
  exact Ev.bind (toIntS_ev l h) (evOf fun _ => rfl)
theorem eqWork_ev (p : Int) (l : List Int) (h : l.length ≤ 1048576) : Ev (fun k => laws_eqWork.f k p l p l) true := by
  unfold laws_eqWork.f
  exact evPos rfl (Ev.bind (eqIntS_ev l h) (evOf fun _ => rfl))

theorem FnExactMoves : laws_FnExactMoves.Pure := by
  intro a0 a1 w0 w1
  have h0 : a0.f1.length ≤ 9223372036854775807 := w0.2.1
  have h1 : a1.f1.length ≤ 9223372036854775807 := w1.2.1
  apply Ev.rounds
  unfold laws_FnExactMoves.f
  refine Ev.bind (evOf fun _ => szWork_no a0.f0 a0.f1 _ h0 (by omega) (by omega)) (evIte (fun _ => evOf fun _ => rfl) fun c0 => ?_)
  have l0 : a0.f1.length ≤ 1048576 := by split at c0 <;> omega
  rw [if_neg (by omega)]
  refine Ev.bind (evOf fun _ => szWork_no a1.f0 a1.f1 _ h1 (by omega) (by omega)) (evIte (fun _ => evOf fun _ => rfl) fun c1 => ?_)
  have l1 : a1.f1.length ≤ 1048576 := by split at c1 <;> omega
  refine Ev.bind (toWork_ev _ _ l0) (Ev.bind (toWork_ev _ _ l1) (Ev.bind (spec_moves_ev _ _ _ _ l0 l1) (Ev.bind (toWork_ev _ _ l0) (Ev.bind (toWork_ev _ _ l1) (Ev.bind (moves_ev _ _ _ _ l0 l1) ?_)))))
  exact evPos rfl (Ev.bind (toWork_ev _ _ l0) (Ev.bind (eqWork_ev _ _ l0) (evPos rfl (Ev.bind (toWork_ev _ _ l1) (Ev.bind (eqWork_ev _ _ l1) (evPos rfl (evOf fun _ => rfl)))))))

end Go.Proofs.Ytidegbeadeoaeaa.Pure
