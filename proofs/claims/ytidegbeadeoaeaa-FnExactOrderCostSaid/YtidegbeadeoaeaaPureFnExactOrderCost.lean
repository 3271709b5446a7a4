/- The plain statement of the law FnExactOrderCost: over numbers and lists, its printed function answers true. No condition. -/
import Derived.Test.YtidegbeadeoaeaaSFnExactOrderCost
namespace Go.Proofs.Ytidegbeadeoaeaa.Pure
open Go.RowKit Go.Proofs.Ytidegbeadeoaeaa Go.Proofs.Ytidegbeadeoaeaa.PFnExactOrderCost Go.Proofs.YtidegbeadeoaeaaW.PrintWords Go.Proofs.YtidegbeadeoaeaaW.PrintLast Go.Proofs.YtidegbeadeoaeaaW.PrintMore
theorem evHere {α : Type} {g : Nat → Option α} {r : α} (h : ∀ k, g (k + 1) = some r) : Ev g r :=
  ⟨1, fun k hk => by obtain ⟨m, rfl⟩ : ∃ m, k = m + 1 := ⟨k - 1, by omega⟩; exact h m⟩
theorem evOf {α : Type} {g : Nat → Option α} {r : α} (h : ∀ k, g k = some r) : Ev g r := ⟨0, fun k _ => h k⟩
theorem evIte {α : Type} {c : Prop} [Decidable c] {g f : Nat → Option α} {r : α} (h : c → Ev g r) (h' : ¬ c → Ev f r) : Ev (fun k => if c then g k else f k) r := by
  by_cases hc : c
  · simp only [if_pos hc]; exact h hc
  · simp only [if_neg hc]; exact h' hc
theorem evPos {α : Type} {c : Prop} [Decidable c] {g f : Nat → Option α} {r : α} (hc : c) (h : Ev g r) : Ev (fun k => if c then g k else f k) r := by
  simp only [if_pos hc]; exact h
theorem evNeg {α : Type} {c : Prop} [Decidable c] {g f : Nat → Option α} {r : α} (hc : ¬ c) (h : Ev f r) : Ev (fun k => if c then g k else f k) r := by
  simp only [if_neg hc]; exact h
theorem evEq {α : Type} {g : Nat → Option α} {r s : α} (h : Ev g r) (e : r = s) : Ev g s := e ▸ h
theorem wrapS {i n : Nat} (h : i < n) (hn : n ≤ 4611686018427387904) : wrap64 ((i : Int) + 1) = ((i + 1 : Nat) : Int) := by unfold wrap64; omega
theorem wrapI {x : Int} (h : -9223372036854775808 ≤ x) (h' : x ≤ 9223372036854775807) : wrap64 x = x := by unfold wrap64; omega
theorem rdN (l : List Int) (i : Nat) : rd l (i : Int) = l.getD i 0 := rfl
theorem rdGet {l : List Int} {i : Nat} (h : i < l.length) : rd l (i : Int) = l[i] := by
  rw [rdN, List.getD_eq_getElem?_getD, List.getElem?_eq_getElem h]; rfl
theorem dropC {α : Type} {l : List α} {i : Nat} (h : i < l.length) : l.drop i = l[i] :: l.drop (i + 1) := List.drop_eq_getElem_cons h

theorem szIntS_no (l : List Int) (n : Int) (h : l.length ≤ 9223372036854775807) (hn : 0 ≤ n) (hn' : n ≤ 1048576) : laws_szIntS.f l n = some (if n < l.length then -1 else n - l.length) := by
  unfold laws_szIntS.f
  rw [wrapI (by omega) (by omega)]
  split <;> split <;> first | rfl | omega
theorem toIntS_l (x : List Int) (hx : x.length ≤ 1048576) : ∀ (d i : Nat) (y : List Int), y.length = x.length → i + d = x.length → y.take i = x.take i → Ev (fun k => laws_toIntS.l0 k x y (i : Int)) x := by
  intro d
  induction d with
  | zero =>
    intro i y hl hi ht
    refine evHere fun k => ?_
    simp only [laws_toIntS.l0]
    rw [if_neg (by omega)]
    rw [List.take_of_length_le (by omega), List.take_of_length_le (by omega)] at ht
    rw [ht]
  | succ d ih =>
    intro i y hl hi ht
    have hi' : i < x.length := by omega
    refine Ev.step (f := fun k => laws_toIntS.l0 k x (y.set i x[i]) ((i + 1 : Nat) : Int)) (fun k => ?_) (ih (i + 1) (y.set i x[i]) (by simp [hl]) (by omega) ?_)
    · simp only [laws_toIntS.l0]
      rw [if_pos (by omega), if_pos (by omega), if_pos (by omega), wrapS hi' (by omega), rdGet hi', Int.toNat_natCast]
    · rw [List.take_succ_eq_append_getElem (by simp; omega), List.take_succ_eq_append_getElem hi', List.take_set_of_le (Nat.le_refl _), ht]
      simp
theorem toIntS_ev (x : List Int) (hx : x.length ≤ 1048576) : Ev (fun k => laws_toIntS.f k x) x := by
  unfold laws_toIntS.f
  refine evPos (by omega) (evPos (by omega) ?_)
  exact toIntS_l x hx x.length 0 _ (by simp) (by omega) (by simp)
theorem eqIntS_l (x : List Int) (hx : x.length ≤ 1048576) : ∀ (d i : Nat), i + d = x.length → Ev (fun k => laws_eqIntS.l0 k x x (i : Int)) true := by
  intro d
  induction d with
  | zero =>
    intro i hi
    refine evHere fun k => ?_
    simp only [laws_eqIntS.l0]
    rw [if_neg (by omega)]
  | succ d ih =>
    intro i hi
    refine Ev.step (f := fun k => laws_eqIntS.l0 k x x ((i + 1 : Nat) : Int)) (fun k => ?_) (ih (i + 1) (by omega))
    rw [laws_eqIntS.l0, if_pos (by omega), if_pos (by omega), if_pos (by omega), if_pos rfl, wrapS (show i < x.length by omega) (by omega)]
theorem eqIntS_ev (x : List Int) (hx : x.length ≤ 1048576) : Ev (fun k => laws_eqIntS.f k x x) true := by
  unfold laws_eqIntS.f
  refine evPos rfl ?_
  exact eqIntS_l x hx x.length 0 (by omega)

def B33 (x : S33) : Prop := (x.f1.length ≤ 1048576)
theorem sz31_ok (x : List Int) (w : (Fit.Wsl (Fit.Wint .i64)) x) (n : Int) (hn : 0 ≤ n) (hm : n ≤ 1048576) : ∃ r, Ev (fun _ => laws_szIntS.f x n) r ∧ (r < 0 ∨ 0 ≤ r ∧ r ≤ n ∧ x.length ≤ 1048576) := by
  have hl : x.length ≤ 9223372036854775807 := w.1
  unfold laws_szIntS.f
  rw [wrapI (by omega) (by omega)]
  by_cases c : n - (x.length : Int) < 0
  · exact ⟨-1, evOf fun _ => by rw [if_pos c], .inl (by omega)⟩
  · exact ⟨n - x.length, evOf fun _ => by rw [if_neg c], .inr ⟨by omega, by omega, by omega⟩⟩
theorem sz33_ok (x : S33) (w : W33 x) (n : Int) (hn : 0 ≤ n) (hm : n ≤ 1048576) : ∃ r, Ev (fun _ => laws_szWork.f x.f0 x.f1 n) r ∧ (r < 0 ∨ 0 ≤ r ∧ r ≤ n ∧ B33 x) := by
  unfold laws_szWork.f
  obtain ⟨r0, e0, h0⟩ := sz31_ok x.f1 w.2 n hn hm
  by_cases c0 : r0 < 0
  · exact ⟨-1, Ev.bind e0 (evPos c0 (evOf fun _ => rfl)), .inl (by omega)⟩
  exact ⟨r0, Ev.bind e0 (evNeg c0 (evOf fun _ => rfl)), .inr ⟨by omega, by omega, (h0.resolve_left c0).2.2⟩⟩
theorem to31_ev (x : List Int) (h : x.length ≤ 1048576) : Ev (fun k => laws_toIntS.f k x) x := toIntS_ev x h
def cv33 (x : S33) : S36 := ⟨x.f0, x.f1⟩
theorem to33_ev (x : S33) (h : B33 x) : Ev (fun k => laws_toWork.f k x.f0 x.f1) ((cv33 x).f0, (cv33 x).f1) := by
  unfold laws_toWork.f
  exact Ev.bind (to31_ev x.f1 h) (evOf fun _ => rfl)
def B36 (x : S36) : Prop := (x.f1.length ≤ 1048576)
theorem eq31_ev (x : List Int) (h : x.length ≤ 1048576) : Ev (fun k => laws_eqIntS.f k x x) true := eqIntS_ev x h
theorem eq36_ev (x : S36) (h : B36 x) : Ev (fun k => laws_eqWork.f k x.f0 x.f1 x.f0 x.f1) true := by
  unfold laws_eqWork.f
  exact evPos rfl (Ev.bind (eq31_ev x.f1 h) (evPos rfl (evOf fun _ => rfl)))
theorem rd33 {l : List S33} {i : Nat} (h : i < l.length) : rd_T33 l (i : Int) = l[i] := by
  show l.getD i _ = _
  rw [List.getD_eq_getElem?_getD, List.getElem?_eq_getElem h]; rfl
theorem sz52_l (x : List S33) (w : (Fit.Wsl W33) x) (hx : x.length ≤ 1048576) : ∀ (d i : Nat) (n : Int), i + d = x.length → 0 ≤ n → n ≤ 1048576 → ∃ r, Ev (fun k => laws_szWorkS.l0 k x n (i : Int)) r ∧ (r < 0 ∨ 0 ≤ r ∧ r ≤ n ∧ ∀ y ∈ x.drop i, B33 y) := by
  intro d
  induction d with
  | zero =>
    intro i n hi hn hm
    refine ⟨n, evHere fun k => ?_, .inr ⟨hn, by omega, by rw [List.drop_eq_nil_of_le (by omega)]; simp⟩⟩
    rw [laws_szWorkS.l0, if_neg (by omega)]
  | succ d ih =>
    intro i n hi hn hm
    have hi' : i < x.length := by omega
    obtain ⟨r0, e0, h0⟩ := sz33_ok x[i] (w.2 _ (List.getElem_mem hi')) n hn hm
    by_cases c : r0 < 0
    · exact ⟨-1, Ev.step (f := fun k => (laws_szWork.f (x[i]).f0 (x[i]).f1 n).bind fun t => if t < 0 then some (-1) else laws_szWorkS.l0 k x t ((i + 1 : Nat) : Int)) (fun k => by rw [laws_szWorkS.l0, if_pos (by omega), if_pos (by omega), rd33 hi', wrapS hi' (by omega)]) (Ev.bind e0 (evPos c (evOf fun _ => rfl))), .inl (by omega)⟩
    · obtain ⟨r, e1, h1⟩ := ih (i + 1) r0 (by omega) (by omega) (by omega)
      refine ⟨r, Ev.step (f := fun k => (laws_szWork.f (x[i]).f0 (x[i]).f1 n).bind fun t => if t < 0 then some (-1) else laws_szWorkS.l0 k x t ((i + 1 : Nat) : Int)) (fun k => by rw [laws_szWorkS.l0, if_pos (by omega), if_pos (by omega), rd33 hi', wrapS hi' (by omega)]) (Ev.bind e0 (evNeg c e1)), h1.imp id fun h => ⟨h.1, by omega, fun y hy => ?_⟩⟩
      rw [dropC hi'] at hy
      rcases List.mem_cons.1 hy with rfl | hy
      · exact (h0.resolve_left c).2.2
      · exact h.2.2 y hy
theorem sz52_ok (x : List S33) (w : (Fit.Wsl W33) x) (n : Int) (hn : 0 ≤ n) (hm : n ≤ 1048576) : ∃ r, Ev (fun k => laws_szWorkS.f k x n) r ∧ (r < 0 ∨ 0 ≤ r ∧ r ≤ n ∧ x.length ≤ 1048576 ∧ ∀ y ∈ x, B33 y) := by
  have hl : x.length ≤ 9223372036854775807 := w.1
  unfold laws_szWorkS.f
  rw [wrapI (by omega) (by omega)]
  by_cases c : n - (x.length : Int) < 0
  · exact ⟨-1, evPos c (evOf fun _ => rfl), .inl (by omega)⟩
  · obtain ⟨r, e, h⟩ := sz52_l x w (by omega) x.length 0 (n - x.length) (by omega) (by omega) (by omega)
    exact ⟨r, evNeg c e, h.imp id fun h => ⟨h.1, by omega, by omega, by simpa using h.2.2⟩⟩
theorem to52_l (x : List S33) (hx : x.length ≤ 1048576 ∧ ∀ y ∈ x, B33 y) : ∀ (d i : Nat) (y : List S36), y.length = x.length → i + d = x.length → y.take i = (x.take i).map cv33 → Ev (fun k => laws_toWorkS.l0 k x y (i : Int)) (x.map cv33) := by
  have hl := hx.1
  intro d
  induction d with
  | zero =>
    intro i y hy hi ht
    refine evHere fun k => ?_
    rw [laws_toWorkS.l0, if_neg (by omega)]
    rw [List.take_of_length_le (by omega), List.take_of_length_le (by omega)] at ht
    rw [ht]
  | succ d ih =>
    intro i y hy hi ht
    have hi' : i < x.length := by omega
    refine Ev.step (f := fun k => (laws_toWork.f k (x[i]).f0 (x[i]).f1).bind fun t => laws_toWorkS.l0 k x (y.set i (⟨t.1, t.2⟩ : S36)) ((i + 1 : Nat) : Int)) (fun k => ?_) (Ev.bind (to33_ev x[i] (hx.2 _ (List.getElem_mem hi'))) (ih (i + 1) (y.set i (cv33 x[i])) (by simp [hy]) (by omega) ?_))
    · rw [laws_toWorkS.l0, if_pos (by omega), if_pos (by omega), rd33 hi']
      simp only [if_pos (show (i : Int) < (y.length : Int) by omega), wrapS hi' (show x.length ≤ 4611686018427387904 by omega), Int.toNat_natCast]
    · rw [List.take_succ_eq_append_getElem (by simp; omega), List.take_succ_eq_append_getElem hi', List.map_append, List.take_set_of_le (Nat.le_refl _), ht]
      simp only [List.getElem_set_self, List.map_cons, List.map_nil]
theorem to52_ev (x : List S33) (hx : x.length ≤ 1048576 ∧ ∀ y ∈ x, B33 y) : Ev (fun k => laws_toWorkS.f k x) (x.map cv33) := by
  have hl := hx.1
  unfold laws_toWorkS.f
  refine evPos (by omega) (evPos (by omega) ?_)
  exact to52_l x hx x.length 0 _ (by simp) (by omega) (by simp)
theorem rd36 {l : List S36} {i : Nat} (h : i < l.length) : rd_T36 l (i : Int) = l[i] := by
  show l.getD i _ = _
  rw [List.getD_eq_getElem?_getD, List.getElem?_eq_getElem h]; rfl
theorem eq55_l (x : List S36) (hx : x.length ≤ 1048576 ∧ ∀ y ∈ x, B36 y) : ∀ (d i : Nat), i + d = x.length → Ev (fun k => laws_eqWorkS.l0 k x x (i : Int)) true := by
  have hl := hx.1
  intro d
  induction d with
  | zero =>
    intro i hi
    refine evHere fun k => ?_
    rw [laws_eqWorkS.l0, if_neg (by omega)]
  | succ d ih =>
    intro i hi
    have hi' : i < x.length := by omega
    refine Ev.step (f := fun k => (laws_eqWork.f k (x[i]).f0 (x[i]).f1 (x[i]).f0 (x[i]).f1).bind fun t => if t = true then laws_eqWorkS.l0 k x x ((i + 1 : Nat) : Int) else none) (fun k => ?_) (Ev.bind (eq36_ev x[i] (hx.2 _ (List.getElem_mem hi'))) (evPos rfl (ih (i + 1) (by omega))))
    rw [laws_eqWorkS.l0, if_pos (by omega), if_pos (by omega), if_pos (by omega), rd36 hi', wrapS hi' (by omega)]
theorem eq55_ev (x : List S36) (hx : x.length ≤ 1048576 ∧ ∀ y ∈ x, B36 y) : Ev (fun k => laws_eqWorkS.f k x x) true := by
  have hl := hx.1
  unfold laws_eqWorkS.f
  exact evPos rfl (eq55_l x hx x.length 0 (by omega))
theorem sz145_ok (x : List Int) (w : (Fit.Wsl (Fit.Wint .i64)) x) (n : Int) (hn : 0 ≤ n) (hm : n ≤ 1048576) : ∃ r, Ev (fun _ => laws_szIntS.f x n) r ∧ (r < 0 ∨ 0 ≤ r ∧ r ≤ n ∧ x.length ≤ 1048576) := by
  have hl : x.length ≤ 9223372036854775807 := w.1
  unfold laws_szIntS.f
  rw [wrapI (by omega) (by omega)]
  by_cases c : n - (x.length : Int) < 0
  · exact ⟨-1, evOf fun _ => by rw [if_pos c], .inl (by omega)⟩
  · exact ⟨n - x.length, evOf fun _ => by rw [if_neg c], .inr ⟨by omega, by omega, by omega⟩⟩
theorem to145_ev (x : List Int) (h : x.length ≤ 1048576) : Ev (fun k => laws_toIntS.f k x) x := toIntS_ev x h
theorem eq145_ev (x : List Int) (h : x.length ≤ 1048576) : Ev (fun k => laws_eqIntS.f k x x) true := eqIntS_ev x h
theorem cvB33 (x : S33) (h : B33 x) : B36 (cv33 x) := h

theorem l1In_eq (a b c : Int) : spec_l1In.f a b c = some (decide (b ≤ a) && decide (a ≤ c)) := by
  unfold spec_l1In.f
  by_cases h : a ≥ b
  · rw [if_pos h, decide_eq_true (show b ≤ a from h), Bool.true_and]
  · rw [if_neg h, decide_eq_false (show ¬ b ≤ a from h), Bool.false_and]
theorem inRange_eq (a b c : Int) : impl_InRange.f a b c = some (decide (b ≤ a) && decide (a ≤ c)) := by
  unfold impl_InRange.f
  by_cases h : b ≤ a
  · rw [if_pos h, decide_eq_true h, Bool.true_and]
  · rw [if_neg h, decide_eq_false h, Bool.false_and]

/-- Ascending numbers of a range, behind one that stands before them. -/
def ascP (lo hi : Int) : Option Int → List Int → Bool
  | _, [] => true
  | p, a :: t => (decide (lo ≤ a) && decide (a ≤ hi)) && (match p with | none => true | some q => decide (q < a)) && ascP lo hi (some a) t
def before (x : List Int) (i : Nat) : Option Int := if i = 0 then none else some (x.getD (i - 1) 0)
theorem before_succ {x : List Int} {i : Nat} (h : i < x.length) : before x (i + 1) = some x[i] := by
  unfold before
  rw [if_neg (by omega), Nat.add_sub_cancel, List.getD_eq_getElem?_getD, List.getElem?_eq_getElem h]; rfl
theorem rdPrev {x : List Int} {i : Nat} (hi : i < x.length) (h0 : 0 < i) (hx : x.length ≤ 1048576) : wrap64 ((i : Int) - 1) = ((i - 1 : Nat) : Int) := by unfold wrap64; omega
theorem ids_l (x : List Int) (hx : x.length ≤ 1048576) : ∀ (d i : Nat), i + d = x.length → Ev (fun k => spec_l30Ids.l0 k x (i : Int)) (ascP 1 99 (before x i) (x.drop i)) := by
  intro d
  induction d with
  | zero =>
    intro i hi
    refine evHere fun k => ?_
    rw [spec_l30Ids.l0, if_neg (by omega), List.drop_eq_nil_of_le (by omega)]
    simp [ascP]
  | succ d ih =>
    intro i hi
    have hi' : i < x.length := by omega
    have ih' := ih (i + 1) (by omega)
    rw [before_succ hi'] at ih'
    rw [dropC hi']
    unfold ascP
    by_cases c : (decide (1 ≤ x[i]) && decide (x[i] ≤ 99)) = true
    · rw [c, Bool.true_and]
      by_cases c0 : i = 0
      · subst c0
        refine Ev.step (f := fun k => spec_l30Ids.l0 k x ((0 + 1 : Nat) : Int)) (fun k => ?_) (evEq ih' (by simp [before]))
        rw [spec_l30Ids.l0, if_pos (by omega), if_pos (by omega), rdGet hi', l1In_eq, c]
        simp only [Option.bind_some, if_true]
        rw [if_neg (by omega), wrapS hi' (by omega)]
      · have hp : before x i = some (x.getD (i - 1) 0) := by unfold before; rw [if_neg c0]
        rw [hp]
        by_cases c1 : x.getD (i - 1) 0 < x[i]
        · refine Ev.step (f := fun k => spec_l30Ids.l0 k x ((i + 1 : Nat) : Int)) (fun k => ?_) (evEq ih' (by show _ = (decide (x.getD (i - 1) 0 < x[i]) && _); rw [decide_eq_true c1, Bool.true_and]))
          rw [spec_l30Ids.l0, if_pos (by omega), if_pos (by omega), rdGet hi', l1In_eq, c]
          simp only [Option.bind_some, if_true]
          rw [if_pos (by omega), rdPrev hi' (by omega) hx, if_pos (by omega), if_pos (by omega), rdN, if_neg (by omega), wrapS hi' (by omega)]
        · refine evEq (evHere (r := false) fun k => ?_) (by show _ = (decide (x.getD (i - 1) 0 < x[i]) && _); rw [decide_eq_false c1, Bool.false_and])
          rw [spec_l30Ids.l0, if_pos (by omega), if_pos (by omega), rdGet hi', l1In_eq, c]
          simp only [Option.bind_some, if_true]
          rw [if_pos (by omega), rdPrev hi' (by omega) hx, if_pos (by omega), if_pos (by omega), rdN, if_pos (by omega)]
    · refine evEq (evHere (r := false) fun k => ?_) (by rw [Bool.eq_false_iff.2 c]; simp)
      rw [spec_l30Ids.l0, if_pos (by omega), if_pos (by omega), rdGet hi', l1In_eq, Bool.eq_false_iff.2 c]
      rfl
theorem ids_ev (x : List Int) (hx : x.length ≤ 1048576) : Ev (fun k => spec_l30Ids.f k x) (ascP 1 99 none x) := by
  unfold spec_l30Ids.f
  exact evEq (ids_l x hx x.length 0 (by omega)) (by simp [before])
theorem asc_l (x : List Int) (lo hi2 : Int) (hx : x.length ≤ 1048576) : ∀ (d i : Nat), i + d = x.length → Ev (fun k => impl_ascending.l0 k x lo hi2 x (x.length : Int) (i : Int)) (ascP lo hi2 (before x i) (x.drop i)) := by
  intro d
  induction d with
  | zero =>
    intro i hi
    refine evHere fun k => ?_
    rw [impl_ascending.l0, if_neg (by omega), List.drop_eq_nil_of_le (by omega)]
    simp [ascP]
  | succ d ih =>
    intro i hi
    have hi' : i < x.length := by omega
    have ih' := ih (i + 1) (by omega)
    rw [before_succ hi'] at ih'
    rw [dropC hi']
    unfold ascP
    by_cases c : (decide (lo ≤ x[i]) && decide (x[i] ≤ hi2)) = true
    · rw [c, Bool.true_and]
      by_cases c0 : i = 0
      · subst c0
        refine Ev.step (f := fun k => impl_ascending.l0 k x lo hi2 x (x.length : Int) ((0 + 1 : Nat) : Int)) (fun k => ?_) (evEq ih' (by simp [before]))
        rw [impl_ascending.l0, if_pos (by omega), if_pos (by omega), if_pos (by omega), rdGet hi', inRange_eq, c]
        simp only [Option.bind_some, if_true]
        rw [if_neg (by omega), wrapS hi' (by omega)]
      · have hp : before x i = some (x.getD (i - 1) 0) := by unfold before; rw [if_neg c0]
        rw [hp]
        by_cases c1 : x.getD (i - 1) 0 < x[i]
        · refine Ev.step (f := fun k => impl_ascending.l0 k x lo hi2 x (x.length : Int) ((i + 1 : Nat) : Int)) (fun k => ?_) (evEq ih' (by show _ = (decide (x.getD (i - 1) 0 < x[i]) && _); rw [decide_eq_true c1, Bool.true_and]))
          rw [impl_ascending.l0, if_pos (by omega), if_pos (by omega), if_pos (by omega), rdGet hi', inRange_eq, c]
          simp only [Option.bind_some, if_true]
          rw [if_pos (by omega), rdPrev hi' (by omega) hx, if_pos (by omega), if_pos (by omega), rdN, if_neg (by omega), wrapS hi' (by omega)]
        · refine evEq (evHere (r := false) fun k => ?_) (by show _ = (decide (x.getD (i - 1) 0 < x[i]) && _); rw [decide_eq_false c1, Bool.false_and])
          rw [impl_ascending.l0, if_pos (by omega), if_pos (by omega), if_pos (by omega), rdGet hi', inRange_eq, c]
          simp only [Option.bind_some, if_true]
          rw [if_pos (by omega), rdPrev hi' (by omega) hx, if_pos (by omega), if_pos (by omega), rdN, if_pos (by omega)]
    · refine evEq (evHere (r := false) fun k => ?_) (by rw [Bool.eq_false_iff.2 c]; simp)
      rw [impl_ascending.l0, if_pos (by omega), if_pos (by omega), if_pos (by omega), rdGet hi', inRange_eq, Bool.eq_false_iff.2 c]
      rfl
theorem asc_ev (x : List Int) (lo hi : Int) (hx : x.length ≤ 1048576) : Ev (fun k => impl_ascending.f k x lo hi) (ascP lo hi none x) := by
  unfold impl_ascending.f
  exact evEq (asc_l x lo hi hx x.length 0 (by omega)) (by simp [before])

def workOk (w : S36) : Bool := (decide (1 ≤ w.f0) && decide (w.f0 ≤ 10000000)) && ascP 1 99 none w.f1
def worksOk (l : List S36) : Bool := l.all workOk && decide (l.length ≤ 6)
theorem specWorks_l (x : List S36) (hx : x.length ≤ 1048576 ∧ ∀ y ∈ x, B36 y) : ∀ (d i : Nat), i + d = x.length → Ev (fun k => spec_AreWorks.l0 k x (i : Int)) ((x.drop i).all workOk && decide (x.length ≤ 6)) := by
  have hl := hx.1
  intro d
  induction d with
  | zero =>
    intro i hi
    refine evHere fun k => ?_
    rw [spec_AreWorks.l0, if_neg (by omega), List.drop_eq_nil_of_le (by omega)]
    have : decide ((x.length : Int) ≤ 6) = decide (x.length ≤ 6) := decide_eq_decide.2 (by omega)
    rw [this]
    simp
  | succ d ih =>
    intro i hi
    have hi' : i < x.length := by omega
    have hb := hx.2 _ (List.getElem_mem hi')
    have ih' := ih (i + 1) (by omega)
    rw [dropC hi', List.all_cons]
    refine Ev.step (f := fun k => (spec_l1In.f (x[i]).f0 1 10000000).bind fun t => if t = true then (spec_l30Ids.f k (x[i]).f1).bind fun t => if t = true then spec_AreWorks.l0 k x ((i + 1 : Nat) : Int) else some false else some false) (fun k => ?_) (Ev.bind (evOf fun _ => l1In_eq _ _ _) ?_)
    · rw [spec_AreWorks.l0, if_pos (by omega), if_pos (by omega), rd36 hi', wrapS hi' (by omega)]
    · unfold workOk
      by_cases c : (decide (1 ≤ (x[i]).f0) && decide ((x[i]).f0 ≤ 10000000)) = true
      · refine evPos c (Ev.bind (ids_ev _ hb) ?_)
        rw [c, Bool.true_and]
        by_cases c2 : ascP 1 99 none (x[i]).f1 = true
        · rw [c2, Bool.true_and]
          exact evPos rfl ih'
        · exact evEq (evNeg c2 (evOf fun _ => rfl)) (by rw [Bool.eq_false_iff.2 c2]; simp)
      · exact evEq (evNeg c (evOf fun _ => rfl)) (by rw [Bool.eq_false_iff.2 c]; simp)
theorem specWorks_ev (x : List S36) (hx : x.length ≤ 1048576 ∧ ∀ y ∈ x, B36 y) : Ev (fun k => spec_AreWorks.f k x) (worksOk x) := by
  unfold spec_AreWorks.f
  exact evEq (specWorks_l x hx x.length 0 (by omega)) (by simp [worksOk])
theorem badWork_ev (w : S36) (h : B36 w) : Ev (fun k => impl_AreWorks_1.f k w.f0 w.f1) (!workOk w) := by
  unfold impl_AreWorks_1.f workOk
  refine Ev.bind (evOf fun _ => inRange_eq _ _ _) ?_
  by_cases c : (decide (1 ≤ w.f0) && decide (w.f0 ≤ 10000000)) = true
  · rw [c, Bool.true_and]
    exact evPos rfl (Ev.bind (asc_ev _ _ _ h) (evOf fun _ => rfl))
  · exact evEq (evNeg c (evOf fun _ => rfl)) (by rw [Bool.eq_false_iff.2 c]; simp)
theorem idxWork_l (x : List S36) (hx : x.length ≤ 1048576 ∧ ∀ y ∈ x, B36 y) : ∀ (d i : Nat), i + d = x.length → ∃ r : Int, Ev (fun k => slices_IndexFunc_impl_Work_impl_Work_w_impl_AreWorks_1.l0 k x (x.length : Int) (i : Int)) r ∧ (decide (r ≥ 0)) = !(x.drop i).all workOk := by
  have hl := hx.1
  intro d
  induction d with
  | zero =>
    intro i hi
    refine ⟨-1, evHere fun k => ?_, ?_⟩
    · rw [slices_IndexFunc_impl_Work_impl_Work_w_impl_AreWorks_1.l0, if_neg (by omega)]
    · rw [List.drop_eq_nil_of_le (by omega)]; rfl
  | succ d ih =>
    intro i hi
    have hi' : i < x.length := by omega
    have hb := hx.2 _ (List.getElem_mem hi')
    obtain ⟨r, er, hr⟩ := ih (i + 1) (by omega)
    rw [dropC hi', List.all_cons]
    have st : ∀ q, Ev (fun k => (impl_AreWorks_1.f k (x[i]).f0 (x[i]).f1).bind fun t => if t = true then some (i : Int) else slices_IndexFunc_impl_Work_impl_Work_w_impl_AreWorks_1.l0 k x (x.length : Int) ((i + 1 : Nat) : Int)) q → Ev (fun k => slices_IndexFunc_impl_Work_impl_Work_w_impl_AreWorks_1.l0 k x (x.length : Int) (i : Int)) q := fun q h => Ev.step (fun k => by
      rw [slices_IndexFunc_impl_Work_impl_Work_w_impl_AreWorks_1.l0, if_pos (by omega), if_pos (by omega), if_pos (by omega), rd36 hi', wrapS hi' (by omega)]) h
    by_cases c : workOk x[i] = true
    · refine ⟨r, st _ (Ev.bind (badWork_ev _ hb) (evNeg (by rw [c]; simp) er)), ?_⟩
      rw [hr, c, Bool.true_and]
    · refine ⟨(i : Int), st _ (Ev.bind (badWork_ev _ hb) (evPos (by rw [Bool.eq_false_iff.2 c]; rfl) (evOf fun _ => rfl))), ?_⟩
      rw [Bool.eq_false_iff.2 c, decide_eq_true (by omega)]
      rfl
theorem implWorks_ev (x : List S36) (hx : x.length ≤ 1048576 ∧ ∀ y ∈ x, B36 y) : Ev (fun k => impl_AreWorks.f k x) (worksOk x) := by
  unfold impl_AreWorks.f worksOk
  by_cases c : x.length ≤ 6
  · obtain ⟨r, er, hr⟩ := idxWork_l x hx x.length 0 (by omega)
    refine evPos (by omega) (Ev.bind (a := !(x.all workOk)) ?_ (evOf fun _ => by simp [c]))
    unfold slices_ContainsFunc_impl_Work_impl_Work_w_impl_AreWorks_1.f slices_IndexFunc_impl_Work_impl_Work_w_impl_AreWorks_1.f
    exact Ev.bind er (evOf fun _ => by rw [hr]; rfl)
  · exact evEq (evNeg (by omega) (evOf fun _ => rfl)) (by simp [c])

theorem has_l (x : List Int) (n : Int) (hx : x.length ≤ 1048576) : ∀ (d i : Nat), i + d = x.length → Ev (fun k => spec_l27Has.l0 k x n (i : Int)) (decide (n ∈ x.drop i)) := by
  intro d
  induction d with
  | zero =>
    intro i hi
    refine evHere fun k => ?_
    simp only [spec_l27Has.l0]
    rw [if_neg (by omega), List.drop_eq_nil_of_le (by omega)]
    simp
  | succ d ih =>
    intro i hi
    have hi' : i < x.length := by omega
    rw [dropC hi']
    by_cases e : x[i] = n
    · refine evHere fun k => ?_
      simp only [spec_l27Has.l0]
      rw [if_pos (by omega), if_pos (by omega), if_pos (by rw [rdGet hi', e]), decide_eq_true (show n ∈ x[i] :: x.drop (i + 1) from List.mem_cons.2 (.inl e.symm))]
    · refine Ev.step (f := fun k => spec_l27Has.l0 k x n ((i + 1 : Nat) : Int)) (fun k => ?_) (evEq (ih (i + 1) (by omega)) (decide_eq_decide.2 ⟨fun h => List.mem_cons_of_mem _ h, fun h => (List.mem_cons.1 h).resolve_left (fun h => e h.symm)⟩))
      simp only [spec_l27Has.l0]
      rw [if_pos (by omega), if_pos (by omega), if_neg (by rw [rdGet hi']; exact e), wrapS hi' (by omega)]
theorem has_ev (x : List Int) (n : Int) (hx : x.length ≤ 1048576) : Ev (fun k => spec_l27Has.f k x n) (decide (n ∈ x)) := by
  unfold spec_l27Has.f
  exact has_l x n hx x.length 0 (by omega)

theorem index_l (x : List Int) (n : Int) (hx : x.length ≤ 1048576) : ∀ (d i : Nat), i + d = x.length → Ev (fun k => slices_Index_int_int.l0 k x n (x.length : Int) (i : Int)) (if n ∈ x.drop i then ((i + (x.drop i).idxOf n : Nat) : Int) else -1) := by
  intro d
  induction d with
  | zero =>
    intro i hi
    refine evHere fun k => ?_
    simp only [slices_Index_int_int.l0]
    rw [if_neg (by omega), List.drop_eq_nil_of_le (by omega)]
    simp
  | succ d ih =>
    intro i hi
    have hi' : i < x.length := by omega
    rw [dropC hi']
    by_cases e : n = x[i]
    · refine evHere fun k => ?_
      simp only [slices_Index_int_int.l0]
      rw [if_pos (by omega), if_pos (by omega), if_pos (by omega), if_pos (by rw [rdGet hi', e]), if_pos (show n ∈ x[i] :: x.drop (i + 1) from List.mem_cons.2 (.inl e)), List.idxOf_cons]
      simp [e]
    · refine Ev.step (f := fun k => slices_Index_int_int.l0 k x n (x.length : Int) ((i + 1 : Nat) : Int)) (fun k => ?_) (evEq (ih (i + 1) (by omega)) ?_)
      · simp only [slices_Index_int_int.l0]
        rw [if_pos (by omega), if_pos (by omega), if_pos (by omega), if_neg (by rw [rdGet hi']; exact e), wrapS hi' (by omega)]
      · have e2 : ¬ x[i] = n := fun h => e h.symm
        by_cases hm : n ∈ x.drop (i + 1)
        · rw [if_pos hm, if_pos (List.mem_cons_of_mem _ hm), List.idxOf_cons]
          have e3 : (x[i] == n) = false := by simpa using e2
          rw [e3]
          simp only [cond_false]
          omega
        · rw [if_neg hm, if_neg (fun h => (List.mem_cons.1 h).elim e hm)]
theorem index_ev (x : List Int) (n : Int) (hx : x.length ≤ 1048576) : Ev (fun k => slices_Index_int_int.f k x n) (if n ∈ x then (x.idxOf n : Int) else -1) := by
  unfold slices_Index_int_int.f
  have := index_l x n hx x.length 0 (by omega)
  simpa using this
theorem contains_ev (x : List Int) (n : Int) (hx : x.length ≤ 1048576) : Ev (fun k => slices_Contains_int_int.f k x n) (decide (n ∈ x)) := by
  unfold slices_Contains_int_int.f
  refine Ev.bind (index_ev x n hx) (evOf fun _ => ?_)
  by_cases h : n ∈ x
  · simp [h]
  · simp [h]

def lack (a b : List Int) : Nat := (a.filter fun n => !decide (n ∈ b)).length
theorem lack_le (a b : List Int) : lack a b ≤ a.length := List.length_filter_le _ _
theorem lack_cons (n : Int) (a b : List Int) : lack (n :: a) b = (if n ∈ b then 0 else 1) + lack a b := by
  unfold lack
  by_cases h : n ∈ b <;> simp [h]; omega
theorem lacking_l (a b : List Int) (ha : a.length ≤ 1048576) (hb : b.length ≤ 1048576) : ∀ (d i c : Nat), i + d = a.length → c ≤ i → Ev (fun k => impl_lacking.l0 k b (c : Int) a (a.length : Int) (i : Int)) ((c + lack (a.drop i) b : Nat) : Int) := by
  intro d
  induction d with
  | zero =>
    intro i c hi hc
    refine evHere fun k => ?_
    simp only [impl_lacking.l0]
    rw [if_neg (by omega), List.drop_eq_nil_of_le (by omega)]
    rfl
  | succ d ih =>
    intro i c hi hc
    have hi' : i < a.length := by omega
    rw [dropC hi', lack_cons]
    refine Ev.step (f := fun k => (slices_Contains_int_int.f k b a[i]).bind fun t => if t = true then impl_lacking.l0 k b (c : Int) a (a.length : Int) ((i + 1 : Nat) : Int) else impl_lacking.l0 k b ((c + 1 : Nat) : Int) a (a.length : Int) ((i + 1 : Nat) : Int)) (fun k => ?_) (Ev.bind (contains_ev b a[i] hb) ?_)
    · simp only [impl_lacking.l0]
      rw [if_pos (by omega), if_pos (by omega), if_pos (by omega), rdGet hi', wrapS hi' (by omega), wrapS (show c < a.length by omega) (by omega)]
    · by_cases h : a[i] ∈ b
      · simp only [h, decide_true, if_true]
        exact evEq (ih (i + 1) c (by omega) (by omega)) (by omega)
      · simp only [h, decide_false, if_false]
        exact evEq (ih (i + 1) (c + 1) (by omega) (by omega)) (by omega)
theorem lacking_ev (a b : List Int) (ha : a.length ≤ 1048576) (hb : b.length ≤ 1048576) : Ev (fun k => impl_lacking.f k a b) (lack a b : Int) := by
  unfold impl_lacking.f
  have := lacking_l a b ha hb a.length 0 0 (by omega) (by omega)
  simpa using this
theorem moves_ev (p q : Int) (a b : List Int) (ha : a.length ≤ 1048576) (hb : b.length ≤ 1048576) : Ev (fun k => impl_Moves.f k p a q b) ((lack a b + lack b a : Nat) : Int) := by
  unfold impl_Moves.f
  refine Ev.bind (lacking_ev a b ha hb) (Ev.bind (lacking_ev b a hb ha) (evOf fun _ => ?_))
  have h1 := lack_le a b
  have h2 := lack_le b a
  rw [wrapI (by omega) (by omega)]
  simp
theorem spec_moves_l1 (p q : Int) (a b : List Int) (ha : a.length ≤ 1048576) (hb : b.length ≤ 1048576) : ∀ (d i c : Nat), i + d = b.length → c ≤ a.length + i → Ev (fun k => spec_Moves.l1 k (c : Int) (i : Int) p a q b) ((c + lack (b.drop i) a : Nat) : Int) := by
  intro d
  induction d with
  | zero =>
    intro i c hi hc
    refine evHere fun k => ?_
    simp only [spec_Moves.l1]
    rw [if_neg (by omega), List.drop_eq_nil_of_le (by omega)]
    rfl
  | succ d ih =>
    intro i c hi hc
    have hi' : i < b.length := by omega
    rw [dropC hi', lack_cons]
    refine Ev.step (f := fun k => (spec_l27Has.f k a b[i]).bind fun t => if t = true then spec_Moves.l1 k (c : Int) ((i + 1 : Nat) : Int) p a q b else spec_Moves.l1 k ((c + 1 : Nat) : Int) ((i + 1 : Nat) : Int) p a q b) (fun k => ?_) (Ev.bind (has_ev a b[i] ha) ?_)
    · simp only [spec_Moves.l1]
      rw [if_pos (by omega), if_pos (by omega), rdGet hi', wrapS hi' (by omega), wrapS (show c < a.length + b.length by omega) (by omega)]
    · by_cases h : b[i] ∈ a
      · simp only [h, decide_true, if_true]
        exact evEq (ih (i + 1) c (by omega) (by omega)) (by omega)
      · simp only [h, decide_false, if_false]
        exact evEq (ih (i + 1) (c + 1) (by omega) (by omega)) (by omega)
theorem spec_moves_l0 (p q : Int) (a b : List Int) (ha : a.length ≤ 1048576) (hb : b.length ≤ 1048576) : ∀ (d i c : Nat), i + d = a.length → c ≤ i → Ev (fun k => spec_Moves.l0 k (c : Int) (i : Int) p a q b) ((c + lack (a.drop i) b + lack b a : Nat) : Int) := by
  intro d
  induction d with
  | zero =>
    intro i c hi hc
    refine Ev.step (f := fun k => spec_Moves.l1 k (c : Int) ((0 : Nat) : Int) p a q b) (fun k => ?_) (evEq (spec_moves_l1 p q a b ha hb b.length 0 c (by omega) (by omega)) ?_)
    · simp only [spec_Moves.l0]
      rw [if_neg (by omega)]
      rfl
    · rw [List.drop_eq_nil_of_le (show a.length ≤ i by omega)]
      simp [lack]
  | succ d ih =>
    intro i c hi hc
    have hi' : i < a.length := by omega
    rw [dropC hi', lack_cons]
    refine Ev.step (f := fun k => (spec_l27Has.f k b a[i]).bind fun t => if t = true then spec_Moves.l0 k (c : Int) ((i + 1 : Nat) : Int) p a q b else spec_Moves.l0 k ((c + 1 : Nat) : Int) ((i + 1 : Nat) : Int) p a q b) (fun k => ?_) (Ev.bind (has_ev b a[i] hb) ?_)
    · simp only [spec_Moves.l0]
      rw [if_pos (by omega), if_pos (by omega), rdGet hi', wrapS hi' (by omega), wrapS (show c < a.length by omega) (by omega)]
    · by_cases h : a[i] ∈ b
      · simp only [h, decide_true, if_true]
        exact evEq (ih (i + 1) c (by omega) (by omega)) (by omega)
      · simp only [h, decide_false, if_false]
        exact evEq (ih (i + 1) (c + 1) (by omega) (by omega)) (by omega)
theorem spec_moves_ev (p q : Int) (a b : List Int) (ha : a.length ≤ 1048576) (hb : b.length ≤ 1048576) : Ev (fun k => spec_Moves.f k p a q b) ((lack a b + lack b a : Nat) : Int) := by
  unfold spec_Moves.f
  have := spec_moves_l0 p q a b ha hb a.length 0 0 (by omega) (by omega)
  simpa using this

theorem smallWorks (l : List S33) (h : l.length ≤ 1048576 ∧ ∀ y ∈ l, B33 y) : (l.map cv33).length ≤ 1048576 ∧ ∀ y ∈ l.map cv33, B36 y :=
  ⟨by rw [List.length_map]; exact h.1, fun y hy => by obtain ⟨z, hz, rfl⟩ := List.mem_map.1 hy; exact cvB33 z (h.2 z hz)⟩
theorem rdInt {x : List Int} {i : Nat} (_ : i < x.length) : rd x (i : Int) = x.getD i 0 := rfl
/-- What moves between two works of a list. -/
def mv (l : List S36) (p q : Int) : Int := ((lack (l.getD p.toNat z36).f1 (l.getD q.toNat z36).f1 + lack (l.getD q.toNat z36).f1 (l.getD p.toNat z36).f1 : Nat) : Int)
theorem getB (l : List S36) (hl : l.length ≤ 1048576 ∧ ∀ y ∈ l, B36 y) (p : Nat) (hp : p < l.length) : (l.getD p z36).f1.length ≤ 1048576 := by
  rw [List.getD_eq_getElem?_getD, List.getElem?_eq_getElem hp]
  exact hl.2 _ (List.getElem_mem hp)
/-- The cost of an order from its place i on. -/
def costF (l : List S36) (o : List Int) : Nat → Nat → Int → Int
  | 0, _, c => c
  | d + 1, i, c => if (decide (0 ≤ o.getD i 0) && decide (o.getD i 0 ≤ (l.length : Int) - 1)) = true ∧ ¬ o.getD i 0 ∈ o.take i then costF l o d (i + 1) (if i = 0 then c else wrap64 (c + mv l (o.getD (i - 1) 0) (o.getD i 0))) else -1
theorem spec_cost (l : List S36) (o : List Int) (hl : l.length ≤ 1048576 ∧ ∀ y ∈ l, B36 y) (ho : o.length ≤ 1048576) : ∀ (d i : Nat) (c : Int), i + d = o.length → (∀ q, q < i → 0 ≤ o.getD q 0 ∧ o.getD q 0 < l.length) → Ev (fun k => spec_OrderCost.l0 k l o c (i : Int)) (costF l o d i c) := by
  have hll := hl.1
  have hw : wrap64 ((l.length : Int) - 1) = (l.length : Int) - 1 := wrapI (by omega) (by omega)
  intro d
  induction d with
  | zero =>
    intro i c hi hq
    refine evHere fun k => ?_
    rw [spec_OrderCost.l0, if_neg (by omega)]
    rfl
  | succ d ih =>
    intro i c hi hq
    have hi' : i < o.length := by omega
    have hht : (o.take i).length ≤ 1048576 := by rw [List.length_take]; omega
    unfold costF
    have jno : Ev (fun k => spec_OrderCost.j2 k l o c (i : Int) true) (-1) := evHere fun k => by rw [spec_OrderCost.j2, if_pos rfl]
    refine Ev.step (f := fun k => (spec_l1In.f (o.getD i 0) 0 ((l.length : Int) - 1)).bind fun t => if t = true then (spec_l27Has.f k (o.take i) (o.getD i 0)).bind fun t => spec_OrderCost.j2 k l o c (i : Int) t else spec_OrderCost.j2 k l o c (i : Int) true) (fun k => ?_) (Ev.bind (evOf fun _ => l1In_eq _ _ _) ?_)
    · rw [spec_OrderCost.l0, if_pos (by omega), if_pos (by omega), hw, rdInt hi']
      simp only [if_pos (show (i : Int) ≤ (o.length : Int) by omega), Int.toNat_natCast]
    by_cases c1 : (decide (0 ≤ o.getD i 0) && decide (o.getD i 0 ≤ (l.length : Int) - 1)) = true
    · refine evPos c1 (Ev.bind (has_ev _ _ hht) ?_)
      have c1' := c1
      simp only [Bool.and_eq_true, decide_eq_true_eq] at c1'
      by_cases c2 : o.getD i 0 ∈ o.take i
      · rw [if_neg (fun h => h.2 c2), decide_eq_true c2]
        exact jno
      · rw [if_pos ⟨c1, c2⟩, decide_eq_false c2]
        have hq' : ∀ q, q < i + 1 → 0 ≤ o.getD q 0 ∧ o.getD q 0 < l.length := fun q hlt => by
          rcases Nat.lt_succ_iff_lt_or_eq.1 hlt with h | h
          · exact hq q h
          · subst h
            omega
        by_cases c3 : i = 0
        · rw [if_pos c3]
          refine Ev.step (f := fun k => spec_OrderCost.l0 k l o c ((i + 1 : Nat) : Int)) (fun k => ?_) (ih (i + 1) c (by omega) hq')
          rw [spec_OrderCost.j2, if_neg (by simp), if_neg (by omega), wrapS hi' (by omega)]
        · rw [if_neg c3]
          have hp := hq (i - 1) (by omega)
          have hpw : wrap64 ((i : Int) - 1) = ((i - 1 : Nat) : Int) := by unfold wrap64; omega
          refine Ev.step (f := fun k => (spec_Moves.f k (l.getD (o.getD (i - 1) 0).toNat z36).f0 (l.getD (o.getD (i - 1) 0).toNat z36).f1 (l.getD (o.getD i 0).toNat z36).f0 (l.getD (o.getD i 0).toNat z36).f1).bind fun t => spec_OrderCost.l0 k l o (wrap64 (c + t)) ((i + 1 : Nat) : Int)) (fun k => ?_) (Ev.bind (spec_moves_ev _ _ _ _ (getB l hl _ (by omega)) (getB l hl _ (by omega))) (ih (i + 1) _ (by omega) hq'))
          rw [spec_OrderCost.j2, if_neg (by simp), if_pos (by omega), hpw, if_pos (by omega), if_pos (by omega), rdInt (show i - 1 < o.length by omega), if_pos (by omega), if_pos (by omega), if_pos (by omega), if_pos (by omega), rdInt hi', if_pos (by omega), if_pos (by omega), wrapS hi' (by omega)]
          rfl
    · rw [if_neg (fun h => c1 h.1)]
      exact evNeg c1 jno
theorem impl_cost (l : List S36) (o : List Int) (hl : l.length ≤ 1048576 ∧ ∀ y ∈ l, B36 y) (ho : o.length ≤ 1048576) : ∀ (d i : Nat) (c : Int), i + d = o.length → (∀ q, q < i → 0 ≤ o.getD q 0 ∧ o.getD q 0 < l.length) → Ev (fun k => impl_OrderCost.l0 k l o c o (o.length : Int) (i : Int)) (costF l o d i c) := by
  have hll := hl.1
  have hw : wrap64 ((l.length : Int) - 1) = (l.length : Int) - 1 := wrapI (by omega) (by omega)
  intro d
  induction d with
  | zero =>
    intro i c hi hq
    refine evHere fun k => ?_
    rw [impl_OrderCost.l0, if_neg (by omega)]
    rfl
  | succ d ih =>
    intro i c hi hq
    have hi' : i < o.length := by omega
    have hht : (o.take i).length ≤ 1048576 := by rw [List.length_take]; omega
    unfold costF
    have jno : Ev (fun k => impl_OrderCost.j2 k l o c (i : Int) (o.getD i 0) o (o.length : Int) (i : Int) true) (-1) := evHere fun k => by rw [impl_OrderCost.j2, if_pos rfl]
    refine Ev.step (f := fun k => (impl_InRange.f (o.getD i 0) 0 ((l.length : Int) - 1)).bind fun t => if t = true then (slices_Contains_int_int.f k (o.take i) (o.getD i 0)).bind fun t => impl_OrderCost.j2 k l o c (i : Int) (o.getD i 0) o (o.length : Int) (i : Int) t else impl_OrderCost.j2 k l o c (i : Int) (o.getD i 0) o (o.length : Int) (i : Int) true) (fun k => ?_) (Ev.bind (evOf fun _ => inRange_eq _ _ _) ?_)
    · rw [impl_OrderCost.l0, if_pos (by omega), if_pos (by omega), if_pos (by omega), hw, rdInt hi']
      simp only [if_pos (show (i : Int) ≤ (o.length : Int) by omega), Int.toNat_natCast]
    by_cases c1 : (decide (0 ≤ o.getD i 0) && decide (o.getD i 0 ≤ (l.length : Int) - 1)) = true
    · refine evPos c1 (Ev.bind (contains_ev _ _ hht) ?_)
      have c1' := c1
      simp only [Bool.and_eq_true, decide_eq_true_eq] at c1'
      by_cases c2 : o.getD i 0 ∈ o.take i
      · rw [if_neg (fun h => h.2 c2), decide_eq_true c2]
        exact jno
      · rw [if_pos ⟨c1, c2⟩, decide_eq_false c2]
        have hq' : ∀ q, q < i + 1 → 0 ≤ o.getD q 0 ∧ o.getD q 0 < l.length := fun q hlt => by
          rcases Nat.lt_succ_iff_lt_or_eq.1 hlt with h | h
          · exact hq q h
          · subst h
            omega
        by_cases c3 : i = 0
        · rw [if_pos c3]
          refine Ev.step (f := fun k => impl_OrderCost.l0 k l o c o (o.length : Int) ((i + 1 : Nat) : Int)) (fun k => ?_) (ih (i + 1) c (by omega) hq')
          rw [impl_OrderCost.j2, if_neg (by simp), if_neg (by omega), wrapS hi' (by omega)]
        · rw [if_neg c3]
          have hp := hq (i - 1) (by omega)
          have hpw : wrap64 ((i : Int) - 1) = ((i - 1 : Nat) : Int) := by unfold wrap64; omega
          refine Ev.step (f := fun k => (impl_Moves.f k (l.getD (o.getD (i - 1) 0).toNat z36).f0 (l.getD (o.getD (i - 1) 0).toNat z36).f1 (l.getD (o.getD i 0).toNat z36).f0 (l.getD (o.getD i 0).toNat z36).f1).bind fun t => impl_OrderCost.l0 k l o (wrap64 (c + t)) o (o.length : Int) ((i + 1 : Nat) : Int)) (fun k => ?_) (Ev.bind (moves_ev _ _ _ _ (getB l hl _ (by omega)) (getB l hl _ (by omega))) (ih (i + 1) _ (by omega) hq'))
          rw [impl_OrderCost.j2, if_neg (by simp), if_pos (by omega), hpw, if_pos (by omega), if_pos (by omega), rdInt (show i - 1 < o.length by omega), if_pos (by omega), if_pos (by omega), if_pos (by omega), if_pos (by omega), wrapS hi' (by omega)]
          rfl
    · rw [if_neg (fun h => c1 h.1)]
      exact evNeg c1 jno
def orderCost (l : List S36) (o : List Int) : Int := if worksOk l = true ∧ o.length = l.length then costF l o o.length 0 0 else -1
theorem spec_orderCost (l : List S36) (o : List Int) (hl : l.length ≤ 1048576 ∧ ∀ y ∈ l, B36 y) (ho : o.length ≤ 1048576) : Ev (fun k => spec_OrderCost.f k l o) (orderCost l o) := by
  unfold spec_OrderCost.f orderCost
  have jno : Ev (fun k => spec_OrderCost.j0 k l o true) (-1) := evHere fun k => by rw [spec_OrderCost.j0, if_pos rfl]
  refine Ev.bind (specWorks_ev l hl) ?_
  by_cases c : worksOk l = true
  · refine evPos c ?_
    by_cases c2 : o.length = l.length
    · rw [if_pos ⟨c, c2⟩, show ((o.length : Int) != (l.length : Int)) = false by simp [c2]]
      exact Ev.step (f := fun k => spec_OrderCost.l0 k l o 0 ((0 : Nat) : Int)) (fun k => by rw [spec_OrderCost.j0, if_neg (by simp)]; rfl) (spec_cost l o hl ho o.length 0 0 (by omega) (fun q h => by omega))
    · rw [if_neg (fun h => c2 h.2), show ((o.length : Int) != (l.length : Int)) = true by simp; omega]
      exact jno
  · rw [if_neg (fun h => c h.1)]
    exact evNeg c jno
theorem impl_orderCost (l : List S36) (o : List Int) (hl : l.length ≤ 1048576 ∧ ∀ y ∈ l, B36 y) (ho : o.length ≤ 1048576) : Ev (fun k => impl_OrderCost.f k l o) (orderCost l o) := by
  unfold impl_OrderCost.f orderCost
  have jno : Ev (fun k => impl_OrderCost.j0 k l o true) (-1) := evHere fun k => by rw [impl_OrderCost.j0, if_pos rfl]
  refine Ev.bind (implWorks_ev l hl) ?_
  by_cases c : worksOk l = true
  · refine evPos c ?_
    by_cases c2 : o.length = l.length
    · rw [if_pos ⟨c, c2⟩, show ((o.length : Int) != (l.length : Int)) = false by simp [c2]]
      exact Ev.step (f := fun k => impl_OrderCost.l0 k l o 0 o (o.length : Int) ((0 : Nat) : Int)) (fun k => by rw [impl_OrderCost.j0, if_neg (by simp)]; rfl) (impl_cost l o hl ho o.length 0 0 (by omega) (fun q h => by omega))
    · rw [if_neg (fun h => c2 h.2), show ((o.length : Int) != (l.length : Int)) = true by simp; omega]
      exact jno
  · rw [if_neg (fun h => c h.1)]
    exact evNeg c jno
theorem orderCost_both (l : List S36) (o : List Int) (hl : l.length ≤ 1048576 ∧ ∀ y ∈ l, B36 y) (ho : o.length ≤ 1048576) : ∃ v, Ev (fun k => spec_OrderCost.f k l o) v ∧ Ev (fun k => impl_OrderCost.f k l o) v := ⟨_, spec_orderCost l o hl ho, impl_orderCost l o hl ho⟩

theorem FnExactOrderCost : laws_FnExactOrderCost.Pure := by
  intro l o w wo
  apply Ev.rounds
  unfold laws_FnExactOrderCost.f
  refine evIte (fun _ => evOf fun _ => rfl) fun co => ?_
  have ho : o.length ≤ 1048576 := by omega
  obtain ⟨r, er, hr⟩ := sz52_ok l w 1048576 (by omega) (by omega)
  refine Ev.bind er (evIte (fun _ => evOf fun _ => rfl) fun c => ?_)
  have hl := (hr.resolve_left c).2.2
  have hs := smallWorks l hl
  obtain ⟨v, e1, e2⟩ := orderCost_both _ o hs ho
  exact Ev.bind (to52_ev l hl) (Ev.bind (toIntS_ev o ho) (Ev.bind e1 (Ev.bind (to52_ev l hl) (Ev.bind (toIntS_ev o ho) (Ev.bind e2 (evPos rfl (Ev.bind (to52_ev l hl) (Ev.bind (eq55_ev _ hs) (evPos rfl (Ev.bind (toIntS_ev o ho) (Ev.bind (eqIntS_ev o ho) (evPos rfl (evOf fun _ => rfl)))))))))))))

end Go.Proofs.Ytidegbeadeoaeaa.Pure
