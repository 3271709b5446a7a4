/- The plain statement of the law FnExactRestShare: over numbers and lists, its printed function answers true. No condition. -/
import Derived.Test.YtidegbeadeoaeaaSFnExactRestShare
namespace Go.Proofs.Ytidegbeadeoaeaa.Pure
open Go.RowKit Go.Proofs.Ytidegbeadeoaeaa Go.Proofs.Ytidegbeadeoaeaa.PFnExactRestShare Go.Proofs.YtidegbeadeoaeaaW.PrintWords Go.Proofs.YtidegbeadeoaeaaW.PrintLast Go.Proofs.YtidegbeadeoaeaaW.PrintMore
theorem evHere {α : Type} {g : Nat → Option α} {r : α} (h : ∀ k, g (k + 1) = some r) : Ev g r :=
  ⟨1, fun k hk => by obtain ⟨m, rfl⟩ : ∃ m, k = m + 1 := ⟨k - 1, by omega⟩; exact h m⟩
theorem evOf {α : Type} {g : Nat → Option α} {r : α} (h : ∀ k, g k = some r) : Ev g r := ⟨0, fun k _ => h k⟩
theorem evIte {α : Type} {c : Prop} [Decidable c] {g f : Nat → Option α} {r : α} (h : c → Ev g r) (h' : ¬ c → Ev f r) : Ev (fun k => if c then g k else f k) r := by
  by_cases hc : c
  · simp only [if_pos hc]; exact h hc
  · simp only [if_neg hc]; exact h' hc
theorem evPos {α : Type} {c : Prop} [Decidable c] {g f : Nat → Option α} {r : α} (hc : c) (h : Ev g r) : Ev (fun k => if c then g k else f k) r := by
  simp only [if_pos hc]; exact h
theorem evNeg {α : Type} {c : Prop} [Decidable c] {g f : Nat → Option α} {r : α} (hc : ¬ c) (h : Ev f r) : Ev (fun k => if c then g k else f k) r := by
  simp only [if_neg hc]; exact h
theorem evEq {α : Type} {g : Nat → Option α} {r s : α} (h : Ev g r) (e : r = s) : Ev g s := e ▸ h
theorem wrapS {i n : Nat} (h : i < n) (hn : n ≤ 4611686018427387904) : wrap64 ((i : Int) + 1) = ((i + 1 : Nat) : Int) := by unfold wrap64; omega
theorem wrapI {x : Int} (h : -9223372036854775808 ≤ x) (h' : x ≤ 9223372036854775807) : wrap64 x = x := by unfold wrap64; omega
theorem rdN (l : List Int) (i : Nat) : rd l (i : Int) = l.getD i 0 := rfl
theorem rdGet {l : List Int} {i : Nat} (h : i < l.length) : rd l (i : Int) = l[i] := by
  rw [rdN, List.getD_eq_getElem?_getD, List.getElem?_eq_getElem h]; rfl
theorem dropC {α : Type} {l : List α} {i : Nat} (h : i < l.length) : l.drop i = l[i] :: l.drop (i + 1) := List.drop_eq_getElem_cons h

def cv100 (x : S100) : S98 := ⟨x.f0, x.f1, x.f2⟩
theorem to100_ev (x : S100) : Ev (fun _ => laws_toSign.f x.f0 x.f1 x.f2) ((cv100 x).f0, (cv100 x).f1, (cv100 x).f2) := by
  unfold laws_toSign.f
  exact evOf fun _ => rfl
theorem eq98_ev (x : S98) : Ev (fun _ => laws_eqSign.f x.f0 x.f1 x.f2 x.f0 x.f1 x.f2) true := by
  unfold laws_eqSign.f
  exact evPos rfl (evPos rfl (evPos rfl (evOf fun _ => rfl)))
theorem sz45_ok (x : List S100) (w : (Fit.Wsl W100) x) (n : Int) (hn : 0 ≤ n) (hm : n ≤ 1048576) : ∃ r, Ev (fun _ => laws_szSignS.f x n) r ∧ (r < 0 ∨ 0 ≤ r ∧ r ≤ n ∧ x.length ≤ 1048576) := by
  have hl : x.length ≤ 9223372036854775807 := w.1
  unfold laws_szSignS.f
  rw [wrapI (by omega) (by omega)]
  by_cases c : n - (x.length : Int) < 0
  · exact ⟨-1, evOf fun _ => by rw [if_pos c], .inl (by omega)⟩
  · exact ⟨n - x.length, evOf fun _ => by rw [if_neg c], .inr ⟨by omega, by omega, by omega⟩⟩
theorem rd100 {l : List S100} {i : Nat} (h : i < l.length) : rd_T100 l (i : Int) = l[i] := by
  show l.getD i _ = _
  rw [List.getD_eq_getElem?_getD, List.getElem?_eq_getElem h]; rfl
theorem to45_l (x : List S100) (hx : x.length ≤ 1048576) : ∀ (d i : Nat) (y : List S98), y.length = x.length → i + d = x.length → y.take i = (x.take i).map cv100 → Ev (fun k => laws_toSignS.l0 k x y (i : Int)) (x.map cv100) := by
  have hl := hx
  intro d
  induction d with
  | zero =>
    intro i y hy hi ht
    refine evHere fun k => ?_
    rw [laws_toSignS.l0, if_neg (by omega)]
    rw [List.take_of_length_le (by omega), List.take_of_length_le (by omega)] at ht
    rw [ht]
  | succ d ih =>
    intro i y hy hi ht
    have hi' : i < x.length := by omega
    refine Ev.step (f := fun k => (laws_toSign.f (x[i]).f0 (x[i]).f1 (x[i]).f2).bind fun t => laws_toSignS.l0 k x (y.set i (⟨t.1, t.2.1, t.2.2⟩ : S98)) ((i + 1 : Nat) : Int)) (fun k => ?_) (Ev.bind (to100_ev x[i]) (ih (i + 1) (y.set i (cv100 x[i])) (by simp [hy]) (by omega) ?_))
    · rw [laws_toSignS.l0, if_pos (by omega), if_pos (by omega), rd100 hi']
      simp only [if_pos (show (i : Int) < (y.length : Int) by omega), wrapS hi' (show x.length ≤ 4611686018427387904 by omega), Int.toNat_natCast]
    · rw [List.take_succ_eq_append_getElem (by simp; omega), List.take_succ_eq_append_getElem hi', List.map_append, List.take_set_of_le (Nat.le_refl _), ht]
      simp only [List.getElem_set_self, List.map_cons, List.map_nil]
theorem to45_ev (x : List S100) (hx : x.length ≤ 1048576) : Ev (fun k => laws_toSignS.f k x) (x.map cv100) := by
  have hl := hx
  unfold laws_toSignS.f
  refine evPos (by omega) (evPos (by omega) ?_)
  exact to45_l x hx x.length 0 _ (by simp) (by omega) (by simp)
theorem rd98 {l : List S98} {i : Nat} (h : i < l.length) : rd_T98 l (i : Int) = l[i] := by
  show l.getD i _ = _
  rw [List.getD_eq_getElem?_getD, List.getElem?_eq_getElem h]; rfl
theorem eq48_l (x : List S98) (hx : x.length ≤ 1048576) : ∀ (d i : Nat), i + d = x.length → Ev (fun k => laws_eqSignS.l0 k x x (i : Int)) true := by
  have hl := hx
  intro d
  induction d with
  | zero =>
    intro i hi
    refine evHere fun k => ?_
    rw [laws_eqSignS.l0, if_neg (by omega)]
  | succ d ih =>
    intro i hi
    have hi' : i < x.length := by omega
    refine Ev.step (f := fun k => (laws_eqSign.f (x[i]).f0 (x[i]).f1 (x[i]).f2 (x[i]).f0 (x[i]).f1 (x[i]).f2).bind fun t => if t = true then laws_eqSignS.l0 k x x ((i + 1 : Nat) : Int) else none) (fun k => ?_) (Ev.bind (eq98_ev x[i]) (evPos rfl (ih (i + 1) (by omega))))
    rw [laws_eqSignS.l0, if_pos (by omega), if_pos (by omega), if_pos (by omega), rd98 hi', wrapS hi' (by omega)]
theorem eq48_ev (x : List S98) (hx : x.length ≤ 1048576) : Ev (fun k => laws_eqSignS.f k x x) true := by
  have hl := hx
  unfold laws_eqSignS.f
  exact evPos rfl (eq48_l x hx x.length 0 (by omega))

theorem l1In_eq (a b c : Int) : spec_l1In.f a b c = some (decide (b ≤ a) && decide (a ≤ c)) := by
  unfold spec_l1In.f
  by_cases h : a ≥ b
  · rw [if_pos h, decide_eq_true (show b ≤ a from h), Bool.true_and]
  · rw [if_neg h, decide_eq_false (show ¬ b ≤ a from h), Bool.false_and]
theorem inRange_eq (a b c : Int) : impl_InRange.f a b c = some (decide (b ≤ a) && decide (a ≤ c)) := by
  unfold impl_InRange.f
  by_cases h : b ≤ a
  · rw [if_pos h, decide_eq_true h, Bool.true_and]
  · rw [if_neg h, decide_eq_false h, Bool.false_and]

/-- A part: its signs stand one behind the other; 'p': was the sign before a rest? -/
def partP : Int → Option Bool → List S98 → Bool
  | _, _, [] => true
  | at_, p, s :: t => decide (s.f0 = at_) && ((decide (1 ≤ s.f1) && decide (s.f1 ≤ 3000)) && ((if s.f2 = 0 then p != some true else (decide (21 ≤ s.f2) && decide (s.f2 ≤ 108)) && decide (s.f1 ≤ 96)) && partP (wrap64 (at_ + s.f1)) (some (decide (s.f2 = 0))) t))
def beforeS (x : List S98) (i : Nat) : Option Bool := if i = 0 then none else some (decide ((x.getD (i - 1) z98).f2 = 0))
theorem beforeS_succ {x : List S98} {i : Nat} (h : i < x.length) : beforeS x (i + 1) = some (decide ((x[i]).f2 = 0)) := by
  unfold beforeS
  rw [if_neg (by omega), Nat.add_sub_cancel, List.getD_eq_getElem?_getD, List.getElem?_eq_getElem h]; rfl
theorem wrapP {i n : Nat} (hi : i < n) (h0 : 0 < i) (hx : n ≤ 1048576) : wrap64 ((i : Int) - 1) = ((i - 1 : Nat) : Int) := by unfold wrap64; omega
theorem specPart_l (x : List S98) (hx : x.length ≤ 1048576) : ∀ (d i : Nat) (a : Int), i + d = x.length → Ev (fun k => spec_IsPart.l0 k x a (i : Int)) (partP a (beforeS x i) (x.drop i)) := by
  intro d
  induction d with
  | zero =>
    intro i a hi
    refine evHere fun k => ?_
    rw [spec_IsPart.l0, if_neg (by omega), List.drop_eq_nil_of_le (by omega)]
    simp [partP]
  | succ d ih =>
    intro i a hi
    have hi' : i < x.length := by omega
    have ih' := ih (i + 1) (wrap64 (a + (x[i]).f1)) (by omega)
    rw [beforeS_succ hi'] at ih'
    rw [dropC hi']
    unfold partP
    by_cases c0 : (x[i]).f0 = a
    · rw [decide_eq_true c0, Bool.true_and]
      by_cases c1 : (decide (1 ≤ (x[i]).f1) && decide ((x[i]).f1 ≤ 3000)) = true
      · rw [c1, Bool.true_and]
        by_cases c2 : (x[i]).f2 = 0
        · rw [if_pos c2]
          by_cases c3 : i = 0
          · subst c3
            refine Ev.step (f := fun k => spec_IsPart.l0 k x (wrap64 (a + (x[0]).f1)) ((0 + 1 : Nat) : Int)) (fun k => ?_) (evEq ih' (by simp [beforeS]))
            rw [spec_IsPart.l0, if_pos (by omega), if_pos (by omega), rd98 hi', if_pos c0, l1In_eq, c1]
            simp only [Option.bind_some, if_true]
            rw [if_pos c2, if_neg (by omega), wrapS hi' (by omega)]
          · have hp : beforeS x i = some (decide ((x.getD (i - 1) z98).f2 = 0)) := by unfold beforeS; rw [if_neg c3]
            rw [hp]
            by_cases c4 : (x.getD (i - 1) z98).f2 = 0
            · refine evEq (evHere (r := false) fun k => ?_) (by rw [decide_eq_true c4]; rfl)
              rw [spec_IsPart.l0, if_pos (by omega), if_pos (by omega), rd98 hi', if_pos c0, l1In_eq, c1]
              simp only [Option.bind_some, if_true]
              rw [if_pos c2, if_pos (by omega), wrapP hi' (by omega) hx, if_pos (by omega), if_pos (by omega), if_pos (by exact c4)]
            · refine Ev.step (f := fun k => spec_IsPart.l0 k x (wrap64 (a + (x[i]).f1)) ((i + 1 : Nat) : Int)) (fun k => ?_) (evEq ih' (by rw [decide_eq_false c4]; rfl))
              rw [spec_IsPart.l0, if_pos (by omega), if_pos (by omega), rd98 hi', if_pos c0, l1In_eq, c1]
              simp only [Option.bind_some, if_true]
              rw [if_pos c2, if_pos (by omega), wrapP hi' (by omega) hx, if_pos (by omega), if_pos (by omega), if_neg (by exact c4), wrapS hi' (by omega)]
        · rw [if_neg c2]
          by_cases c3 : (decide (21 ≤ (x[i]).f2) && decide ((x[i]).f2 ≤ 108)) = true
          · rw [c3, Bool.true_and]
            by_cases c4 : (x[i]).f1 ≤ 96
            · rw [decide_eq_true c4, Bool.true_and]
              refine Ev.step (f := fun k => spec_IsPart.l0 k x (wrap64 (a + (x[i]).f1)) ((i + 1 : Nat) : Int)) (fun k => ?_) ih'
              rw [spec_IsPart.l0, if_pos (by omega), if_pos (by omega), rd98 hi', if_pos c0, l1In_eq, c1]
              simp only [Option.bind_some, if_true]
              rw [if_neg c2, l1In_eq, c3]
              simp only [Option.bind_some, if_true]
              rw [if_neg (by omega), wrapS hi' (by omega), ite_self]
            · refine evEq (evHere (r := false) fun k => ?_) (by rw [decide_eq_false c4]; rfl)
              rw [spec_IsPart.l0, if_pos (by omega), if_pos (by omega), rd98 hi', if_pos c0, l1In_eq, c1]
              simp only [Option.bind_some, if_true]
              rw [if_neg c2, l1In_eq, c3]
              simp only [Option.bind_some, if_true]
              rw [if_pos (by omega)]
          · refine evEq (evHere (r := false) fun k => ?_) (by rw [Bool.eq_false_iff.2 c3]; rfl)
            rw [spec_IsPart.l0, if_pos (by omega), if_pos (by omega), rd98 hi', if_pos c0, l1In_eq, c1]
            simp only [Option.bind_some, if_true]
            rw [if_neg c2, l1In_eq, Bool.eq_false_iff.2 c3]
            rfl
      · refine evEq (evHere (r := false) fun k => ?_) (by rw [Bool.eq_false_iff.2 c1]; rfl)
        rw [spec_IsPart.l0, if_pos (by omega), if_pos (by omega), rd98 hi', if_pos c0, l1In_eq, Bool.eq_false_iff.2 c1]
        rfl
    · refine evEq (evHere (r := false) fun k => ?_) (by rw [decide_eq_false c0]; rfl)
      rw [spec_IsPart.l0, if_pos (by omega), if_pos (by omega), rd98 hi', if_neg c0]
theorem specPart_ev (x : List S98) (hx : x.length ≤ 1048576) : Ev (fun k => spec_IsPart.f k x) (partP 0 none x) := by
  unfold spec_IsPart.f
  exact evEq (specPart_l x hx x.length 0 0 (by omega)) (by simp [beforeS])
theorem implPart_l (x : List S98) (hx : x.length ≤ 1048576) : ∀ (d i : Nat) (a : Int), i + d = x.length → Ev (fun k => impl_IsPart.l0 k x a x (x.length : Int) (i : Int)) (partP a (beforeS x i) (x.drop i)) := by
  intro d
  induction d with
  | zero =>
    intro i a hi
    refine evHere fun k => ?_
    rw [impl_IsPart.l0, if_neg (by omega), List.drop_eq_nil_of_le (by omega)]
    simp [partP]
  | succ d ih =>
    intro i a hi
    have hi' : i < x.length := by omega
    have ih' := ih (i + 1) (wrap64 (a + (x[i]).f1)) (by omega)
    rw [beforeS_succ hi'] at ih'
    rw [dropC hi']
    unfold partP
    by_cases c0 : (x[i]).f0 = a
    · rw [decide_eq_true c0, Bool.true_and]
      by_cases c1 : (decide (1 ≤ (x[i]).f1) && decide ((x[i]).f1 ≤ 3000)) = true
      · rw [c1, Bool.true_and]
        by_cases c2 : (x[i]).f2 = 0
        · rw [if_pos c2]
          by_cases c3 : i = 0
          · subst c3
            refine Ev.step (f := fun k => impl_IsPart.l0 k x (wrap64 (a + (x[0]).f1)) x (x.length : Int) ((0 + 1 : Nat) : Int)) (fun k => ?_) (evEq ih' (by simp [beforeS]))
            rw [impl_IsPart.l0, if_pos (by omega), if_pos (by omega), if_pos (by omega), rd98 hi', if_pos c0, inRange_eq, c1]
            simp only [Option.bind_some, if_true]
            rw [if_pos c2, if_neg (by omega), wrapS hi' (by omega)]
          · have hp : beforeS x i = some (decide ((x.getD (i - 1) z98).f2 = 0)) := by unfold beforeS; rw [if_neg c3]
            rw [hp]
            by_cases c4 : (x.getD (i - 1) z98).f2 = 0
            · refine evEq (evHere (r := false) fun k => ?_) (by rw [decide_eq_true c4]; rfl)
              rw [impl_IsPart.l0, if_pos (by omega), if_pos (by omega), if_pos (by omega), rd98 hi', if_pos c0, inRange_eq, c1]
              simp only [Option.bind_some, if_true]
              rw [if_pos c2, if_pos (by omega), wrapP hi' (by omega) hx, if_pos (by omega), if_pos (by omega), if_pos (by exact c4)]
            · refine Ev.step (f := fun k => impl_IsPart.l0 k x (wrap64 (a + (x[i]).f1)) x (x.length : Int) ((i + 1 : Nat) : Int)) (fun k => ?_) (evEq ih' (by rw [decide_eq_false c4]; rfl))
              rw [impl_IsPart.l0, if_pos (by omega), if_pos (by omega), if_pos (by omega), rd98 hi', if_pos c0, inRange_eq, c1]
              simp only [Option.bind_some, if_true]
              rw [if_pos c2, if_pos (by omega), wrapP hi' (by omega) hx, if_pos (by omega), if_pos (by omega), if_neg (by exact c4), wrapS hi' (by omega)]
        · rw [if_neg c2]
          by_cases c3 : (decide (21 ≤ (x[i]).f2) && decide ((x[i]).f2 ≤ 108)) = true
          · rw [c3, Bool.true_and]
            by_cases c4 : (x[i]).f1 ≤ 96
            · rw [decide_eq_true c4, Bool.true_and]
              refine Ev.step (f := fun k => impl_IsPart.l0 k x (wrap64 (a + (x[i]).f1)) x (x.length : Int) ((i + 1 : Nat) : Int)) (fun k => ?_) ih'
              rw [impl_IsPart.l0, if_pos (by omega), if_pos (by omega), if_pos (by omega), rd98 hi', if_pos c0, inRange_eq, c1]
              simp only [Option.bind_some, if_true]
              rw [if_neg c2, inRange_eq, c3]
              simp only [Option.bind_some, if_true]
              rw [if_neg (by omega), wrapS hi' (by omega)]
            · refine evEq (evHere (r := false) fun k => ?_) (by rw [decide_eq_false c4]; rfl)
              rw [impl_IsPart.l0, if_pos (by omega), if_pos (by omega), if_pos (by omega), rd98 hi', if_pos c0, inRange_eq, c1]
              simp only [Option.bind_some, if_true]
              rw [if_neg c2, inRange_eq, c3]
              simp only [Option.bind_some, if_true]
              rw [if_pos (by omega)]
          · refine evEq (evHere (r := false) fun k => ?_) (by rw [Bool.eq_false_iff.2 c3]; rfl)
            rw [impl_IsPart.l0, if_pos (by omega), if_pos (by omega), if_pos (by omega), rd98 hi', if_pos c0, inRange_eq, c1]
            simp only [Option.bind_some, if_true]
            rw [if_neg c2, inRange_eq, Bool.eq_false_iff.2 c3]
            rfl
      · refine evEq (evHere (r := false) fun k => ?_) (by rw [Bool.eq_false_iff.2 c1]; rfl)
        rw [impl_IsPart.l0, if_pos (by omega), if_pos (by omega), if_pos (by omega), rd98 hi', if_pos c0, inRange_eq, Bool.eq_false_iff.2 c1]
        rfl
    · refine evEq (evHere (r := false) fun k => ?_) (by rw [decide_eq_false c0]; rfl)
      rw [impl_IsPart.l0, if_pos (by omega), if_pos (by omega), if_pos (by omega), rd98 hi', if_neg c0]
theorem implPart_ev (x : List S98) (hx : x.length ≤ 1048576) : Ev (fun k => impl_IsPart.f k x) (partP 0 none x) := by
  unfold impl_IsPart.f
  exact evEq (implPart_l x hx x.length 0 0 (by omega)) (by simp [beforeS])

/-- What a part's signs, and its rests, are long together. -/
def restAll : List S98 → Int × Int → Int × Int
  | [], s => s
  | a :: t, s => restAll t (if a.f2 = 0 then wrap64 (s.1 + a.f1) else s.1, wrap64 (s.2 + a.f1))
def share (s : Int × Int) : Int := if s.2 = 0 then 100 else wrap64 (Int.tdiv (wrap64 (100 * s.1)) s.2)
theorem specShare_no (x : List S98) (hx : x.length ≤ 1048576) (hp : partP 0 none x = false) : Ev (fun k => spec_RestShare.f k x) 100 := by
  unfold spec_RestShare.f
  have hj : Ev (fun k => spec_RestShare.j1 k x 0 0 0 false) 100 := evHere fun k => by
    rw [spec_RestShare.j1, if_neg (by simp), if_pos rfl]
  by_cases c : (0 : Int) < (x.length : Int)
  · refine Ev.step (f := fun k => (spec_IsPart.f k x).bind fun t => spec_RestShare.j1 k x 0 0 0 t) (fun k => by rw [spec_RestShare.l0, if_pos c]) (Ev.bind (specPart_ev x hx) ?_)
    rw [hp]
    exact hj
  · exact Ev.step (f := fun k => spec_RestShare.j1 k x 0 0 0 false) (fun k => by rw [spec_RestShare.l0, if_neg c]) hj
theorem specShare_l (x : List S98) (hx : x.length ≤ 1048576) (hp : partP 0 none x = true) : ∀ (d i : Nat) (s : Int × Int), i + d = x.length → Ev (fun k => spec_RestShare.l0 k x s.1 s.2 (i : Int)) (share (restAll (x.drop i) s)) := by
  intro d
  induction d with
  | zero =>
    intro i s hi
    refine Ev.step (f := fun k => spec_RestShare.j1 k x s.1 s.2 (i : Int) false) (fun k => by rw [spec_RestShare.l0, if_neg (by omega)]) (evHere fun k => ?_)
    rw [spec_RestShare.j1, if_neg (by simp), List.drop_eq_nil_of_le (by omega)]
    unfold restAll share
    split <;> rfl
  | succ d ih =>
    intro i s hi
    have hi' : i < x.length := by omega
    rw [dropC hi']
    refine Ev.step (f := fun k => (spec_IsPart.f k x).bind fun t => spec_RestShare.j1 k x s.1 s.2 (i : Int) t) (fun k => by rw [spec_RestShare.l0, if_pos (by omega)]) (Ev.bind (specPart_ev x hx) ?_)
    rw [hp]
    have ih' := ih (i + 1) (if (x[i]).f2 = 0 then wrap64 (s.1 + (x[i]).f1) else s.1, wrap64 (s.2 + (x[i]).f1)) (by omega)
    refine Ev.step (fun k => ?_) ih'
    rw [spec_RestShare.j1, if_pos rfl, if_pos (by omega), if_pos (by omega), rd98 hi', wrapS hi' (by omega)]
    by_cases c : (x[i]).f2 = 0
    · simp only [if_pos c]
    · simp only [if_neg c]
theorem implShare_l (x : List S98) (hx : x.length ≤ 1048576) : ∀ (d i : Nat) (s : Int × Int), i + d = x.length → (restAll (x.drop i) s).2 ≠ 0 → Ev (fun k => impl_RestShare.l0 k s.1 s.2 x (x.length : Int) (i : Int)) (share (restAll (x.drop i) s)) := by
  intro d
  induction d with
  | zero =>
    intro i s hi h0
    refine evHere fun k => ?_
    rw [List.drop_eq_nil_of_le (by omega)] at h0 ⊢
    rw [impl_RestShare.l0, if_neg (by omega), if_neg (by exact h0)]
    unfold restAll share
    rw [if_neg (by exact h0)]
  | succ d ih =>
    intro i s hi h0
    have hi' : i < x.length := by omega
    rw [dropC hi'] at h0 ⊢
    have ih' := ih (i + 1) (if (x[i]).f2 = 0 then wrap64 (s.1 + (x[i]).f1) else s.1, wrap64 (s.2 + (x[i]).f1)) (by omega) h0
    refine Ev.step (fun k => ?_) ih'
    rw [impl_RestShare.l0, if_pos (by omega), if_pos (by omega), if_pos (by omega), rd98 hi', wrapS hi' (by omega)]
    by_cases c : (x[i]).f2 = 0
    · simp only [if_pos c]
    · simp only [if_neg c]
theorem all_pos : ∀ (x : List S98) (at_ : Int) (p : Option Bool) (s : Int × Int) (m : Nat), partP at_ p x = true → 0 ≤ s.2 → s.2 ≤ 3000 * (m : Int) → x.length + m ≤ 1048576 → s.2 + x.length ≤ (restAll x s).2
  | [], _, _, s, _, _, _, _, _ => by simp [restAll]
  | a :: t, at_, p, s, m, h, h0, h1, hl => by
    unfold partP at h
    simp only [Bool.and_eq_true, decide_eq_true_eq] at h
    simp only [List.length_cons] at hl
    have hw : wrap64 (s.2 + a.f1) = s.2 + a.f1 := wrapI (by omega) (by omega)
    have := all_pos t _ _ (if a.f2 = 0 then wrap64 (s.1 + a.f1) else s.1, wrap64 (s.2 + a.f1)) (m + 1) h.2.2.2 (by simp only [hw]; omega) (by simp only [hw]; omega) (by omega)
    simp only [hw] at this
    unfold restAll
    simp only [List.length_cons, hw]
    omega
theorem FnExactRestShare : laws_FnExactRestShare.Pure := by
  intro l w
  apply Ev.rounds
  unfold laws_FnExactRestShare.f
  obtain ⟨r, er, hr⟩ := sz45_ok l w 1048576 (by omega) (by omega)
  refine Ev.bind er (evIte (fun _ => evOf fun _ => rfl) fun c => ?_)
  have hl := (hr.resolve_left c).2.2
  have hs : (l.map cv100).length ≤ 1048576 := by rw [List.length_map]; exact hl
  have key : ∃ v, Ev (fun k => spec_RestShare.f k (l.map cv100)) v ∧ Ev (fun k => impl_RestShare.f k (l.map cv100)) v := by
    generalize l.map cv100 = x at hs ⊢
    by_cases hp : partP 0 none x = true
    · by_cases h0 : x.length = 0
      · refine ⟨100, ?_, ?_⟩
        · unfold spec_RestShare.f
          have := specShare_l x hs hp x.length 0 (0, 0) (by omega)
          rw [List.length_eq_zero_iff.1 h0] at this ⊢
          simpa [restAll, share] using this
        · unfold impl_RestShare.f
          refine Ev.bind (implPart_ev x hs) (evPos hp ?_)
          rw [h0]
          exact evHere fun k => by rw [impl_RestShare.j0, if_pos (by simp)]
      · refine ⟨share (restAll x (0, 0)), ?_, ?_⟩
        · unfold spec_RestShare.f
          exact evEq (specShare_l x hs hp x.length 0 (0, 0) (by omega)) (by simp)
        · unfold impl_RestShare.f
          refine Ev.bind (implPart_ev x hs) (evPos hp ?_)
          have hb : ((x.length : Int) == 0) = false := by simpa using h0
          rw [hb]
          refine Ev.step (f := fun k => impl_RestShare.l0 k 0 0 x (x.length : Int) ((0 : Nat) : Int)) (fun k => by rw [impl_RestShare.j0, if_neg (by simp)]; rfl) ?_
          have hpos := all_pos x 0 none (0, 0) 0 hp (by omega) (by omega) (by omega)
          exact evEq (implShare_l x hs x.length 0 (0, 0) (by omega) (by simp only [List.drop_zero]; simp only at hpos; omega)) (by simp)
    · rw [Bool.not_eq_true] at hp
      refine ⟨100, specShare_no x hs hp, ?_⟩
      unfold impl_RestShare.f
      refine Ev.bind (implPart_ev x hs) (evNeg (by rw [hp]; simp) ?_)
      exact evHere fun k => by rw [impl_RestShare.j0, if_pos rfl]
  obtain ⟨v, e1, e2⟩ := key
  exact Ev.bind (to45_ev l hl) (Ev.bind e1 (Ev.bind (to45_ev l hl) (Ev.bind e2 (evPos rfl (Ev.bind (to45_ev l hl) (Ev.bind (eq48_ev _ hs) (evPos rfl (evOf fun _ => rfl))))))))

end Go.Proofs.Ytidegbeadeoaeaa.Pure
