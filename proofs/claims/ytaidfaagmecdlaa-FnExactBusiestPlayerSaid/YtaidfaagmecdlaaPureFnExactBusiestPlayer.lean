/- The plain statement of the law FnExactBusiestPlayer: over numbers and lists, its printed function answers true. No condition. -/
import Derived.Test.YtaidfaagmecdlaaSFnExactBusiestPlayer
namespace Go.Proofs.Ytaidfaagmecdlaa.Pure
open Go.RowKit Go.Proofs.Ytaidfaagmecdlaa Go.Proofs.Ytaidfaagmecdlaa.PFnExactBusiestPlayer Go.Proofs.YtaidfaagmecdlaaW.PrintWords Go.Proofs.YtaidfaagmecdlaaW.PrintLast Go.Proofs.YtaidfaagmecdlaaW.PrintMore
theorem evHere {α : Type} {g : Nat → Option α} {r : α} (h : ∀ k, g (k + 1) = some r) : Ev g r :=
  ⟨1, fun k hk => by obtain ⟨m, rfl⟩ : ∃ m, k = m + 1 := ⟨k - 1, by omega⟩; exact h m⟩
theorem evOf {α : Type} {g : Nat → Option α} {r : α} (h : ∀ k, g k = some r) : Ev g r := ⟨0, fun k _ => h k⟩
theorem evIte {α : Type} {c : Prop} [Decidable c] {g f : Nat → Option α} {r : α} (h : c → Ev g r) (h' : ¬ c → Ev f r) : Ev (fun k => if c then g k else f k) r := by
  by_cases hc : c
  · simp only [if_pos hc]; exact h hc
  · simp only [if_neg hc]; exact h' hc
theorem evPos {α : Type} {c : Prop} [Decidable c] {g f : Nat → Option α} {r : α} (hc : c) (h : Ev g r) : Ev (fun k => if c then g k else f k) r := by
  simp only [if_pos hc]; exact h
theorem evNeg {α : Type} {c : Prop} [Decidable c] {g f : Nat → Option α} {r : α} (hc : ¬ c) (h : Ev f r) : Ev (fun k => if c then g k else f k) r := by
  simp only [if_neg hc]; exact h
theorem evEq {α : Type} {g : Nat → Option α} {r s : α} (h : Ev g r) (e : r = s) : Ev g s := e ▸ h
theorem wrapS {i n : Nat} (h : i < n) (hn : n ≤ 4611686018427387904) : wrap64 ((i : Int) + 1) = ((i + 1 : Nat) : Int) := by unfold wrap64; omega
theorem wrapI {x : Int} (h : -9223372036854775808 ≤ x) (h' : x ≤ 9223372036854775807) : wrap64 x = x := by unfold wrap64; omega
theorem rdN (l : List Int) (i : Nat) : rd l (i : Int) = l.getD i 0 := rfl
theorem rdGet {l : List Int} {i : Nat} (h : i < l.length) : rd l (i : Int) = l[i] := by
  rw [rdN, List.getD_eq_getElem?_getD, List.getElem?_eq_getElem h]; rfl
theorem dropC {α : Type} {l : List α} {i : Nat} (h : i < l.length) : l.drop i = l[i] :: l.drop (i + 1) := List.drop_eq_getElem_cons h

theorem szIntS_no (l : List Int) (n : Int) (h : l.length ≤ 9223372036854775807) (hn : 0 ≤ n) (hn' : n ≤ 1048576) : laws_szIntS.f l n = some (if n < l.length then -1 else n - l.length) := by
  unfold laws_szIntS.f
  rw [wrapI (by omega) (by omega)]
  split <;> split <;> first | rfl | omega
theorem toIntS_l (x : List Int) (hx : x.length ≤ 1048576) : ∀ (d i : Nat) (y : List Int), y.length = x.length → i + d = x.length → y.take i = x.take i → Ev (fun k => laws_toIntS.l0 k x y (i : Int)) x := by
  intro d
  induction d with
  | zero =>
    intro i y hl hi ht
    refine evHere fun k => ?_
    simp only [laws_toIntS.l0]
    rw [if_neg (by omega)]
    rw [List.take_of_length_le (by omega), List.take_of_length_le (by omega)] at ht
    rw [ht]
  | succ d ih =>
    intro i y hl hi ht
    have hi' : i < x.length := by omega
    refine Ev.step (f := fun k => laws_toIntS.l0 k x (y.set i x[i]) ((i + 1 : Nat) : Int)) (fun k => ?_) (ih (i + 1) (y.set i x[i]) (by simp [hl]) (by omega) ?_)
    · simp only [laws_toIntS.l0]
      rw [if_pos (by omega), if_pos (by omega), if_pos (by omega), wrapS hi' (by omega), rdGet hi', Int.toNat_natCast]
    · rw [List.take_succ_eq_append_getElem (by simp; omega), List.take_succ_eq_append_getElem hi', List.take_set_of_le (Nat.le_refl _), ht]
      simp
theorem toIntS_ev (x : List Int) (hx : x.length ≤ 1048576) : Ev (fun k => laws_toIntS.f k x) x := by
  unfold laws_toIntS.f
  refine evPos (by omega) (evPos (by omega) ?_)
  exact toIntS_l x hx x.length 0 _ (by simp) (by omega) (by simp)
theorem eqIntS_l (x : List Int) (hx : x.length ≤ 1048576) : ∀ (d i : Nat), i + d = x.length → Ev (fun k => laws_eqIntS.l0 k x x (i : Int)) true := by
  intro d
  induction d with
  | zero =>
    intro i hi
    refine evHere fun k => ?_
    simp only [laws_eqIntS.l0]
    rw [if_neg (by omega)]
  | succ d ih =>
    intro i hi
    refine Ev.step (f := fun k => laws_eqIntS.l0 k x x ((i + 1 : Nat) : Int)) (fun k => ?_) (ih (i + 1) (by omega))
    rw [laws_eqIntS.l0, if_pos (by omega), if_pos (by omega), if_pos (by omega), if_pos rfl, wrapS (show i < x.length by omega) (by omega)]
theorem eqIntS_ev (x : List Int) (hx : x.length ≤ 1048576) : Ev (fun k => laws_eqIntS.f k x x) true := by
  unfold laws_eqIntS.f
  refine evPos rfl ?_
  exact eqIntS_l x hx x.length 0 (by omega)

structure S75 where
  f0 : Int
  f1 : Int
structure S81 where
  f0 : List S114
  f1 : S75
  f2 : List S116
  f3 : List S118
  f4 : List Int
  f5 : List S120
  f6 : List S147
  f7 : Int
  f8 : Int
def cv66 (x : S66) : S75 := ⟨x.f0, x.f1⟩
theorem to66_ev (x : S66) : Ev (fun _ => laws_toMeter.f x.f0 x.f1) ((cv66 x).f0, (cv66 x).f1) := by
  unfold laws_toMeter.f
  exact evOf fun _ => rfl
theorem eq75_ev (x : S75) : Ev (fun _ => laws_eqMeter.f x.f0 x.f1 x.f0 x.f1) true := by
  unfold laws_eqMeter.f
  exact evPos rfl (evPos rfl (evOf fun _ => rfl))
def B158 (x : S158) : Prop := (x.f3.length ≤ 1048576)
def B72 (x : S72) : Prop := (x.f0.length ≤ 1048576) ∧ (x.f2.length ≤ 1048576) ∧ (x.f3.length ≤ 1048576 ∧ ∀ y ∈ x.f3, B158 y) ∧ (x.f4.length ≤ 1048576) ∧ (x.f5.length ≤ 1048576) ∧ (x.f6.length ≤ 1048576)
theorem sz54_ok (x : List S124) (w : (Fit.Wsl W124) x) (n : Int) (hn : 0 ≤ n) (hm : n ≤ 1048576) : ∃ r, Ev (fun _ => laws_szEventS.f x n) r ∧ (r < 0 ∨ 0 ≤ r ∧ r ≤ n ∧ x.length ≤ 1048576) := by
  have hl : x.length ≤ 9223372036854775807 := w.1
  unfold laws_szEventS.f
  rw [wrapI (by omega) (by omega)]
  by_cases c : n - (x.length : Int) < 0
  · exact ⟨-1, evOf fun _ => by rw [if_pos c], .inl (by omega)⟩
  · exact ⟨n - x.length, evOf fun _ => by rw [if_neg c], .inr ⟨by omega, by omega, by omega⟩⟩
theorem sz67_ok (x : List S160) (w : (Fit.Wsl W160) x) (n : Int) (hn : 0 ≤ n) (hm : n ≤ 1048576) : ∃ r, Ev (fun _ => laws_szTempoS.f x n) r ∧ (r < 0 ∨ 0 ≤ r ∧ r ≤ n ∧ x.length ≤ 1048576) := by
  have hl : x.length ≤ 9223372036854775807 := w.1
  unfold laws_szTempoS.f
  rw [wrapI (by omega) (by omega)]
  by_cases c : n - (x.length : Int) < 0
  · exact ⟨-1, evOf fun _ => by rw [if_pos c], .inl (by omega)⟩
  · exact ⟨n - x.length, evOf fun _ => by rw [if_neg c], .inr ⟨by omega, by omega, by omega⟩⟩
theorem sz25_ok (x : List Int) (w : (Fit.Wsl (Fit.Wint .i64)) x) (n : Int) (hn : 0 ≤ n) (hm : n ≤ 1048576) : ∃ r, Ev (fun _ => laws_szIntS.f x n) r ∧ (r < 0 ∨ 0 ≤ r ∧ r ≤ n ∧ x.length ≤ 1048576) := by
  have hl : x.length ≤ 9223372036854775807 := w.1
  unfold laws_szIntS.f
  rw [wrapI (by omega) (by omega)]
  by_cases c : n - (x.length : Int) < 0
  · exact ⟨-1, evOf fun _ => by rw [if_pos c], .inl (by omega)⟩
  · exact ⟨n - x.length, evOf fun _ => by rw [if_neg c], .inr ⟨by omega, by omega, by omega⟩⟩
theorem sz158_ok (x : S158) (w : W158 x) (n : Int) (hn : 0 ≤ n) (hm : n ≤ 1048576) : ∃ r, Ev (fun _ => laws_szPlayer.f x.f0 x.f1 x.f2 x.f3 n) r ∧ (r < 0 ∨ 0 ≤ r ∧ r ≤ n ∧ B158 x) := by
  unfold laws_szPlayer.f
  obtain ⟨r0, e0, h0⟩ := sz25_ok x.f3 w.2.2.2 n hn hm
  by_cases c0 : r0 < 0
  · exact ⟨-1, Ev.bind e0 (evPos c0 (evOf fun _ => rfl)), .inl (by omega)⟩
  exact ⟨r0, Ev.bind e0 (evNeg c0 (evOf fun _ => rfl)), .inr ⟨by omega, by omega, (h0.resolve_left c0).2.2⟩⟩
theorem rd158 {l : List S158} {i : Nat} (h : i < l.length) : rd_T158 l (i : Int) = l[i] := by
  show l.getD i _ = _
  rw [List.getD_eq_getElem?_getD, List.getElem?_eq_getElem h]; rfl
theorem sz68_l (x : List S158) (w : (Fit.Wsl W158) x) (hx : x.length ≤ 1048576) : ∀ (d i : Nat) (n : Int), i + d = x.length → 0 ≤ n → n ≤ 1048576 → ∃ r, Ev (fun k => laws_szPlayerS.l0 k x n (i : Int)) r ∧ (r < 0 ∨ 0 ≤ r ∧ r ≤ n ∧ ∀ y ∈ x.drop i, B158 y) := by
  intro d
  induction d with
  | zero =>
    intro i n hi hn hm
    refine ⟨n, evHere fun k => ?_, .inr ⟨hn, by omega, by rw [List.drop_eq_nil_of_le (by omega)]; simp⟩⟩
    rw [laws_szPlayerS.l0, if_neg (by omega)]
  | succ d ih =>
    intro i n hi hn hm
    have hi' : i < x.length := by omega
    obtain ⟨r0, e0, h0⟩ := sz158_ok x[i] (w.2 _ (List.getElem_mem hi')) n hn hm
    by_cases c : r0 < 0
    · exact ⟨-1, Ev.step (f := fun k => (laws_szPlayer.f (x[i]).f0 (x[i]).f1 (x[i]).f2 (x[i]).f3 n).bind fun t => if t < 0 then some (-1) else laws_szPlayerS.l0 k x t ((i + 1 : Nat) : Int)) (fun k => by rw [laws_szPlayerS.l0, if_pos (by omega), if_pos (by omega), rd158 hi', wrapS hi' (by omega)]) (Ev.bind e0 (evPos c (evOf fun _ => rfl))), .inl (by omega)⟩
    · obtain ⟨r, e1, h1⟩ := ih (i + 1) r0 (by omega) (by omega) (by omega)
      refine ⟨r, Ev.step (f := fun k => (laws_szPlayer.f (x[i]).f0 (x[i]).f1 (x[i]).f2 (x[i]).f3 n).bind fun t => if t < 0 then some (-1) else laws_szPlayerS.l0 k x t ((i + 1 : Nat) : Int)) (fun k => by rw [laws_szPlayerS.l0, if_pos (by omega), if_pos (by omega), rd158 hi', wrapS hi' (by omega)]) (Ev.bind e0 (evNeg c e1)), h1.imp id fun h => ⟨h.1, by omega, fun y hy => ?_⟩⟩
      rw [dropC hi'] at hy
      rcases List.mem_cons.1 hy with rfl | hy
      · exact (h0.resolve_left c).2.2
      · exact h.2.2 y hy
theorem sz68_ok (x : List S158) (w : (Fit.Wsl W158) x) (n : Int) (hn : 0 ≤ n) (hm : n ≤ 1048576) : ∃ r, Ev (fun k => laws_szPlayerS.f k x n) r ∧ (r < 0 ∨ 0 ≤ r ∧ r ≤ n ∧ x.length ≤ 1048576 ∧ ∀ y ∈ x, B158 y) := by
  have hl : x.length ≤ 9223372036854775807 := w.1
  unfold laws_szPlayerS.f
  rw [wrapI (by omega) (by omega)]
  by_cases c : n - (x.length : Int) < 0
  · exact ⟨-1, evPos c (evOf fun _ => rfl), .inl (by omega)⟩
  · obtain ⟨r, e, h⟩ := sz68_l x w (by omega) x.length 0 (n - x.length) (by omega) (by omega) (by omega)
    exact ⟨r, evNeg c e, h.imp id fun h => ⟨h.1, by omega, by omega, by simpa using h.2.2⟩⟩
theorem sz69_ok (x : List S163) (w : (Fit.Wsl W163) x) (n : Int) (hn : 0 ≤ n) (hm : n ≤ 1048576) : ∃ r, Ev (fun _ => laws_szMarkS.f x n) r ∧ (r < 0 ∨ 0 ≤ r ∧ r ≤ n ∧ x.length ≤ 1048576) := by
  have hl : x.length ≤ 9223372036854775807 := w.1
  unfold laws_szMarkS.f
  rw [wrapI (by omega) (by omega)]
  by_cases c : n - (x.length : Int) < 0
  · exact ⟨-1, evOf fun _ => by rw [if_pos c], .inl (by omega)⟩
  · exact ⟨n - x.length, evOf fun _ => by rw [if_neg c], .inr ⟨by omega, by omega, by omega⟩⟩
theorem sz70_ok (x : List S165) (w : (Fit.Wsl W165) x) (n : Int) (hn : 0 ≤ n) (hm : n ≤ 1048576) : ∃ r, Ev (fun _ => laws_szLetterS.f x n) r ∧ (r < 0 ∨ 0 ≤ r ∧ r ≤ n ∧ x.length ≤ 1048576) := by
  have hl : x.length ≤ 9223372036854775807 := w.1
  unfold laws_szLetterS.f
  rw [wrapI (by omega) (by omega)]
  by_cases c : n - (x.length : Int) < 0
  · exact ⟨-1, evOf fun _ => by rw [if_pos c], .inl (by omega)⟩
  · exact ⟨n - x.length, evOf fun _ => by rw [if_neg c], .inr ⟨by omega, by omega, by omega⟩⟩
theorem sz72_ok (x : S72) (w : W72 x) (n : Int) (hn : 0 ≤ n) (hm : n ≤ 1048576) : ∃ r, Ev (fun k => laws_szOrchestra.f k x.f0 x.f1.f0 x.f1.f1 x.f2 x.f3 x.f4 x.f5 x.f6 x.f7 x.f8 n) r ∧ (r < 0 ∨ 0 ≤ r ∧ r ≤ n ∧ B72 x) := by
  unfold laws_szOrchestra.f
  obtain ⟨r0, e0, h0⟩ := sz54_ok x.f0 w.1 n hn hm
  by_cases c0 : r0 < 0
  · exact ⟨-1, Ev.bind e0 (evPos c0 (evOf fun _ => rfl)), .inl (by omega)⟩
  obtain ⟨r1, e1, h1⟩ := sz67_ok x.f2 w.2.2.1 r0 (by omega) (by omega)
  by_cases c1 : r1 < 0
  · exact ⟨-1, Ev.bind e0 (evNeg c0 (Ev.bind e1 (evPos c1 (evOf fun _ => rfl)))), .inl (by omega)⟩
  obtain ⟨r2, e2, h2⟩ := sz68_ok x.f3 w.2.2.2.1 r1 (by omega) (by omega)
  by_cases c2 : r2 < 0
  · exact ⟨-1, Ev.bind e0 (evNeg c0 (Ev.bind e1 (evNeg c1 (Ev.bind e2 (evPos c2 (evOf fun _ => rfl)))))), .inl (by omega)⟩
  obtain ⟨r3, e3, h3⟩ := sz25_ok x.f4 w.2.2.2.2.1 r2 (by omega) (by omega)
  by_cases c3 : r3 < 0
  · exact ⟨-1, Ev.bind e0 (evNeg c0 (Ev.bind e1 (evNeg c1 (Ev.bind e2 (evNeg c2 (Ev.bind e3 (evPos c3 (evOf fun _ => rfl)))))))), .inl (by omega)⟩
  obtain ⟨r4, e4, h4⟩ := sz69_ok x.f5 w.2.2.2.2.2.1 r3 (by omega) (by omega)
  by_cases c4 : r4 < 0
  · exact ⟨-1, Ev.bind e0 (evNeg c0 (Ev.bind e1 (evNeg c1 (Ev.bind e2 (evNeg c2 (Ev.bind e3 (evNeg c3 (Ev.bind e4 (evPos c4 (evOf fun _ => rfl)))))))))), .inl (by omega)⟩
  obtain ⟨r5, e5, h5⟩ := sz70_ok x.f6 w.2.2.2.2.2.2.1 r4 (by omega) (by omega)
  by_cases c5 : r5 < 0
  · exact ⟨-1, Ev.bind e0 (evNeg c0 (Ev.bind e1 (evNeg c1 (Ev.bind e2 (evNeg c2 (Ev.bind e3 (evNeg c3 (Ev.bind e4 (evNeg c4 (Ev.bind e5 (evPos c5 (evOf fun _ => rfl)))))))))))), .inl (by omega)⟩
  exact ⟨r5, Ev.bind e0 (evNeg c0 (Ev.bind e1 (evNeg c1 (Ev.bind e2 (evNeg c2 (Ev.bind e3 (evNeg c3 (Ev.bind e4 (evNeg c4 (Ev.bind e5 (evNeg c5 (evOf fun _ => rfl)))))))))))), .inr ⟨by omega, by omega, ⟨(h0.resolve_left c0).2.2, (h1.resolve_left c1).2.2, (h2.resolve_left c2).2.2, (h3.resolve_left c3).2.2, (h4.resolve_left c4).2.2, (h5.resolve_left c5).2.2⟩⟩⟩
def cv124 (x : S124) : S114 := ⟨x.f0, x.f1, x.f2, x.f3⟩
theorem to124_ev (x : S124) : Ev (fun _ => laws_toEvent.f x.f0 x.f1 x.f2 x.f3) ((cv124 x).f0, (cv124 x).f1, (cv124 x).f2, (cv124 x).f3) := by
  unfold laws_toEvent.f
  exact evOf fun _ => rfl
theorem rd124 {l : List S124} {i : Nat} (h : i < l.length) : rd_T124 l (i : Int) = l[i] := by
  show l.getD i _ = _
  rw [List.getD_eq_getElem?_getD, List.getElem?_eq_getElem h]; rfl
theorem to54_l (x : List S124) (hx : x.length ≤ 1048576) : ∀ (d i : Nat) (y : List S114), y.length = x.length → i + d = x.length → y.take i = (x.take i).map cv124 → Ev (fun k => laws_toEventS.l0 k x y (i : Int)) (x.map cv124) := by
  have hl := hx
  intro d
  induction d with
  | zero =>
    intro i y hy hi ht
    refine evHere fun k => ?_
    rw [laws_toEventS.l0, if_neg (by omega)]
    rw [List.take_of_length_le (by omega), List.take_of_length_le (by omega)] at ht
    rw [ht]
  | succ d ih =>
    intro i y hy hi ht
    have hi' : i < x.length := by omega
    refine Ev.step (f := fun k => (laws_toEvent.f (x[i]).f0 (x[i]).f1 (x[i]).f2 (x[i]).f3).bind fun t => laws_toEventS.l0 k x (y.set i (⟨t.1, t.2.1, t.2.2.1, t.2.2.2⟩ : S114)) ((i + 1 : Nat) : Int)) (fun k => ?_) (Ev.bind (to124_ev x[i]) (ih (i + 1) (y.set i (cv124 x[i])) (by simp [hy]) (by omega) ?_))
    · rw [laws_toEventS.l0, if_pos (by omega), if_pos (by omega), rd124 hi']
      simp only [if_pos (show (i : Int) < (y.length : Int) by omega), wrapS hi' (show x.length ≤ 4611686018427387904 by omega), Int.toNat_natCast]
    · rw [List.take_succ_eq_append_getElem (by simp; omega), List.take_succ_eq_append_getElem hi', List.map_append, List.take_set_of_le (Nat.le_refl _), ht]
      simp only [List.getElem_set_self, List.map_cons, List.map_nil]
theorem to54_ev (x : List S124) (hx : x.length ≤ 1048576) : Ev (fun k => laws_toEventS.f k x) (x.map cv124) := by
  have hl := hx
  unfold laws_toEventS.f
  refine evPos (by omega) (evPos (by omega) ?_)
  exact to54_l x hx x.length 0 _ (by simp) (by omega) (by simp)
def cv160 (x : S160) : S116 := ⟨x.f0, x.f1⟩
theorem to160_ev (x : S160) : Ev (fun _ => laws_toTempo.f x.f0 x.f1) ((cv160 x).f0, (cv160 x).f1) := by
  unfold laws_toTempo.f
  exact evOf fun _ => rfl
theorem rd160 {l : List S160} {i : Nat} (h : i < l.length) : rd_T160 l (i : Int) = l[i] := by
  show l.getD i _ = _
  rw [List.getD_eq_getElem?_getD, List.getElem?_eq_getElem h]; rfl
theorem to67_l (x : List S160) (hx : x.length ≤ 1048576) : ∀ (d i : Nat) (y : List S116), y.length = x.length → i + d = x.length → y.take i = (x.take i).map cv160 → Ev (fun k => laws_toTempoS.l0 k x y (i : Int)) (x.map cv160) := by
  have hl := hx
  intro d
  induction d with
  | zero =>
    intro i y hy hi ht
    refine evHere fun k => ?_
    rw [laws_toTempoS.l0, if_neg (by omega)]
    rw [List.take_of_length_le (by omega), List.take_of_length_le (by omega)] at ht
    rw [ht]
  | succ d ih =>
    intro i y hy hi ht
    have hi' : i < x.length := by omega
    refine Ev.step (f := fun k => (laws_toTempo.f (x[i]).f0 (x[i]).f1).bind fun t => laws_toTempoS.l0 k x (y.set i (⟨t.1, t.2⟩ : S116)) ((i + 1 : Nat) : Int)) (fun k => ?_) (Ev.bind (to160_ev x[i]) (ih (i + 1) (y.set i (cv160 x[i])) (by simp [hy]) (by omega) ?_))
    · rw [laws_toTempoS.l0, if_pos (by omega), if_pos (by omega), rd160 hi']
      simp only [if_pos (show (i : Int) < (y.length : Int) by omega), wrapS hi' (show x.length ≤ 4611686018427387904 by omega), Int.toNat_natCast]
    · rw [List.take_succ_eq_append_getElem (by simp; omega), List.take_succ_eq_append_getElem hi', List.map_append, List.take_set_of_le (Nat.le_refl _), ht]
      simp only [List.getElem_set_self, List.map_cons, List.map_nil]
theorem to67_ev (x : List S160) (hx : x.length ≤ 1048576) : Ev (fun k => laws_toTempoS.f k x) (x.map cv160) := by
  have hl := hx
  unfold laws_toTempoS.f
  refine evPos (by omega) (evPos (by omega) ?_)
  exact to67_l x hx x.length 0 _ (by simp) (by omega) (by simp)
theorem to25_ev (x : List Int) (h : x.length ≤ 1048576) : Ev (fun k => laws_toIntS.f k x) x := toIntS_ev x h
def cv158 (x : S158) : S118 := ⟨x.f0, x.f1, x.f2, x.f3⟩
theorem to158_ev (x : S158) (h : B158 x) : Ev (fun k => laws_toPlayer.f k x.f0 x.f1 x.f2 x.f3) ((cv158 x).f0, (cv158 x).f1, (cv158 x).f2, (cv158 x).f3) := by
  unfold laws_toPlayer.f
  exact Ev.bind (to25_ev x.f3 h) (evOf fun _ => rfl)
theorem to68_l (x : List S158) (hx : x.length ≤ 1048576 ∧ ∀ y ∈ x, B158 y) : ∀ (d i : Nat) (y : List S118), y.length = x.length → i + d = x.length → y.take i = (x.take i).map cv158 → Ev (fun k => laws_toPlayerS.l0 k x y (i : Int)) (x.map cv158) := by
  have hl := hx.1
  intro d
  induction d with
  | zero =>
    intro i y hy hi ht
    refine evHere fun k => ?_
    rw [laws_toPlayerS.l0, if_neg (by omega)]
    rw [List.take_of_length_le (by omega), List.take_of_length_le (by omega)] at ht
    rw [ht]
  | succ d ih =>
    intro i y hy hi ht
    have hi' : i < x.length := by omega
    refine Ev.step (f := fun k => (laws_toPlayer.f k (x[i]).f0 (x[i]).f1 (x[i]).f2 (x[i]).f3).bind fun t => laws_toPlayerS.l0 k x (y.set i (⟨t.1, t.2.1, t.2.2.1, t.2.2.2⟩ : S118)) ((i + 1 : Nat) : Int)) (fun k => ?_) (Ev.bind (to158_ev x[i] (hx.2 _ (List.getElem_mem hi'))) (ih (i + 1) (y.set i (cv158 x[i])) (by simp [hy]) (by omega) ?_))
    · rw [laws_toPlayerS.l0, if_pos (by omega), if_pos (by omega), rd158 hi']
      simp only [if_pos (show (i : Int) < (y.length : Int) by omega), wrapS hi' (show x.length ≤ 4611686018427387904 by omega), Int.toNat_natCast]
    · rw [List.take_succ_eq_append_getElem (by simp; omega), List.take_succ_eq_append_getElem hi', List.map_append, List.take_set_of_le (Nat.le_refl _), ht]
      simp only [List.getElem_set_self, List.map_cons, List.map_nil]
theorem to68_ev (x : List S158) (hx : x.length ≤ 1048576 ∧ ∀ y ∈ x, B158 y) : Ev (fun k => laws_toPlayerS.f k x) (x.map cv158) := by
  have hl := hx.1
  unfold laws_toPlayerS.f
  refine evPos (by omega) (evPos (by omega) ?_)
  exact to68_l x hx x.length 0 _ (by simp) (by omega) (by simp)
def cv163 (x : S163) : S120 := ⟨x.f0, x.f1, x.f2, x.f3, x.f4⟩
theorem to163_ev (x : S163) : Ev (fun _ => laws_toMark.f x.f0 x.f1 x.f2 x.f3 x.f4) ((cv163 x).f0, (cv163 x).f1, (cv163 x).f2, (cv163 x).f3, (cv163 x).f4) := by
  unfold laws_toMark.f
  exact evOf fun _ => rfl
theorem rd163 {l : List S163} {i : Nat} (h : i < l.length) : rd_T163 l (i : Int) = l[i] := by
  show l.getD i _ = _
  rw [List.getD_eq_getElem?_getD, List.getElem?_eq_getElem h]; rfl
theorem to69_l (x : List S163) (hx : x.length ≤ 1048576) : ∀ (d i : Nat) (y : List S120), y.length = x.length → i + d = x.length → y.take i = (x.take i).map cv163 → Ev (fun k => laws_toMarkS.l0 k x y (i : Int)) (x.map cv163) := by
  have hl := hx
  intro d
  induction d with
  | zero =>
    intro i y hy hi ht
    refine evHere fun k => ?_
    rw [laws_toMarkS.l0, if_neg (by omega)]
    rw [List.take_of_length_le (by omega), List.take_of_length_le (by omega)] at ht
    rw [ht]
  | succ d ih =>
    intro i y hy hi ht
    have hi' : i < x.length := by omega
    refine Ev.step (f := fun k => (laws_toMark.f (x[i]).f0 (x[i]).f1 (x[i]).f2 (x[i]).f3 (x[i]).f4).bind fun t => laws_toMarkS.l0 k x (y.set i (⟨t.1, t.2.1, t.2.2.1, t.2.2.2.1, t.2.2.2.2⟩ : S120)) ((i + 1 : Nat) : Int)) (fun k => ?_) (Ev.bind (to163_ev x[i]) (ih (i + 1) (y.set i (cv163 x[i])) (by simp [hy]) (by omega) ?_))
    · rw [laws_toMarkS.l0, if_pos (by omega), if_pos (by omega), rd163 hi']
      simp only [if_pos (show (i : Int) < (y.length : Int) by omega), wrapS hi' (show x.length ≤ 4611686018427387904 by omega), Int.toNat_natCast]
    · rw [List.take_succ_eq_append_getElem (by simp; omega), List.take_succ_eq_append_getElem hi', List.map_append, List.take_set_of_le (Nat.le_refl _), ht]
      simp only [List.getElem_set_self, List.map_cons, List.map_nil]
theorem to69_ev (x : List S163) (hx : x.length ≤ 1048576) : Ev (fun k => laws_toMarkS.f k x) (x.map cv163) := by
  have hl := hx
  unfold laws_toMarkS.f
  refine evPos (by omega) (evPos (by omega) ?_)
  exact to69_l x hx x.length 0 _ (by simp) (by omega) (by simp)
def cv165 (x : S165) : S147 := ⟨x.f0, x.f1⟩
theorem to165_ev (x : S165) : Ev (fun _ => laws_toLetter.f x.f0 x.f1) ((cv165 x).f0, (cv165 x).f1) := by
  unfold laws_toLetter.f
  exact evOf fun _ => rfl
theorem rd165 {l : List S165} {i : Nat} (h : i < l.length) : rd_T165 l (i : Int) = l[i] := by
  show l.getD i _ = _
  rw [List.getD_eq_getElem?_getD, List.getElem?_eq_getElem h]; rfl
theorem to70_l (x : List S165) (hx : x.length ≤ 1048576) : ∀ (d i : Nat) (y : List S147), y.length = x.length → i + d = x.length → y.take i = (x.take i).map cv165 → Ev (fun k => laws_toLetterS.l0 k x y (i : Int)) (x.map cv165) := by
  have hl := hx
  intro d
  induction d with
  | zero =>
    intro i y hy hi ht
    refine evHere fun k => ?_
    rw [laws_toLetterS.l0, if_neg (by omega)]
    rw [List.take_of_length_le (by omega), List.take_of_length_le (by omega)] at ht
    rw [ht]
  | succ d ih =>
    intro i y hy hi ht
    have hi' : i < x.length := by omega
    refine Ev.step (f := fun k => (laws_toLetter.f (x[i]).f0 (x[i]).f1).bind fun t => laws_toLetterS.l0 k x (y.set i (⟨t.1, t.2⟩ : S147)) ((i + 1 : Nat) : Int)) (fun k => ?_) (Ev.bind (to165_ev x[i]) (ih (i + 1) (y.set i (cv165 x[i])) (by simp [hy]) (by omega) ?_))
    · rw [laws_toLetterS.l0, if_pos (by omega), if_pos (by omega), rd165 hi']
      simp only [if_pos (show (i : Int) < (y.length : Int) by omega), wrapS hi' (show x.length ≤ 4611686018427387904 by omega), Int.toNat_natCast]
    · rw [List.take_succ_eq_append_getElem (by simp; omega), List.take_succ_eq_append_getElem hi', List.map_append, List.take_set_of_le (Nat.le_refl _), ht]
      simp only [List.getElem_set_self, List.map_cons, List.map_nil]
theorem to70_ev (x : List S165) (hx : x.length ≤ 1048576) : Ev (fun k => laws_toLetterS.f k x) (x.map cv165) := by
  have hl := hx
  unfold laws_toLetterS.f
  refine evPos (by omega) (evPos (by omega) ?_)
  exact to70_l x hx x.length 0 _ (by simp) (by omega) (by simp)
def cv72 (x : S72) : S81 := ⟨(x.f0.map cv124), (cv66 x.f1), (x.f2.map cv160), (x.f3.map cv158), x.f4, (x.f5.map cv163), (x.f6.map cv165), x.f7, x.f8⟩
theorem to72_ev (x : S72) (h : B72 x) : Ev (fun k => laws_toOrchestra.f k x.f0 x.f1.f0 x.f1.f1 x.f2 x.f3 x.f4 x.f5 x.f6 x.f7 x.f8) ((cv72 x).f0, (cv72 x).f1.f0, (cv72 x).f1.f1, (cv72 x).f2, (cv72 x).f3, (cv72 x).f4, (cv72 x).f5, (cv72 x).f6, (cv72 x).f7, (cv72 x).f8) := by
  unfold laws_toOrchestra.f
  exact Ev.bind (to54_ev x.f0 h.1) (Ev.bind (to66_ev x.f1) (Ev.bind (to67_ev x.f2 h.2.1) (Ev.bind (to68_ev x.f3 h.2.2.1) (Ev.bind (to25_ev x.f4 h.2.2.2.1) (Ev.bind (to69_ev x.f5 h.2.2.2.2.1) (Ev.bind (to70_ev x.f6 h.2.2.2.2.2) (evOf fun _ => rfl)))))))
def B118 (x : S118) : Prop := (x.f3.length ≤ 1048576)
def B81 (x : S81) : Prop := (x.f0.length ≤ 1048576) ∧ (x.f2.length ≤ 1048576) ∧ (x.f3.length ≤ 1048576 ∧ ∀ y ∈ x.f3, B118 y) ∧ (x.f4.length ≤ 1048576) ∧ (x.f5.length ≤ 1048576) ∧ (x.f6.length ≤ 1048576)
theorem eq114_ev (x : S114) : Ev (fun _ => laws_eqEvent.f x.f0 x.f1 x.f2 x.f3 x.f0 x.f1 x.f2 x.f3) true := by
  unfold laws_eqEvent.f
  exact evPos rfl (evPos rfl (evPos rfl (evPos rfl (evOf fun _ => rfl))))
theorem rd114 {l : List S114} {i : Nat} (h : i < l.length) : rd_T114 l (i : Int) = l[i] := by
  show l.getD i _ = _
  rw [List.getD_eq_getElem?_getD, List.getElem?_eq_getElem h]; rfl
theorem eq58_l (x : List S114) (hx : x.length ≤ 1048576) : ∀ (d i : Nat), i + d = x.length → Ev (fun k => laws_eqEventS.l0 k x x (i : Int)) true := by
  have hl := hx
  intro d
  induction d with
  | zero =>
    intro i hi
    refine evHere fun k => ?_
    rw [laws_eqEventS.l0, if_neg (by omega)]
  | succ d ih =>
    intro i hi
    have hi' : i < x.length := by omega
    refine Ev.step (f := fun k => (laws_eqEvent.f (x[i]).f0 (x[i]).f1 (x[i]).f2 (x[i]).f3 (x[i]).f0 (x[i]).f1 (x[i]).f2 (x[i]).f3).bind fun t => if t = true then laws_eqEventS.l0 k x x ((i + 1 : Nat) : Int) else none) (fun k => ?_) (Ev.bind (eq114_ev x[i]) (evPos rfl (ih (i + 1) (by omega))))
    rw [laws_eqEventS.l0, if_pos (by omega), if_pos (by omega), if_pos (by omega), rd114 hi', wrapS hi' (by omega)]
theorem eq58_ev (x : List S114) (hx : x.length ≤ 1048576) : Ev (fun k => laws_eqEventS.f k x x) true := by
  have hl := hx
  unfold laws_eqEventS.f
  exact evPos rfl (eq58_l x hx x.length 0 (by omega))
theorem eq116_ev (x : S116) : Ev (fun _ => laws_eqTempo.f x.f0 x.f1 x.f0 x.f1) true := by
  unfold laws_eqTempo.f
  exact evPos rfl (evPos rfl (evOf fun _ => rfl))
theorem rd116 {l : List S116} {i : Nat} (h : i < l.length) : rd_T116 l (i : Int) = l[i] := by
  show l.getD i _ = _
  rw [List.getD_eq_getElem?_getD, List.getElem?_eq_getElem h]; rfl
theorem eq76_l (x : List S116) (hx : x.length ≤ 1048576) : ∀ (d i : Nat), i + d = x.length → Ev (fun k => laws_eqTempoS.l0 k x x (i : Int)) true := by
  have hl := hx
  intro d
  induction d with
  | zero =>
    intro i hi
    refine evHere fun k => ?_
    rw [laws_eqTempoS.l0, if_neg (by omega)]
  | succ d ih =>
    intro i hi
    have hi' : i < x.length := by omega
    refine Ev.step (f := fun k => (laws_eqTempo.f (x[i]).f0 (x[i]).f1 (x[i]).f0 (x[i]).f1).bind fun t => if t = true then laws_eqTempoS.l0 k x x ((i + 1 : Nat) : Int) else none) (fun k => ?_) (Ev.bind (eq116_ev x[i]) (evPos rfl (ih (i + 1) (by omega))))
    rw [laws_eqTempoS.l0, if_pos (by omega), if_pos (by omega), if_pos (by omega), rd116 hi', wrapS hi' (by omega)]
theorem eq76_ev (x : List S116) (hx : x.length ≤ 1048576) : Ev (fun k => laws_eqTempoS.f k x x) true := by
  have hl := hx
  unfold laws_eqTempoS.f
  exact evPos rfl (eq76_l x hx x.length 0 (by omega))
theorem eq25_ev (x : List Int) (h : x.length ≤ 1048576) : Ev (fun k => laws_eqIntS.f k x x) true := eqIntS_ev x h
theorem eq118_ev (x : S118) (h : B118 x) : Ev (fun k => laws_eqPlayer.f k x.f0 x.f1 x.f2 x.f3 x.f0 x.f1 x.f2 x.f3) true := by
  unfold laws_eqPlayer.f
  exact evPos rfl (evPos rfl (evPos rfl (Ev.bind (eq25_ev x.f3 h) (evPos rfl (evOf fun _ => rfl)))))
theorem rd118 {l : List S118} {i : Nat} (h : i < l.length) : rd_T118 l (i : Int) = l[i] := by
  show l.getD i _ = _
  rw [List.getD_eq_getElem?_getD, List.getElem?_eq_getElem h]; rfl
theorem eq77_l (x : List S118) (hx : x.length ≤ 1048576 ∧ ∀ y ∈ x, B118 y) : ∀ (d i : Nat), i + d = x.length → Ev (fun k => laws_eqPlayerS.l0 k x x (i : Int)) true := by
  have hl := hx.1
  intro d
  induction d with
  | zero =>
    intro i hi
    refine evHere fun k => ?_
    rw [laws_eqPlayerS.l0, if_neg (by omega)]
  | succ d ih =>
    intro i hi
    have hi' : i < x.length := by omega
    refine Ev.step (f := fun k => (laws_eqPlayer.f k (x[i]).f0 (x[i]).f1 (x[i]).f2 (x[i]).f3 (x[i]).f0 (x[i]).f1 (x[i]).f2 (x[i]).f3).bind fun t => if t = true then laws_eqPlayerS.l0 k x x ((i + 1 : Nat) : Int) else none) (fun k => ?_) (Ev.bind (eq118_ev x[i] (hx.2 _ (List.getElem_mem hi'))) (evPos rfl (ih (i + 1) (by omega))))
    rw [laws_eqPlayerS.l0, if_pos (by omega), if_pos (by omega), if_pos (by omega), rd118 hi', wrapS hi' (by omega)]
theorem eq77_ev (x : List S118) (hx : x.length ≤ 1048576 ∧ ∀ y ∈ x, B118 y) : Ev (fun k => laws_eqPlayerS.f k x x) true := by
  have hl := hx.1
  unfold laws_eqPlayerS.f
  exact evPos rfl (eq77_l x hx x.length 0 (by omega))
theorem eq120_ev (x : S120) : Ev (fun _ => laws_eqMark.f x.f0 x.f1 x.f2 x.f3 x.f4 x.f0 x.f1 x.f2 x.f3 x.f4) true := by
  unfold laws_eqMark.f
  exact evPos rfl (evPos rfl (evPos rfl (evPos rfl (evPos rfl (evOf fun _ => rfl)))))
theorem rd120 {l : List S120} {i : Nat} (h : i < l.length) : rd_T120 l (i : Int) = l[i] := by
  show l.getD i _ = _
  rw [List.getD_eq_getElem?_getD, List.getElem?_eq_getElem h]; rfl
theorem eq78_l (x : List S120) (hx : x.length ≤ 1048576) : ∀ (d i : Nat), i + d = x.length → Ev (fun k => laws_eqMarkS.l0 k x x (i : Int)) true := by
  have hl := hx
  intro d
  induction d with
  | zero =>
    intro i hi
    refine evHere fun k => ?_
    rw [laws_eqMarkS.l0, if_neg (by omega)]
  | succ d ih =>
    intro i hi
    have hi' : i < x.length := by omega
    refine Ev.step (f := fun k => (laws_eqMark.f (x[i]).f0 (x[i]).f1 (x[i]).f2 (x[i]).f3 (x[i]).f4 (x[i]).f0 (x[i]).f1 (x[i]).f2 (x[i]).f3 (x[i]).f4).bind fun t => if t = true then laws_eqMarkS.l0 k x x ((i + 1 : Nat) : Int) else none) (fun k => ?_) (Ev.bind (eq120_ev x[i]) (evPos rfl (ih (i + 1) (by omega))))
    rw [laws_eqMarkS.l0, if_pos (by omega), if_pos (by omega), if_pos (by omega), rd120 hi', wrapS hi' (by omega)]
theorem eq78_ev (x : List S120) (hx : x.length ≤ 1048576) : Ev (fun k => laws_eqMarkS.f k x x) true := by
  have hl := hx
  unfold laws_eqMarkS.f
  exact evPos rfl (eq78_l x hx x.length 0 (by omega))
theorem eq147_ev (x : S147) : Ev (fun _ => laws_eqLetter.f x.f0 x.f1 x.f0 x.f1) true := by
  unfold laws_eqLetter.f
  exact evPos rfl (evPos rfl (evOf fun _ => rfl))
theorem rd147 {l : List S147} {i : Nat} (h : i < l.length) : rd_T147 l (i : Int) = l[i] := by
  show l.getD i _ = _
  rw [List.getD_eq_getElem?_getD, List.getElem?_eq_getElem h]; rfl
theorem eq79_l (x : List S147) (hx : x.length ≤ 1048576) : ∀ (d i : Nat), i + d = x.length → Ev (fun k => laws_eqLetterS.l0 k x x (i : Int)) true := by
  have hl := hx
  intro d
  induction d with
  | zero =>
    intro i hi
    refine evHere fun k => ?_
    rw [laws_eqLetterS.l0, if_neg (by omega)]
  | succ d ih =>
    intro i hi
    have hi' : i < x.length := by omega
    refine Ev.step (f := fun k => (laws_eqLetter.f (x[i]).f0 (x[i]).f1 (x[i]).f0 (x[i]).f1).bind fun t => if t = true then laws_eqLetterS.l0 k x x ((i + 1 : Nat) : Int) else none) (fun k => ?_) (Ev.bind (eq147_ev x[i]) (evPos rfl (ih (i + 1) (by omega))))
    rw [laws_eqLetterS.l0, if_pos (by omega), if_pos (by omega), if_pos (by omega), rd147 hi', wrapS hi' (by omega)]
theorem eq79_ev (x : List S147) (hx : x.length ≤ 1048576) : Ev (fun k => laws_eqLetterS.f k x x) true := by
  have hl := hx
  unfold laws_eqLetterS.f
  exact evPos rfl (eq79_l x hx x.length 0 (by omega))
theorem eq81_ev (x : S81) (h : B81 x) : Ev (fun k => laws_eqOrchestra.f k x.f0 x.f1.f0 x.f1.f1 x.f2 x.f3 x.f4 x.f5 x.f6 x.f7 x.f8 x.f0 x.f1.f0 x.f1.f1 x.f2 x.f3 x.f4 x.f5 x.f6 x.f7 x.f8) true := by
  unfold laws_eqOrchestra.f
  exact Ev.bind (eq58_ev x.f0 h.1) (evPos rfl (Ev.bind (eq75_ev x.f1) (evPos rfl (Ev.bind (eq76_ev x.f2 h.2.1) (evPos rfl (Ev.bind (eq77_ev x.f3 h.2.2.1) (evPos rfl (Ev.bind (eq25_ev x.f4 h.2.2.2.1) (evPos rfl (Ev.bind (eq78_ev x.f5 h.2.2.2.2.1) (evPos rfl (Ev.bind (eq79_ev x.f6 h.2.2.2.2.2) (evPos rfl (evPos rfl (evPos rfl (evOf fun _ => rfl))))))))))))))))
theorem sz22_ok (x : List Int) (w : (Fit.Wsl (Fit.Wint .i64)) x) (n : Int) (hn : 0 ≤ n) (hm : n ≤ 1048576) : ∃ r, Ev (fun _ => laws_szIntS.f x n) r ∧ (r < 0 ∨ 0 ≤ r ∧ r ≤ n ∧ x.length ≤ 1048576) := by
  have hl : x.length ≤ 9223372036854775807 := w.1
  unfold laws_szIntS.f
  rw [wrapI (by omega) (by omega)]
  by_cases c : n - (x.length : Int) < 0
  · exact ⟨-1, evOf fun _ => by rw [if_pos c], .inl (by omega)⟩
  · exact ⟨n - x.length, evOf fun _ => by rw [if_neg c], .inr ⟨by omega, by omega, by omega⟩⟩
theorem to22_ev (x : List Int) (h : x.length ≤ 1048576) : Ev (fun k => laws_toIntS.f k x) x := toIntS_ev x h
theorem eq22_ev (x : List Int) (h : x.length ≤ 1048576) : Ev (fun k => laws_eqIntS.f k x x) true := eqIntS_ev x h
theorem cvB158 (x : S158) (h : B158 x) : B118 (cv158 x) := h
theorem cvB72 (x : S72) (h : B72 x) : B81 (cv72 x) := ⟨(Nat.le_trans (Nat.le_of_eq (@List.length_map _ _ x.f0 cv124)) h.1), (Nat.le_trans (Nat.le_of_eq (@List.length_map _ _ x.f2 cv160)) h.2.1), ⟨Nat.le_trans (Nat.le_of_eq (@List.length_map _ _ x.f3 cv158)) h.2.2.1.1, fun y hy => by obtain ⟨z, hz, rfl⟩ := List.mem_map.1 hy; exact cvB158 z (h.2.2.1.2 z hz)⟩, h.2.2.2.1, (Nat.le_trans (Nat.le_of_eq (@List.length_map _ _ x.f5 cv163)) h.2.2.2.2.1), (Nat.le_trans (Nat.le_of_eq (@List.length_map _ _ x.f6 cv165)) h.2.2.2.2.2)⟩

def ofVoice (v : Int) (e : S114) : Bool := decide (e.f3 = v)
theorem specVoice_l (x : List S114) (v : Int) (hx : x.length ≤ 1048576) : ∀ (d i : Nat) (y : List S114), i + d = x.length → y.length ≤ i → Ev (fun k => spec_VoiceOf.l0 k x v y (i : Int)) (y ++ (x.drop i).filter (ofVoice v)) := by
  intro d
  induction d with
  | zero =>
    intro i y hi hy
    refine evHere fun k => ?_
    rw [spec_VoiceOf.l0, if_neg (by omega), List.drop_eq_nil_of_le (by omega)]
    simp
  | succ d ih =>
    intro i y hi hy
    have hi' : i < x.length := by omega
    rw [dropC hi', List.filter_cons]
    by_cases c : (x[i]).f3 = v
    · rw [if_pos (show ofVoice v x[i] = true from decide_eq_true c)]
      refine Ev.step (f := fun k => spec_VoiceOf.l0 k x v (y ++ [x[i]]) ((i + 1 : Nat) : Int)) (fun k => ?_) (evEq (ih (i + 1) (y ++ [x[i]]) (by omega) (by simp; omega)) (by simp))
      rw [spec_VoiceOf.l0, if_pos (by omega), if_pos (by omega), rd114 hi', if_pos c, if_pos (by omega), wrapS hi' (by omega)]
    · rw [if_neg (show ¬ ofVoice v x[i] = true from fun h => c (of_decide_eq_true h))]
      refine Ev.step (f := fun k => spec_VoiceOf.l0 k x v y ((i + 1 : Nat) : Int)) (fun k => ?_) (ih (i + 1) y (by omega) (by omega))
      rw [spec_VoiceOf.l0, if_pos (by omega), if_pos (by omega), rd114 hi', if_neg c, wrapS hi' (by omega)]
theorem specVoice_ev (x : List S114) (v : Int) (hx : x.length ≤ 1048576) : Ev (fun k => spec_VoiceOf.f k x v) (x.filter (ofVoice v)) := by
  unfold spec_VoiceOf.f
  exact evEq (specVoice_l x v hx x.length 0 [] (by omega) (by simp)) (by simp)
theorem voice1 (e : S114) (v : Int) : impl_VoiceOf_1.f e.f0 e.f1 e.f2 e.f3 [v] = some (!ofVoice v e) := by
  unfold impl_VoiceOf_1.f ofVoice
  rw [if_pos (by simp)]
  show some (e.f3 != v) = some (!decide (e.f3 = v))
  rfl
theorem voiceIndex_l (x : List S114) (v : Int) (hx : x.length ≤ 1048576) : ∀ (d i : Nat), i + d = x.length → (∀ e ∈ x.take i, ofVoice v e = true) → ∃ r, Ev (fun k => slices_IndexFunc_impl_Event_impl_Event_w_impl_VoiceOf_1.l0 k x (x.length : Int) (i : Int) [v]) r ∧ (r = -1 ∧ (∀ e ∈ x, ofVoice v e = true) ∨ ∃ (j : Nat) (h : j < x.length), r = (j : Int) ∧ (∀ e ∈ x.take j, ofVoice v e = true) ∧ ofVoice v x[j] = false) := by
  intro d
  induction d with
  | zero =>
    intro i hi ha
    rw [List.take_of_length_le (by omega)] at ha
    refine ⟨-1, evHere fun k => ?_, .inl ⟨rfl, ha⟩⟩
    rw [slices_IndexFunc_impl_Event_impl_Event_w_impl_VoiceOf_1.l0, if_neg (by omega)]
  | succ d ih =>
    intro i hi ha
    have hi' : i < x.length := by omega
    by_cases c : ofVoice v x[i] = true
    · obtain ⟨r, er, hr⟩ := ih (i + 1) (by omega) (fun e he => by
        rw [List.take_succ_eq_append_getElem hi'] at he
        rcases List.mem_append.1 he with he | he
        · exact ha e he
        · rw [List.mem_singleton.1 he]; exact c)
      refine ⟨r, Ev.step (f := fun k => slices_IndexFunc_impl_Event_impl_Event_w_impl_VoiceOf_1.l0 k x (x.length : Int) ((i + 1 : Nat) : Int) [v]) (fun k => ?_) er, hr⟩
      rw [slices_IndexFunc_impl_Event_impl_Event_w_impl_VoiceOf_1.l0, if_pos (by omega), if_pos (by omega), if_pos (by omega), rd114 hi', voice1, c, wrapS hi' (by omega)]
      rfl
    · have c' : ofVoice v x[i] = false := Bool.eq_false_iff.2 c
      refine ⟨(i : Int), evHere fun k => ?_, .inr ⟨i, hi', rfl, ha, c'⟩⟩
      rw [slices_IndexFunc_impl_Event_impl_Event_w_impl_VoiceOf_1.l0, if_pos (by omega), if_pos (by omega), if_pos (by omega), rd114 hi', voice1, c']
      rfl
theorem voiceDelete_l (x : List S114) (v : Int) (hx : x.length ≤ 1048576) : ∀ (d j i : Nat) (y : List S114), j + d = x.length → y.length = x.length → i ≤ j → y.take i = (x.take j).filter (ofVoice v) → y.drop j = x.drop j → Ev (fun k => slices_DeleteFunc_impl_Event_impl_Event_w_impl_VoiceOf_1.l0 k y (i : Int) (j : Int) [v]) (x.filter (ofVoice v)) := by
  intro d
  induction d with
  | zero =>
    intro j i y hj hy hij ht hd
    refine evHere fun k => ?_
    rw [slices_DeleteFunc_impl_Event_impl_Event_w_impl_VoiceOf_1.l0, if_neg (by omega), if_pos (by omega), if_pos (by omega), Int.toNat_natCast, List.take_left' (by rw [List.length_take]; omega), ht, List.take_of_length_le (by omega)]
  | succ d ih =>
    intro j i y hj hy hij ht hd
    have hj' : j < x.length := by omega
    have hjy : j < y.length := by omega
    have he : y[j] = x[j] := by
      have := hd
      rw [dropC hjy, dropC hj'] at this
      exact (List.cons.inj this).1
    have hd' : y.drop (j + 1) = x.drop (j + 1) := by
      have := hd
      rw [dropC hjy, dropC hj'] at this
      exact (List.cons.inj this).2
    by_cases c : ofVoice v x[j] = true
    · refine Ev.step (f := fun k => slices_DeleteFunc_impl_Event_impl_Event_w_impl_VoiceOf_1.l0 k (y.set i x[j]) ((i + 1 : Nat) : Int) ((j + 1 : Nat) : Int) [v]) (fun k => ?_) (ih (j + 1) (i + 1) (y.set i x[j]) (by omega) (by simp [hy]) (by omega) ?_ ?_)
      · rw [slices_DeleteFunc_impl_Event_impl_Event_w_impl_VoiceOf_1.l0, if_pos (by omega), if_pos (by omega), rd114 hjy, he, voice1, c, wrapS hjy (by omega), wrapS (show i < y.length by omega) (by omega), Int.toNat_natCast]
        simp only [Bool.not_true, Option.bind_some]
        rw [if_neg (by simp), if_pos (by omega), if_pos (by omega)]
      · rw [List.take_succ_eq_append_getElem (by simp; omega), List.take_succ_eq_append_getElem hj', List.filter_append, List.take_set_of_le (Nat.le_refl _), ht]
        simp [c]
      · rw [List.drop_set_of_lt (by omega)]
        exact hd'
    · have c' : ofVoice v x[j] = false := Bool.eq_false_iff.2 c
      refine Ev.step (f := fun k => slices_DeleteFunc_impl_Event_impl_Event_w_impl_VoiceOf_1.l0 k y (i : Int) ((j + 1 : Nat) : Int) [v]) (fun k => ?_) (ih (j + 1) i y (by omega) hy (by omega) ?_ hd')
      · rw [slices_DeleteFunc_impl_Event_impl_Event_w_impl_VoiceOf_1.l0, if_pos (by omega), if_pos (by omega), rd114 hjy, he, voice1, c', wrapS hjy (by omega)]
        rfl
      · rw [List.take_succ_eq_append_getElem hj', List.filter_append, ht]
        simp [c']
theorem implVoice_ev (x : List S114) (v : Int) (hx : x.length ≤ 1048576) : Ev (fun k => impl_VoiceOf.f k x v) (x.filter (ofVoice v)) := by
  unfold impl_VoiceOf.f impl_clone_impl_Event.f
  refine Ev.bind (evOf (r := x) fun _ => ?_) ?_
  · simp only [Option.bind_some, List.nil_append]
    rw [if_pos (by simp; omega)]
  refine Ev.bind ?_ (evOf fun _ => rfl)
  unfold slices_DeleteFunc_impl_Event_impl_Event_w_impl_VoiceOf_1.f slices_IndexFunc_impl_Event_impl_Event_w_impl_VoiceOf_1.f
  obtain ⟨r, er, hr⟩ := voiceIndex_l x v hx x.length 0 (by omega) (by simp)
  refine Ev.bind er ?_
  rcases hr with ⟨rfl, ha⟩ | ⟨j, hj, rfl, ha, hb⟩
  · refine evPos rfl (evOf fun _ => ?_)
    rw [List.filter_eq_self.2 ha]
  · refine evNeg (by omega) ?_
    rw [wrapS hj (by omega)]
    refine voiceDelete_l x v hx (x.length - (j + 1)) (j + 1) j x (by omega) rfl (by omega) ?_ rfl
    rw [List.take_succ_eq_append_getElem hj, List.filter_append, List.filter_eq_self.2 ha]
    simp [hb]

def busyOf (o : S81) : List Int → Nat → Int → Int → Int
  | [], _, b, _ => b
  | s :: l, i, b, m => if (((o.f0.filter (ofVoice ((i + 1 : Nat) : Int))).length : Nat) : Int) > m then busyOf o l (i + 1) s (((o.f0.filter (ofVoice ((i + 1 : Nat) : Int))).length : Nat) : Int) else busyOf o l (i + 1) b m
theorem specBusy_l (x : S81) (h0 : x.f0.length ≤ 1048576) (h4 : x.f4.length ≤ 1048576) : ∀ (d i : Nat) (b m : Int), i + d = x.f4.length → Ev (fun k => spec_BusiestPlayer.l0 k b m (i : Int) x.f0 x.f1.f0 x.f1.f1 x.f2 x.f3 x.f4 x.f5 x.f6 x.f7 x.f8) (busyOf x (x.f4.drop i) i b m) := by
  intro d
  induction d with
  | zero =>
    intro i b m hi
    refine evHere fun k => ?_
    rw [spec_BusiestPlayer.l0, if_neg (by omega), List.drop_eq_nil_of_le (by omega)]
    rfl
  | succ d ih =>
    intro i b m hi
    have hi' : i < x.f4.length := by omega
    rw [dropC hi']
    by_cases c : (((x.f0.filter (ofVoice ((i + 1 : Nat) : Int))).length : Nat) : Int) > m
    · refine Ev.step (f := fun k => (spec_VoiceOf.f k x.f0 ((i + 1 : Nat) : Int)).bind fun t => if (t.length : Int) > m then spec_BusiestPlayer.l0 k x.f4[i] (t.length : Int) ((i + 1 : Nat) : Int) x.f0 x.f1.f0 x.f1.f1 x.f2 x.f3 x.f4 x.f5 x.f6 x.f7 x.f8 else spec_BusiestPlayer.l0 k b m ((i + 1 : Nat) : Int) x.f0 x.f1.f0 x.f1.f1 x.f2 x.f3 x.f4 x.f5 x.f6 x.f7 x.f8) (fun k => ?_) (Ev.bind (specVoice_ev x.f0 _ h0) (evPos c (evEq (ih (i + 1) _ _ (by omega)) ?_)))
      · rw [spec_BusiestPlayer.l0, if_pos (by omega), wrapS hi' (by omega), rdGet hi']
        simp only [if_pos (show 0 ≤ (i : Int) by omega)]
      · rw [busyOf, if_pos c]
    · refine Ev.step (f := fun k => (spec_VoiceOf.f k x.f0 ((i + 1 : Nat) : Int)).bind fun t => if (t.length : Int) > m then spec_BusiestPlayer.l0 k x.f4[i] (t.length : Int) ((i + 1 : Nat) : Int) x.f0 x.f1.f0 x.f1.f1 x.f2 x.f3 x.f4 x.f5 x.f6 x.f7 x.f8 else spec_BusiestPlayer.l0 k b m ((i + 1 : Nat) : Int) x.f0 x.f1.f0 x.f1.f1 x.f2 x.f3 x.f4 x.f5 x.f6 x.f7 x.f8) (fun k => ?_) (Ev.bind (specVoice_ev x.f0 _ h0) (evNeg c (evEq (ih (i + 1) _ _ (by omega)) ?_)))
      · rw [spec_BusiestPlayer.l0, if_pos (by omega), wrapS hi' (by omega), rdGet hi']
        simp only [if_pos (show 0 ≤ (i : Int) by omega)]
      · rw [busyOf, if_neg c]
theorem implBusy_l (x : S81) (h0 : x.f0.length ≤ 1048576) (h4 : x.f4.length ≤ 1048576) : ∀ (d i : Nat) (b m : Int), i + d = x.f4.length → Ev (fun k => impl_BusiestPlayer.l0 k b m x.f4 (x.f4.length : Int) (i : Int) x.f0 x.f1.f0 x.f1.f1 x.f2 x.f3 x.f4 x.f5 x.f6 x.f7 x.f8) (busyOf x (x.f4.drop i) i b m) := by
  intro d
  induction d with
  | zero =>
    intro i b m hi
    refine evHere fun k => ?_
    rw [impl_BusiestPlayer.l0, if_neg (by omega), List.drop_eq_nil_of_le (by omega)]
    rfl
  | succ d ih =>
    intro i b m hi
    have hi' : i < x.f4.length := by omega
    rw [dropC hi']
    by_cases c : (((x.f0.filter (ofVoice ((i + 1 : Nat) : Int))).length : Nat) : Int) > m
    · refine Ev.step (f := fun k => (impl_VoiceOf.f k x.f0 ((i + 1 : Nat) : Int)).bind fun t => if (t.length : Int) > m then impl_BusiestPlayer.l0 k x.f4[i] (t.length : Int) x.f4 (x.f4.length : Int) ((i + 1 : Nat) : Int) x.f0 x.f1.f0 x.f1.f1 x.f2 x.f3 x.f4 x.f5 x.f6 x.f7 x.f8 else impl_BusiestPlayer.l0 k b m x.f4 (x.f4.length : Int) ((i + 1 : Nat) : Int) x.f0 x.f1.f0 x.f1.f1 x.f2 x.f3 x.f4 x.f5 x.f6 x.f7 x.f8) (fun k => ?_) (Ev.bind (implVoice_ev x.f0 _ h0) (evPos c (evEq (ih (i + 1) _ _ (by omega)) ?_)))
      · rw [impl_BusiestPlayer.l0, if_pos (by omega), if_pos (by omega), if_pos (by omega), wrapS hi' (by omega), rdGet hi']
      · rw [busyOf, if_pos c]
    · refine Ev.step (f := fun k => (impl_VoiceOf.f k x.f0 ((i + 1 : Nat) : Int)).bind fun t => if (t.length : Int) > m then impl_BusiestPlayer.l0 k x.f4[i] (t.length : Int) x.f4 (x.f4.length : Int) ((i + 1 : Nat) : Int) x.f0 x.f1.f0 x.f1.f1 x.f2 x.f3 x.f4 x.f5 x.f6 x.f7 x.f8 else impl_BusiestPlayer.l0 k b m x.f4 (x.f4.length : Int) ((i + 1 : Nat) : Int) x.f0 x.f1.f0 x.f1.f1 x.f2 x.f3 x.f4 x.f5 x.f6 x.f7 x.f8) (fun k => ?_) (Ev.bind (implVoice_ev x.f0 _ h0) (evNeg c (evEq (ih (i + 1) _ _ (by omega)) ?_)))
      · rw [impl_BusiestPlayer.l0, if_pos (by omega), if_pos (by omega), if_pos (by omega), wrapS hi' (by omega), rdGet hi']
      · rw [busyOf, if_neg c]
theorem specBusy_ev (x : S81) (h0 : x.f0.length ≤ 1048576) (h4 : x.f4.length ≤ 1048576) : Ev (fun k => spec_BusiestPlayer.f k x.f0 x.f1.f0 x.f1.f1 x.f2 x.f3 x.f4 x.f5 x.f6 x.f7 x.f8) (busyOf x x.f4 0 0 (-1)) := by
  unfold spec_BusiestPlayer.f
  exact specBusy_l x h0 h4 x.f4.length 0 _ _ (by omega)
theorem implBusy_ev (x : S81) (h0 : x.f0.length ≤ 1048576) (h4 : x.f4.length ≤ 1048576) : Ev (fun k => impl_BusiestPlayer.f k x.f0 x.f1.f0 x.f1.f1 x.f2 x.f3 x.f4 x.f5 x.f6 x.f7 x.f8) (busyOf x x.f4 0 0 (-1)) := by
  unfold impl_BusiestPlayer.f
  exact implBusy_l x h0 h4 x.f4.length 0 _ _ (by omega)
theorem FnExactBusiestPlayer : laws_FnExactBusiestPlayer.Pure := by
  intro o w
  apply Ev.rounds
  unfold laws_FnExactBusiestPlayer.f
  obtain ⟨r, er, hr⟩ := sz72_ok o w 1048576 (by omega) (by omega)
  refine Ev.bind er (evIte (fun _ => evOf fun _ => rfl) fun c => ?_)
  have hl := (hr.resolve_left c).2.2
  have hs := cvB72 o hl
  exact Ev.bind (to72_ev o hl) (Ev.bind (specBusy_ev (cv72 o) hs.1 hs.2.2.2.1) (Ev.bind (to72_ev o hl) (Ev.bind (implBusy_ev (cv72 o) hs.1 hs.2.2.2.1) (evPos rfl (Ev.bind (to72_ev o hl) (Ev.bind (eq81_ev _ hs) (evPos rfl (evOf fun _ => rfl))))))))

end Go.Proofs.Ytaidfaagmecdlaa.Pure
