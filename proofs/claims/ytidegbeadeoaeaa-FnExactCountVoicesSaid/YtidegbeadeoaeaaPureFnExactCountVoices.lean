/- The plain statement of the law FnExactCountVoices: over numbers and lists, its printed function answers true. No condition. -/
import Derived.Test.YtidegbeadeoaeaaSFnExactCountVoices
namespace Go.Proofs.Ytidegbeadeoaeaa.Pure
open Go.RowKit Go.Proofs.Ytidegbeadeoaeaa Go.Proofs.Ytidegbeadeoaeaa.PFnExactCountVoices Go.Proofs.YtidegbeadeoaeaaW.PrintWords Go.Proofs.YtidegbeadeoaeaaW.PrintLast
theorem evHere {α : Type} {g : Nat → Option α} {r : α} (h : ∀ k, g (k + 1) = some r) : Ev g r :=
  ⟨1, fun k hk => by obtain ⟨m, rfl⟩ : ∃ m, k = m + 1 := ⟨k - 1, by omega⟩; exact h m⟩
theorem evOf {α : Type} {g : Nat → Option α} {r : α} (h : ∀ k, g k = some r) : Ev g r := ⟨0, fun k _ => h k⟩
theorem evIte {α : Type} {c : Prop} [Decidable c] {g f : Nat → Option α} {r : α} (h : c → Ev g r) (h' : ¬ c → Ev f r) : Ev (fun k => if c then g k else f k) r := by
  by_cases hc : c
  · simp only [if_pos hc]; exact h hc
  · simp only [if_neg hc]; exact h' hc
theorem evPos {α : Type} {c : Prop} [Decidable c] {g f : Nat → Option α} {r : α} (hc : c) (h : Ev g r) : Ev (fun k => if c then g k else f k) r := by
  simp only [if_pos hc]; exact h
theorem evNeg {α : Type} {c : Prop} [Decidable c] {g f : Nat → Option α} {r : α} (hc : ¬ c) (h : Ev f r) : Ev (fun k => if c then g k else f k) r := by
  simp only [if_neg hc]; exact h
theorem evEq {α : Type} {g : Nat → Option α} {r s : α} (h : Ev g r) (e : r = s) : Ev g s := e ▸ h
theorem wrapS {i n : Nat} (h : i < n) (hn : n ≤ 4611686018427387904) : wrap64 ((i : Int) + 1) = ((i + 1 : Nat) : Int) := by unfold wrap64; omega
theorem wrapI {x : Int} (h : -9223372036854775808 ≤ x) (h' : x ≤ 9223372036854775807) : wrap64 x = x := by unfold wrap64; omega
theorem rdN (l : List Int) (i : Nat) : rd l (i : Int) = l.getD i 0 := rfl
theorem rdGet {l : List Int} {i : Nat} (h : i < l.length) : rd l (i : Int) = l[i] := by
  rw [rdN, List.getD_eq_getElem?_getD, List.getElem?_eq_getElem h]; rfl
theorem dropC {α : Type} {l : List α} {i : Nat} (h : i < l.length) : l.drop i = l[i] :: l.drop (i + 1) := List.drop_eq_getElem_cons h

def cvEvent (x : S88) : S86 := ⟨x.f0, x.f1, x.f2, x.f3⟩
theorem rdEvent {l : List S86} {i : Nat} (h : i < l.length) : rd_T86 l (i : Int) = l[i] := by
  show l.getD i _ = _
  rw [List.getD_eq_getElem?_getD, List.getElem?_eq_getElem h]; rfl
theorem rdEvent' {l : List S88} {i : Nat} (h : i < l.length) : rd_T88 l (i : Int) = l[i] := by
  show l.getD i _ = _
  rw [List.getD_eq_getElem?_getD, List.getElem?_eq_getElem h]; rfl
theorem szEventS_no (l : List S88) (n : Int) (h : l.length ≤ 9223372036854775807) (hn : 0 ≤ n) (hn' : n ≤ 1048576) : laws_szEventS.f l n = some (if n < l.length then -1 else n - l.length) := by
  unfold laws_szEventS.f
  rw [wrapI (by omega) (by omega)]
  split <;> split <;> first | rfl | omega
theorem toEventS_l (x : List S88) (hx : x.length ≤ 1048576) : ∀ (d i : Nat) (y : List S86), y.length = x.length → i + d = x.length → y.take i = (x.take i).map cvEvent → Ev (fun k => laws_toEventS.l0 k x y (i : Int)) (x.map cvEvent) := by
  intro d
  induction d with
  | zero =>
    intro i y hl hi ht
    refine evHere fun k => ?_
    rw [laws_toEventS.l0, if_neg (by omega)]
    rw [List.take_of_length_le (by omega), List.take_of_length_le (by omega)] at ht
    rw [ht]
  | succ d ih =>
    intro i y hl hi ht
    have hi' : i < x.length := by omega
    refine Ev.step (f := fun k => laws_toEventS.l0 k x (y.set i (cvEvent x[i])) ((i + 1 : Nat) : Int)) (fun k => ?_) (ih (i + 1) (y.set i (cvEvent x[i])) (by simp [hl]) (by omega) ?_)
    · rw [laws_toEventS.l0, if_pos (by omega), if_pos (by omega), rdEvent' hi']
      unfold laws_toEvent.f
      simp only [Option.bind_some]
      rw [if_pos (by omega), wrapS hi' (by omega), Int.toNat_natCast]
      rfl
    · rw [List.take_succ_eq_append_getElem (by simp; omega), List.take_succ_eq_append_getElem hi', List.map_append, List.take_set_of_le (Nat.le_refl _), ht]
      simp only [List.getElem_set_self, List.map_cons, List.map_nil]
theorem toEventS_ev (x : List S88) (hx : x.length ≤ 1048576) : Ev (fun k => laws_toEventS.f k x) (x.map cvEvent) := by
  unfold laws_toEventS.f
  refine evPos (by omega) (evPos (by omega) ?_)
  exact toEventS_l x hx x.length 0 _ (by simp) (by omega) (by simp)
theorem eqEventS_l (x : List S86) (hx : x.length ≤ 1048576) : ∀ (d i : Nat), i + d = x.length → Ev (fun k => laws_eqEventS.l0 k x x (i : Int)) true := by
  intro d
  induction d with
  | zero =>
    intro i hi
    refine evHere fun k => ?_
    rw [laws_eqEventS.l0, if_neg (by omega)]
  | succ d ih =>
    intro i hi
    refine Ev.step (f := fun k => laws_eqEventS.l0 k x x ((i + 1 : Nat) : Int)) (fun k => ?_) (ih (i + 1) (by omega))
    rw [laws_eqEventS.l0, if_pos (by omega), if_pos (by omega), if_pos (by omega), wrapS (show i < x.length by omega) (by omega)]
    unfold laws_eqEvent.f
    simp
theorem eqEventS_ev (x : List S86) (hx : x.length ≤ 1048576) : Ev (fun k => laws_eqEventS.f k x x) true := by
  unfold laws_eqEventS.f
  refine evPos rfl ?_
  exact eqEventS_l x hx x.length 0 (by omega)

def num8 : List Int → Int → List Int
  | [], n => [n]
  | a :: t, n => if a < n then a :: num8 t n else if a = n then a :: t else n :: a :: t
theorem num8_mem (l : List Int) (n x : Int) : x ∈ num8 l n ↔ x = n ∨ x ∈ l := by
  induction l with
  | nil => simp [num8]
  | cons a t ih =>
    unfold num8
    split
    · rw [List.mem_cons, ih, List.mem_cons]
      constructor
      · rintro (h | h | h)
        · exact .inr (.inl h)
        · exact .inl h
        · exact .inr (.inr h)
      · rintro (h | h | h)
        · exact .inr (.inl h)
        · exact .inl h
        · exact .inr (.inr h)
    · split
      · rename_i _ e
        subst e
        rw [List.mem_cons]
        constructor
        · intro h
          exact .inr h
        · rintro (h | h)
          · exact .inl h
          · exact h
      · rw [List.mem_cons]
theorem num8_lt (l : List Int) (n : Int) (h : l.Pairwise (· < ·)) : (num8 l n).Pairwise (· < ·) := by
  induction l with
  | nil => simp [num8]
  | cons a t ih =>
    obtain ⟨h1, h2⟩ := List.pairwise_cons.1 h
    unfold num8
    split
    · rename_i c
      refine List.pairwise_cons.2 ⟨fun x hx => ?_, ih h2⟩
      rcases (num8_mem t n x).1 hx with rfl | hx
      · exact c
      · exact h1 x hx
    · split
      · exact h
      · rename_i c c'
        refine List.pairwise_cons.2 ⟨fun x hx => ?_, h⟩
        rcases List.mem_cons.1 hx with rfl | hx
        · omega
        · have := h1 x hx
          omega
theorem num8_length (l : List Int) (n : Int) : (num8 l n).length ≤ l.length + 1 := by
  induction l with
  | nil => simp [num8]
  | cons a t ih =>
    unfold num8
    split
    · simp only [List.length_cons]; omega
    · split <;> simp
theorem num8_l (x : List Int) (n : Int) (hx : x.length ≤ 1048576) : ∀ (d i : Nat), i + d = x.length → Ev (fun k => spec_l8Num.l0 k x n (i : Int)) (x.take i ++ num8 (x.drop i) n) := by
  intro d
  induction d with
  | zero =>
    intro i hi
    refine evHere fun k => ?_
    have ht : (x.take i).length ≤ 1048576 := by rw [List.length_take]; omega
    rw [spec_l8Num.l0, if_neg (by omega)]
    simp only [Option.bind_some, List.nil_append, List.length_nil, Int.toNat_natCast]
    rw [if_pos (by omega), if_pos (by omega), if_pos (by omega), if_pos (by simp only [List.length_cons, List.length_nil]; omega), if_pos (by rw [List.length_append, List.length_drop]; simp only [List.length_cons, List.length_nil]; omega)]
    rw [List.drop_eq_nil_of_le (by omega)]
    simp [num8]
  | succ d ih =>
    intro i hi
    have hi' : i < x.length := by omega
    have ht : (x.take i).length ≤ 1048576 := by rw [List.length_take]; omega
    have hcut : x.take i ++ x[i] :: x.drop (i + 1) = x := by rw [← dropC hi', List.take_append_drop]
    rw [dropC hi']
    unfold num8
    by_cases e : x[i] < n
    · rw [if_pos e]
      refine Ev.step (f := fun k => spec_l8Num.l0 k x n ((i + 1 : Nat) : Int)) (fun k => ?_) (evEq (ih (i + 1) (by omega)) ?_)
      · rw [spec_l8Num.l0, if_pos (by omega), if_pos (by omega), if_pos (by rw [rdGet hi']; exact e), wrapS hi' (by omega)]
      · rw [List.take_succ_eq_append_getElem hi', List.append_assoc]
        rfl
    · rw [if_neg e]
      by_cases e2 : x[i] = n
      · rw [if_pos e2, hcut]
        refine evHere fun k => ?_
        rw [spec_l8Num.l0, if_pos (by omega), if_pos (by omega), if_neg (by rw [rdGet hi']; exact e), if_pos (by rw [rdGet hi']; exact e2)]
        simp only [Option.bind_some, List.nil_append, List.length_nil]
        rw [if_pos (by omega)]
      · rw [if_neg e2]
        refine evHere fun k => ?_
        rw [spec_l8Num.l0, if_pos (by omega), if_pos (by omega), if_neg (by rw [rdGet hi']; exact e), if_neg (by rw [rdGet hi']; exact e2)]
        simp only [Option.bind_some, List.nil_append, List.length_nil, Int.toNat_natCast]
        rw [if_pos (by omega), if_pos (by omega), if_pos (by simp only [List.length_cons, List.length_nil]; omega), if_pos (by rw [List.length_append, List.length_drop]; simp only [List.length_cons, List.length_nil]; omega)]
        rw [dropC hi']
        simp
theorem num8_ev (x : List Int) (n : Int) (hx : x.length ≤ 1048576) : Ev (fun k => spec_l8Num.f k x n) (num8 x n) := by
  unfold spec_l8Num.f
  have := num8_l x n hx x.length 0 (by omega)
  simpa using this

theorem index_l (x : List Int) (n : Int) (hx : x.length ≤ 1048576) : ∀ (d i : Nat), i + d = x.length → Ev (fun k => slices_Index_int_int.l0 k x n (x.length : Int) (i : Int)) (if n ∈ x.drop i then ((i + (x.drop i).idxOf n : Nat) : Int) else -1) := by
  intro d
  induction d with
  | zero =>
    intro i hi
    refine evHere fun k => ?_
    simp only [slices_Index_int_int.l0]
    rw [if_neg (by omega), List.drop_eq_nil_of_le (by omega)]
    simp
  | succ d ih =>
    intro i hi
    have hi' : i < x.length := by omega
    rw [dropC hi']
    by_cases e : n = x[i]
    · refine evHere fun k => ?_
      simp only [slices_Index_int_int.l0]
      rw [if_pos (by omega), if_pos (by omega), if_pos (by omega), if_pos (by rw [rdGet hi', e]), if_pos (show n ∈ x[i] :: x.drop (i + 1) from List.mem_cons.2 (.inl e)), List.idxOf_cons]
      simp [e]
    · refine Ev.step (f := fun k => slices_Index_int_int.l0 k x n (x.length : Int) ((i + 1 : Nat) : Int)) (fun k => ?_) (evEq (ih (i + 1) (by omega)) ?_)
      · simp only [slices_Index_int_int.l0]
        rw [if_pos (by omega), if_pos (by omega), if_pos (by omega), if_neg (by rw [rdGet hi']; exact e), wrapS hi' (by omega)]
      · have e2 : ¬ x[i] = n := fun h => e h.symm
        by_cases hm : n ∈ x.drop (i + 1)
        · rw [if_pos hm, if_pos (List.mem_cons_of_mem _ hm), List.idxOf_cons]
          have e3 : (x[i] == n) = false := by simpa using e2
          rw [e3]
          simp only [cond_false]
          omega
        · rw [if_neg hm, if_neg (fun h => (List.mem_cons.1 h).elim e hm)]
theorem index_ev (x : List Int) (n : Int) (hx : x.length ≤ 1048576) : Ev (fun k => slices_Index_int_int.f k x n) (if n ∈ x then (x.idxOf n : Int) else -1) := by
  unfold slices_Index_int_int.f
  have := index_l x n hx x.length 0 (by omega)
  simpa using this
theorem contains_ev (x : List Int) (n : Int) (hx : x.length ≤ 1048576) : Ev (fun k => slices_Contains_int_int.f k x n) (decide (n ∈ x)) := by
  unfold slices_Contains_int_int.f
  refine Ev.bind (index_ev x n hx) (evOf fun _ => ?_)
  by_cases h : n ∈ x
  · simp [h]
  · simp [h]

/-- The voices, as the reference gathers them, and as the program does. -/
def vs8 (l : List S86) (v : List Int) : List Int := l.foldl (fun v e => num8 v e.f3) v
def vsC (l : List S86) (v : List Int) : List Int := l.foldl (fun v e => if e.f3 ∈ v then v else v ++ [e.f3]) v
theorem spec_l (x : List S86) (hx : x.length ≤ 1048576) : ∀ (d i : Nat) (v : List Int), i + d = x.length → v.length ≤ i → Ev (fun k => spec_CountVoices.l0 k x v (i : Int)) ((vs8 (x.drop i) v).length : Int) := by
  intro d
  induction d with
  | zero =>
    intro i v hi hv
    refine evHere fun k => ?_
    rw [spec_CountVoices.l0, if_neg (by omega), List.drop_eq_nil_of_le (by omega)]
    rfl
  | succ d ih =>
    intro i v hi hv
    have hi' : i < x.length := by omega
    rw [dropC hi']
    refine Ev.step (f := fun k => (spec_l8Num.f k v (x[i]).f3).bind fun t => spec_CountVoices.l0 k x t ((i + 1 : Nat) : Int)) (fun k => ?_) (Ev.bind (num8_ev v _ (by omega)) (ih (i + 1) (num8 v (x[i]).f3) (by omega) ?_))
    · rw [spec_CountVoices.l0, if_pos (by omega), if_pos (by omega), rdEvent hi', wrapS hi' (by omega)]
    · have := num8_length v (x[i]).f3
      omega
theorem impl_l (x : List S86) (hx : x.length ≤ 1048576) : ∀ (d i : Nat) (v : List Int), i + d = x.length → v.length ≤ i → Ev (fun k => impl_CountVoices.l0 k v x (x.length : Int) (i : Int)) ((vsC (x.drop i) v).length : Int) := by
  intro d
  induction d with
  | zero =>
    intro i v hi hv
    refine evHere fun k => ?_
    rw [impl_CountVoices.l0, if_neg (by omega), List.drop_eq_nil_of_le (by omega)]
    rfl
  | succ d ih =>
    intro i v hi hv
    have hi' : i < x.length := by omega
    rw [dropC hi']
    refine Ev.step (f := fun k => (slices_Contains_int_int.f k v (x[i]).f3).bind fun t => if t = true then impl_CountVoices.l0 k v x (x.length : Int) ((i + 1 : Nat) : Int) else impl_CountVoices.l0 k (v ++ [(x[i]).f3]) x (x.length : Int) ((i + 1 : Nat) : Int)) (fun k => ?_) (Ev.bind (contains_ev v _ (by omega)) ?_)
    · rw [impl_CountVoices.l0, if_pos (by omega), if_pos (by omega), if_pos (by omega), rdEvent hi', wrapS hi' (by omega)]
      simp only [if_pos (show v.length < 17592186044416 by omega)]
    · by_cases h : (x[i]).f3 ∈ v
      · refine evPos (decide_eq_true h) (evEq (ih (i + 1) v (by omega) (by omega)) ?_)
        show _ = ((vsC (x.drop (i + 1)) (if (x[i]).f3 ∈ v then v else v ++ [(x[i]).f3])).length : Int)
        rw [if_pos h]
      · refine evNeg (by simpa using h) (evEq (ih (i + 1) (v ++ [(x[i]).f3]) (by omega) (by simp; omega)) ?_)
        show _ = ((vsC (x.drop (i + 1)) (if (x[i]).f3 ∈ v then v else v ++ [(x[i]).f3])).length : Int)
        rw [if_neg h]
theorem vs_same (l : List S86) : ∀ (a b : List Int), a.Pairwise (· < ·) → b.Nodup → (∀ x, x ∈ a ↔ x ∈ b) → (vs8 l a).Pairwise (· < ·) ∧ (vsC l b).Nodup ∧ ∀ x, x ∈ vs8 l a ↔ x ∈ vsC l b := by
  induction l with
  | nil => intro a b ha hb h; exact ⟨ha, hb, h⟩
  | cons e l ih =>
    intro a b ha hb h
    refine ih (num8 a e.f3) (if e.f3 ∈ b then b else b ++ [e.f3]) (num8_lt a _ ha) ?_ fun x => ?_
    · split
      · exact hb
      · rename_i hn
        refine List.nodup_append.2 ⟨hb, by simp, fun p hp q hq e' => ?_⟩
        rw [List.mem_singleton] at hq
        exact hn (by rw [← hq, ← e']; exact hp)
    · rw [num8_mem, h]
      split
      · rename_i hm
        constructor
        · rintro (rfl | hx)
          · exact hm
          · exact hx
        · exact fun hx => .inr hx
      · rw [List.mem_append, List.mem_singleton]
        exact Or.comm
theorem vs_length (l : List S86) : (vs8 l []).length = (vsC l []).length := by
  obtain ⟨h1, h2, h3⟩ := vs_same l [] [] List.Pairwise.nil List.nodup_nil (fun _ => Iff.rfl)
  have h4 : (vs8 l []).Nodup := h1.imp (fun h => by omega)
  exact ((List.perm_ext_iff_of_nodup h4 h2).2 h3).length_eq
theorem FnExactCountVoices : laws_FnExactCountVoices.Pure := by
  intro l w
  apply Ev.rounds
  unfold laws_FnExactCountVoices.f
  refine Ev.bind (evOf fun _ => szEventS_no l _ w.1 (by omega) (by omega)) (evIte (fun _ => evOf fun _ => rfl) fun c0 => ?_)
  have hl : l.length ≤ 1048576 := by split at c0 <;> omega
  have hl' : (l.map cvEvent).length ≤ 1048576 := by rw [List.length_map]; exact hl
  have hs : Ev (fun k => spec_CountVoices.f k (l.map cvEvent)) ((vs8 (l.map cvEvent) []).length : Int) := by
    unfold spec_CountVoices.f
    exact spec_l _ hl' (l.map cvEvent).length 0 [] (by omega) (by simp)
  have hi : Ev (fun k => impl_CountVoices.f k (l.map cvEvent)) ((vsC (l.map cvEvent) []).length : Int) := by
    unfold impl_CountVoices.f
    exact impl_l _ hl' (l.map cvEvent).length 0 [] (by omega) (by simp)
  exact Ev.bind (toEventS_ev l hl) (Ev.bind hs (Ev.bind (toEventS_ev l hl) (Ev.bind hi (evPos (by rw [vs_length]) (Ev.bind (toEventS_ev l hl) (Ev.bind (eqEventS_ev _ hl') (evPos rfl (evOf fun _ => rfl))))))))

end Go.Proofs.Ytidegbeadeoaeaa.Pure
