/- The plain half of FnExactFormatChords. No condition. -/
import Derived.Test.YtboaihbcaoofcaaHFnExactFormatChords
set_option linter.unusedVariables false
set_option linter.unusedSimpArgs false
open Go Go.Flat
namespace Go.QFnExactFormatChords
theorem l1In_ev (x lo hi : Int) : Ev (fun k => spec_l1In k x lo hi) (decide (lo ≤ x ∧ x ≤ hi)) := by
  by_cases c : lo ≤ x
  · exact Ev.eq (fun k => spec_l1In_eq k x lo hi) (Ev.pos c (Ev.ret.val (by simp [c])))
  · exact Ev.eq (fun k => spec_l1In_eq k x lo hi) (Ev.neg c (Ev.ret.val (by simp [c])))
theorem inRange_ev (x lo hi : Int) : Ev (fun k => impl_InRange k x lo hi) (decide (lo ≤ x ∧ x ≤ hi)) := by
  by_cases c : lo ≤ x
  · exact Ev.eq (fun k => impl_InRange_eq k x lo hi) (Ev.pos c (Ev.ret.val (by simp [c])))
  · exact Ev.eq (fun k => impl_InRange_eq k x lo hi) (Ev.neg c (Ev.ret.val (by simp [c])))
def gcdI (a b : Int) : Int := (Nat.gcd a.toNat b.toNat : Int)
def absI (n : Int) : Int := (n.natAbs : Int)
def isR (n d : Int) : Bool := decide ((1 ≤ d ∧ d ≤ 1000000) ∧ (-1000000000 ≤ n ∧ n ≤ 1000000000) ∧ gcdI (absI n) d = 1)
abbrev Res : Type := DT43 × (Bool × Unit)
def noR : Res := ((0, (0, ())), (false, ()))
def mk (n d : Int) : Res :=
  if isR (Int.tdiv n (gcdI (absI n) d)) (Int.tdiv d (gcdI (absI n) d)) = true then ((Int.tdiv n (gcdI (absI n) d), (Int.tdiv d (gcdI (absI n) d), ())), (true, ())) else noR
theorem bytes_ext {a b : ByteArray} (h : a.data.toList = b.data.toList) : a = b := by
  obtain ⟨⟨a⟩⟩ := a
  obtain ⟨⟨b⟩⟩ := b
  simp at h
  rw [h]
theorem bytes_app (a b : ByteArray) : (a ++ b).data.toList = a.data.toList ++ b.data.toList := by
  rw [ByteArray.data_append, Array.toList_append]
theorem bytes_size (a : ByteArray) : a.size = a.data.toList.length := by
  show a.data.size = _
  rw [Array.length_toList]
def spB : ByteArray := ByteArray.mk #[32]
def spacedB (w : List ByteArray) : ByteArray := if w.length = 0 then ByteArray.mk #[45] else joinB w spB
theorem lib_join_snoc (xs : List (List UInt8)) (y sep : List UInt8) (h : xs ≠ []) : Lib.join (xs ++ [y]) sep = Lib.join xs sep ++ sep ++ y := by
  cases xs with
  | nil => exact absurd rfl h
  | cons x r =>
    rw [List.cons_append, Lib.join_cons, Lib.join_cons]
    unfold Lib.joinTail
    simp
theorem joinB_snoc (w : List ByteArray) (y : ByteArray) (h : w ≠ []) : joinB (w ++ [y]) spB = joinB w spB ++ spB ++ y := by
  apply bytes_ext
  rw [bytes_app, bytes_app]
  unfold joinB
  simp only [List.map_append, List.map_cons, List.map_nil]
  rw [lib_join_snoc _ _ _ (by simpa using h)]
theorem joinB_one (y : ByteArray) : joinB [y] spB = y := by
  apply bytes_ext
  unfold joinB
  simp [Lib.join_one]
theorem size_app (a b : ByteArray) : (a ++ b).size = a.size + b.size := by
  rw [bytes_size, bytes_app, List.length_append, ← bytes_size, ← bytes_size]
theorem joinTail_len (sep : List UInt8) (B : Nat) : ∀ (r : List ByteArray), (∀ x ∈ r, x.size ≤ B) → (Lib.joinTail sep (r.map (·.data.toList))).length ≤ r.length * (B + sep.length)
  | [], _ => by simp [Lib.joinTail]
  | x :: r, h => by
    have h1 := joinTail_len sep B r (fun y hy => h y (by simp [hy]))
    have h2 := h x (by simp)
    rw [bytes_size] at h2
    unfold Lib.joinTail at h1 ⊢
    simp only [List.map_cons, List.flatten_cons, List.length_append, List.length_cons, Nat.add_mul, Nat.one_mul] at h1 ⊢
    omega
theorem joinB_size (w : List ByteArray) (B : Nat) (h : ∀ x ∈ w, x.size ≤ B) : (joinB w spB).size ≤ w.length * (B + 1) := by
  cases w with
  | nil => exact Nat.zero_le _
  | cons x r =>
    have h1 := joinTail_len spB.data.toList B r (fun y hy => h y (by simp [hy]))
    have h2 := h x (by simp)
    have h3 : spB.data.toList.length = 1 := rfl
    rw [bytes_size]
    unfold joinB
    simp only [List.map_cons]
    rw [Lib.join_cons, List.length_append, List.length_cons, Nat.add_mul, ← bytes_size]
    rw [h3] at h1
    omega
theorem specJoin_ev (w : List ByteArray) (hl : w.length ≤ 1048576) (hs : ∀ x ∈ w, x.size ≤ 1000) : Ev (fun k => spec_l39Join k w) (spacedB w) := by
  have hsz : ∀ i : Nat, i ≤ w.length → (joinB (w.take i) spB).size ≤ i * 1001 := by
    intro i hi
    have := joinB_size (w.take i) 1000 (fun x hx => hs x (List.mem_of_mem_take hx))
    rw [List.length_take, Nat.min_eq_left hi] at this
    exact this
  have key : ∀ d i, i + d = w.length → E2 (fun k m => spec_l39Join.l0 k m w (joinB (w.take i) spB) (i : Int)) (spacedB w) := by
    intro d
    induction d with
    | zero =>
      intro i hi
      have hi : i = w.length := by omega
      subst hi
      rw [List.take_length]
      refine E2.eq (fun k m => spec_l39Join.l0_eq k m w _ _) (E2.neg (by omega) ?_)
      unfold spacedB
      by_cases c : w.length = 0
      · rw [if_pos c]; exact E2.pos (by omega) E2.ret
      · rw [if_neg c]; exact E2.neg (by omega) E2.ret
    | succ d ih =>
      intro i hi
      have hlt : i < w.length := by omega
      have h1 := hsz i (by omega)
      have hx : (rd .str w (i : Int)).size ≤ 1000 := by rw [rd_at hlt]; exact hs _ (List.getElem_mem hlt)
      have ht : w.take (i + 1) = w.take i ++ [rd .str w (i : Int)] := by rw [List.take_succ_eq_append_getElem hlt, rd_at hlt]
      have e := ih (i + 1) (by omega)
      have hb : (ByteArray.mk #[32]).size = 1 := rfl
      refine E2.eq (fun k m => spec_l39Join.l0_eq k m w _ _) (E2.pos (by omega) ?_)
      by_cases c : 0 < i
      · have hne : w.take i ≠ [] := by intro h; have := congrArg List.length h; rw [List.length_take, List.length_nil] at this; omega
        rw [ht, joinB_snoc _ _ hne] at e
        refine E2.pos (by omega) (E2.pos ?_ (E2.pos (by omega) (E2.pos (by omega) (E2.pos ?_ ?_))))
        · show _ + 1 ≤ 211106232532992; omega
        · rw [size_app]; show _ + 1 + _ ≤ 211106232532992; omega
        · simp only [wrapS (show i < 9223372036854775807 by omega)]; exact e
      · have h0 : i = 0 := by omega
        subst h0
        have h2 : joinB (w.take 0) spB = ByteArray.mk #[] := rfl
        have h3 : joinB (w.take (0 + 1)) spB = joinB (w.take 0) spB ++ rd .str w ((0 : Nat) : Int) := by
          rw [ht]
          show joinB [_] spB = _
          rw [joinB_one, h2]
          apply bytes_ext
          rw [bytes_app]; rfl
        rw [h3] at e
        refine E2.neg (by omega) (E2.pos (by omega) (E2.pos (by omega) (E2.pos (by omega) ?_)))
        simp only [wrapS (show 0 < 9223372036854775807 by omega)]; exact e
  exact Ev.eq (fun k => spec_l39Join_eq k w) (Ev.loop (f := fun k m => spec_l39Join.l0 k m w (ByteArray.mk #[]) 0) (key w.length 0 (by omega)))
theorem implJoin_ev (w : List ByteArray) (hl : w.length ≤ 1048576) (hs : ∀ x ∈ w, x.size ≤ 1000) : Ev (fun k => strings_Join k w (ByteArray.mk #[32])) (joinB w spB) := by
  have h1 := joinB_size w 1000 hs
  have hp : primJoin .str [.val (.list .str) w, .val .str (ByteArray.mk #[32])] = some (joinB w spB) := by
    unfold primJoin
    refine if_pos ⟨by omega, ?_⟩
    have h2 : (joinB w spB).size = (Lib.join (w.map (·.data.toList)) (ByteArray.mk #[32]).data.toList).length := by
      rw [bytes_size]; rfl
    exact Nat.le_trans (Nat.le_of_eq h2.symm) (by omega)
  refine Ev.eq (fun k => strings_Join_eq k w _) ?_
  rw [hp]
  exact Ev.ret
/-- A row of what each element gives, one behind the other. -/
theorem loop_collect {t : Ty} {β γ : Type} {l : List t.den} {R : Int → List β → γ → Prop} (f : t.den → β) {c : γ} (hend : R (l.length : Int) (l.map f) c)
    (hgo : ∀ i, i < l.length → ∀ s : List β, s.length = i → R ((i + 1 : Nat) : Int) (s ++ [f (rd t l (i : Int))]) c → R (i : Int) s c) : R 0 [] c := by
  have key : ∀ d i, i + d = l.length → R (i : Int) ((l.take i).map f) c := by
    intro d
    induction d with
    | zero =>
      intro i hi
      have hi : i = l.length := by omega
      subst hi
      rw [List.take_length]
      exact hend
    | succ d ih =>
      intro i hi
      have hlt : i < l.length := by omega
      refine hgo i hlt _ (by simp; omega) ?_
      have := ih (i + 1) (by omega)
      rw [List.take_succ_eq_append_getElem hlt, List.map_append, ← rd_at hlt] at this
      exact this
  exact key l.length 0 (by omega)
def rootsB : List ByteArray := [(ByteArray.mk #[99]), (ByteArray.mk #[99, 35]), (ByteArray.mk #[100]), (ByteArray.mk #[100, 35]), (ByteArray.mk #[101]), (ByteArray.mk #[102]), (ByteArray.mk #[102, 35]), (ByteArray.mk #[103]), (ByteArray.mk #[103, 35]), (ByteArray.mk #[97]), (ByteArray.mk #[97, 35]), (ByteArray.mk #[98])]
def kindsB : List ByteArray := [(ByteArray.mk #[]), (ByteArray.mk #[109]), (ByteArray.mk #[111]), (ByteArray.mk #[43]), (ByteArray.mk #[55])]
def chordP (x : DT43) : Prop := (0 ≤ (x.1 : Int) ∧ (x.1 : Int) ≤ 11) ∧ (1 ≤ (x.2.1 : Int) ∧ (x.2.1 : Int) ≤ 5)
instance (x : DT43) : Decidable (chordP x) := by unfold chordP; infer_instance
def chordB (x : DT43) : ByteArray := if chordP x then rd .str rootsB x.1 ++ rd .str kindsB (x.2.1 - 1) else ByteArray.mk #[]
theorem roots_size (n : Int) : (rd .str rootsB n).size ≤ 10 := by
  unfold rd
  by_cases h : n.toNat < 12
  · generalize n.toNat = m at h
    have : m = 0 ∨ m = 1 ∨ m = 2 ∨ m = 3 ∨ m = 4 ∨ m = 5 ∨ m = 6 ∨ m = 7 ∨ m = 8 ∨ m = 9 ∨ m = 10 ∨ m = 11 := by omega
    rcases this with e | e | e | e | e | e | e | e | e | e | e | e <;> (subst e; decide)
  · rw [List.getD_eq_getElem?_getD, List.getElem?_eq_none (by simp [rootsB]; omega)]; decide
theorem kinds_size (n : Int) : (rd .str kindsB n).size ≤ 10 := by
  unfold rd
  by_cases h : n.toNat < 5
  · generalize n.toNat = m at h
    have : m = 0 ∨ m = 1 ∨ m = 2 ∨ m = 3 ∨ m = 4 := by omega
    rcases this with e | e | e | e | e <;> (subst e; decide)
  · rw [List.getD_eq_getElem?_getD, List.getElem?_eq_none (by simp [kindsB]; omega)]; decide
theorem chordB_size (x : DT43) : (chordB x).size ≤ 1000 := by
  have h0 := roots_size x.1
  have h1 := kinds_size (x.2.1 - 1)
  unfold chordB
  split
  · simp only [size_app]; omega
  · decide
theorem chords_small (l : List DT43) : ∀ x ∈ l.map chordB, x.size ≤ 1000 := by
  intro x hx
  obtain ⟨n, hn, rfl⟩ := List.mem_map.1 hx
  exact chordB_size n
theorem chordP_yes {x : DT43} (c : 0 ≤ (x.1 : Int) ∧ (x.1 : Int) ≤ 11) : decide (decide (1 ≤ (x.2.1 : Int) ∧ (x.2.1 : Int) ≤ 5) = true) = decide (chordP x) := by
  rw [decide_eq_decide, decide_eq_true_iff]
  exact ⟨fun h => ⟨c, h⟩, fun h => h.2⟩
theorem chordP_no {x : DT43} (c : ¬ (0 ≤ (x.1 : Int) ∧ (x.1 : Int) ≤ 11)) : false = decide (chordP x) := by
  symm
  rw [decide_eq_false_iff_not]
  exact fun h => c h.1
theorem specIsChord_ev (x : DT43) : Ev (fun k => spec_IsChord k x) (decide (chordP x)) := by
  by_cases c : 0 ≤ (x.1 : Int) ∧ (x.1 : Int) ≤ 11
  · exact Ev.eq (fun k => spec_IsChord_eq k x) (Ev.bind (l1In_ev _ _ _) (Ev.pos (by simpa using c) (Ev.bind (l1In_ev _ _ _) (Ev.ret.val (chordP_yes c)))))
  · exact Ev.eq (fun k => spec_IsChord_eq k x) (Ev.bind (l1In_ev _ _ _) (Ev.neg (by simpa using c) (Ev.ret.val (chordP_no c))))
theorem implIsChord_ev (x : DT43) : Ev (fun k => impl_IsChord k x) (decide (chordP x)) := by
  by_cases c : 0 ≤ (x.1 : Int) ∧ (x.1 : Int) ≤ 11
  · exact Ev.eq (fun k => impl_IsChord_eq k x) (Ev.bind (inRange_ev _ _ _) (Ev.pos (by simpa using c) (Ev.bind (inRange_ev _ _ _) (Ev.ret.val (chordP_yes c)))))
  · exact Ev.eq (fun k => impl_IsChord_eq k x) (Ev.bind (inRange_ev _ _ _) (Ev.neg (by simpa using c) (Ev.ret.val (chordP_no c))))
theorem implChord_ev (x : DT43) : Ev (fun k => impl_ChordText k x) (chordB x) := by
  have h0 := roots_size x.1
  have h1 := kinds_size (x.2.1 - 1)
  unfold chordB
  by_cases c : chordP x
  · have c' := c
    unfold chordP at c'
    rw [if_pos c]
    have hx : IntKind.wrap .i64 (x.2.1 - 1) = x.2.1 - 1 := wrapI (by omega) (by omega)
    refine Ev.eq (fun k => impl_ChordText_eq k x) (Ev.bind (implIsChord_ev x) (Ev.neg (by simpa using c) (Ev.pos c'.1.1 (Ev.pos ?_ (Ev.pos ?_ (Ev.pos ?_ (Ev.pos ?_ ?_)))))))
    · simp only [List.length_cons, List.length_nil]; omega
    · rw [hx]; omega
    · rw [hx]; simp only [List.length_cons, List.length_nil]; omega
    · rw [hx]; show (rd .str rootsB x.1).size + (rd .str kindsB (x.2.1 - 1)).size ≤ _; omega
    · rw [hx]; exact Ev.ret
  · rw [if_neg c]
    exact Ev.eq (fun k => impl_ChordText_eq k x) (Ev.bind (implIsChord_ev x) (Ev.pos (by simpa using c) Ev.ret))
theorem specChord_ev (x : DT43) : Ev (fun k => spec_ChordText k x) (chordB x) := by
  have h0 := roots_size x.1
  have h1 := kinds_size (x.2.1 - 1)
  unfold chordB
  by_cases c : chordP x
  · have c' := c
    unfold chordP at c'
    rw [if_pos c]
    have hx : IntKind.wrap .i64 (x.2.1 - 1) = x.2.1 - 1 := wrapI (by omega) (by omega)
    refine Ev.eq (fun k => spec_ChordText_eq k x) (Ev.bind (specIsChord_ev x) (Ev.neg (by simpa using c) (Ev.pos c'.1.1 (Ev.pos ?_ (Ev.pos ?_ (Ev.pos ?_ (Ev.pos ?_ ?_)))))))
    · simp only [List.length_cons, List.length_nil]; omega
    · rw [hx]; omega
    · rw [hx]; simp only [List.length_cons, List.length_nil]; omega
    · rw [hx]; show (rd .str rootsB x.1).size + (rd .str kindsB (x.2.1 - 1)).size ≤ _; omega
    · rw [hx]; exact Ev.ret
  · rw [if_neg c]
    exact Ev.eq (fun k => spec_ChordText_eq k x) (Ev.bind (specIsChord_ev x) (Ev.pos (by simpa using c) Ev.ret))
theorem specChords_ev (l : List DT43) (hl : l.length ≤ 1048576) : Ev (fun k => spec_FormatChords k l) (spacedB (l.map chordB)) := by
  refine Ev.eq (fun k => spec_FormatChords_eq k l) (Ev.loop (f := fun k m => spec_FormatChords.l0 k m l 0 []) ?_)
  refine loop_collect (t := T43) (l := l) (R := fun i s v => E2 (fun k m => spec_FormatChords.l0 k m l i s) v) chordB ?_ fun i hi s hsl e => ?_
  · exact E2.eq (fun k m => spec_FormatChords.l0_eq k m l _ _) (E2.neg (by omega) (E2.bind (specJoin_ev _ (by simpa using hl) (chords_small l)) E2.ret))
  · refine E2.eq (fun k m => spec_FormatChords.l0_eq k m l _ s) (E2.pos (by omega) (E2.pos (by omega) (E2.pos (by omega) (E2.bind (specChord_ev _) (E2.pos (by simp only [List.length_cons, List.length_nil]; omega) ?_)))))
    simp only [wrapS (show i < 9223372036854775807 by omega)]; exact e
theorem implChords_ev (l : List DT43) (hl : l.length ≤ 1048576) : Ev (fun k => impl_FormatChords k l) (spacedB (l.map chordB)) := by
  refine Ev.eq (fun k => impl_FormatChords_eq k l) (Ev.bind (a := spacedB (l.map chordB)) (Ev.eq (fun k => impl_spaced_impl_Chord_31_eq k l) ?_) Ev.ret)
  unfold spacedB
  rw [List.length_map]
  by_cases c : l.length = 0
  · rw [if_pos c]; exact Ev.pos (by omega) Ev.ret
  · rw [if_neg c]
    refine Ev.neg (by omega) (Ev.loop (f := fun k m => impl_spaced_impl_Chord_31.l0 k m l ((List.length l : Nat) : Int) 0 []) ?_)
    refine loop_collect (t := T43) (l := l) (R := fun i s v => E2 (fun k m => impl_spaced_impl_Chord_31.l0 k m l ((List.length l : Nat) : Int) i s) v) chordB ?_ fun i hi s hsl e => ?_
    · exact E2.eq (fun k m => impl_spaced_impl_Chord_31.l0_eq k m l _ _ _) (E2.neg (by omega) (E2.bind (implJoin_ev _ (by simpa using hl) (chords_small l)) E2.ret))
    · refine E2.eq (fun k m => impl_spaced_impl_Chord_31.l0_eq k m l _ _ s) (E2.pos (by omega) (E2.pos (by omega) (E2.pos (by omega) (E2.bind (implChord_ev _) (E2.pos (by simp only [List.length_cons, List.length_nil]; omega) ?_)))))
      simp only [wrapS (show i < 9223372036854775807 by omega)]; exact e
theorem pure (a0 : List DT43) (w0 : Wd (.list T43) a0) : ∃ k, laws_FnExactFormatChords k a0 = some true := by
  refine Ev.at (f := fun k => laws_FnExactFormatChords k a0) ?_
  obtain ⟨r0, e0, h0⟩ := laws_szChordS_ok a0 w0 1048576 (by omega) (by omega)
  by_cases c0 : r0 < 0
  · exact Ev.eq (fun k => laws_FnExactFormatChords_eq k a0) (Ev.bind e0 (Ev.pos c0 Ev.ret))
  replace h0 := h0.resolve_left c0
  have b0 := h0.2.2
  exact Ev.eq (fun k => laws_FnExactFormatChords_eq k a0) (Ev.bind e0 (Ev.neg c0 (Ev.bind (laws_toChordS_id _ b0) (Ev.bind (specChords_ev a0 b0.1) (Ev.bind (laws_toChordS_id _ b0) (Ev.bind (implChords_ev a0 b0.1) (Ev.neg (by simp) (Ev.bind (laws_toChordS_id _ b0) (Ev.bind (laws_eqChordS_self _ b0) (Ev.neg (by simp) Ev.ret))))))))))
end Go.QFnExactFormatChords
