/- The plain half of FnExactFormatFaults. No condition. -/
import Derived.Test.YtboaihbcaoofcaaDoorHFnExactFormatFaults
set_option linter.unusedVariables false
set_option linter.unusedSimpArgs false
open Go Go.Flat
namespace Go.QFnExactFormatFaults
theorem inRange_ev (x lo hi : Int) : Ev (fun k => impl_InRange k x lo hi) (decide (lo ≤ x ∧ x ≤ hi)) := by
  by_cases c : lo ≤ x
  · exact Ev.eq (fun k => impl_InRange_eq k x lo hi) (Ev.pos c (Ev.ret.val (by simp [c])))
  · exact Ev.eq (fun k => impl_InRange_eq k x lo hi) (Ev.neg c (Ev.ret.val (by simp [c])))
def gcdI (a b : Int) : Int := (Nat.gcd a.toNat b.toNat : Int)
def absI (n : Int) : Int := (n.natAbs : Int)
def isR (n d : Int) : Bool := decide ((1 ≤ d ∧ d ≤ 1000000) ∧ (-1000000000 ≤ n ∧ n ≤ 1000000000) ∧ gcdI (absI n) d = 1)
abbrev Res : Type := DT44 × (Bool × Unit)
def noR : Res := ((0, (0, ())), (false, ()))
def mk (n d : Int) : Res :=
  if isR (Int.tdiv n (gcdI (absI n) d)) (Int.tdiv d (gcdI (absI n) d)) = true then ((Int.tdiv n (gcdI (absI n) d), (Int.tdiv d (gcdI (absI n) d), ())), (true, ())) else noR
def R64 (n : Int) : Prop := -9223372036854775808 ≤ n ∧ n ≤ 9223372036854775807
theorem r64_of {n : Int} (h : Wd (.int .i64) n) : R64 n := by
  have h : (Lit.int .i64 n).wf = true := h
  unfold R64
  simp only [Lit.wf, Bool.and_eq_true, decide_eq_true_eq] at h
  have h1 : IntKind.i64.min = -9223372036854775808 := rfl
  have h2 : IntKind.i64.max = 9223372036854775807 := rfl
  omega
theorem bytes_ext {a b : ByteArray} (h : a.data.toList = b.data.toList) : a = b := by
  obtain ⟨⟨a⟩⟩ := a
  obtain ⟨⟨b⟩⟩ := b
  simp at h
  rw [h]
theorem bytes_app (a b : ByteArray) : (a ++ b).data.toList = a.data.toList ++ b.data.toList := by
  rw [ByteArray.data_append, Array.toList_append]
theorem bytes_size (a : ByteArray) : a.size = a.data.toList.length := by
  show a.data.size = _
  rw [Array.length_toList]
theorem digit_bytes (d : Int) (h1 : 0 ≤ d) (h2 : d ≤ 9) : (ofBytes [IntKind.wrap .u8 (IntKind.wrap .i64 (48 + d))]).data.toList = [UInt8.ofNat (48 + d.toNat)] := by
  rw [wrapI (by omega) (by omega)]
  have : IntKind.wrap .u8 (48 + d) = 48 + d := by
    unfold IntKind.wrap
    simp only [IntKind.signed, IntKind.bits]
    simp
    omega
  rw [this]
  have e : (48 + d).toNat = 48 + d.toNat := by omega
  show [UInt8.ofNat (48 + d).toNat] = _
  rw [e]
theorem decDigits_step (u : Nat) (h : u ≠ 0) : Lib.decDigits u = (if u / 10 = 0 then [] else Lib.decDigits (u / 10)) ++ [UInt8.ofNat (48 + u % 10)] := by
  rw [Lib.decDigits]
  by_cases c : u < 10
  · rw [dif_pos c, if_pos (by omega)]
    simp [Nat.mod_eq_of_lt c]
  · rw [dif_neg c, if_neg (by omega)]
def digs (u : Nat) : List UInt8 := if u = 0 then [] else Lib.decDigits u
theorem digs_step (u : Nat) (h : u ≠ 0) : digs u = digs (u / 10) ++ [UInt8.ofNat (48 + u % 10)] := by
  unfold digs
  rw [if_neg h, decDigits_step u h]
theorem fmt_loop (n : Int) : ∀ (q : Nat) (x : Int) (s : ByteArray), x.natAbs < 10 ^ q → s.size + q ≤ 40 → R64 x → ∃ r : ByteArray, E2 (fun k m => spec_FormatInt.l0 k m n s x) r ∧ r.data.toList = (if n < 0 then [45] else []) ++ digs x.natAbs ++ s.data.toList := by
  intro q
  induction q with
  | zero =>
    intro x s hx hs hr
    have h0 : x = 0 := by simp at hx; omega
    subst h0
    by_cases hn : n < 0
    · refine ⟨_, E2.eq (fun k m => spec_FormatInt.l0_eq k m n s 0) (E2.neg (by simp) (E2.pos hn (E2.pos ?_ E2.ret))), ?_⟩
      · have : (ByteArray.mk #[45]).size = 1 := rfl
        omega
      · rw [bytes_app, if_pos hn]; simp [digs]
    · exact ⟨s, E2.eq (fun k m => spec_FormatInt.l0_eq k m n s 0) (E2.neg (by simp) (E2.neg hn E2.ret)), by rw [if_neg hn]; simp [digs]⟩
  | succ q ih =>
    intro x s hx hs hr
    by_cases h0 : x = 0
    · subst h0
      by_cases hn : n < 0
      · refine ⟨_, E2.eq (fun k m => spec_FormatInt.l0_eq k m n s 0) (E2.neg (by simp) (E2.pos hn (E2.pos ?_ E2.ret))), ?_⟩
        · have : (ByteArray.mk #[45]).size = 1 := rfl
          omega
        · rw [bytes_app, if_pos hn]; simp [digs]
      · exact ⟨s, E2.eq (fun k m => spec_FormatInt.l0_eq k m n s 0) (E2.neg (by simp) (E2.neg hn E2.ret)), by rw [if_neg hn]; simp [digs]⟩
    · have hq : (Int.tdiv x 10).natAbs = x.natAbs / 10 := by rw [Int.natAbs_tdiv]; rfl
      have hlt : (Int.tdiv x 10).natAbs < 10 ^ q := by
        rw [hq, Nat.div_lt_iff_lt_mul (by omega)]
        rw [Nat.pow_succ] at hx
        exact hx
      have hd : (Int.tmod x 10).natAbs = x.natAbs % 10 := by rw [Int.natAbs_tmod]; rfl
      have hr' : R64 (Int.tdiv x 10) := by
        have := Int.natAbs_tdiv_le_natAbs x 10
        unfold R64 at hr ⊢
        omega
      have hw : IntKind.wrap .i64 (Int.tdiv x 10) = Int.tdiv x 10 := wrapI hr'.1 hr'.2
      have hne : x.natAbs ≠ 0 := by omega
      have fin : ∀ (dg : ByteArray), dg.data.toList = [UInt8.ofNat (48 + x.natAbs % 10)] → dg.size + s.size ≤ 211106232532992 ∧ ∃ r : ByteArray, E2 (fun k m => spec_FormatInt.l0 k m n (dg ++ s) (IntKind.wrap .i64 (Int.tdiv x 10))) r ∧ r.data.toList = (if n < 0 then [45] else []) ++ digs x.natAbs ++ s.data.toList := by
        intro dg hdg
        have hsz : dg.size = 1 := by rw [bytes_size, hdg]; rfl
        refine ⟨by omega, ?_⟩
        obtain ⟨r, er, hr2⟩ := ih (Int.tdiv x 10) (dg ++ s) hlt (by rw [bytes_size, bytes_app, List.length_append, ← bytes_size, ← bytes_size]; omega) hr'
        rw [hw]
        refine ⟨r, er, ?_⟩
        rw [hr2, hq, bytes_app, hdg, digs_step _ hne]
        simp
      by_cases hneg : Int.tmod x 10 < 0
      · have hb : -(Int.tmod x 10) = ((x.natAbs % 10 : Nat) : Int) := by rw [← hd]; omega
        have hw2 : IntKind.wrap .i64 (-(Int.tmod x 10)) = ((x.natAbs % 10 : Nat) : Int) := by rw [hb]; exact wrapI (by omega) (by omega)
        have hdg : (ofBytes ([IntKind.wrap .u8 (IntKind.wrap .i64 (48 + (IntKind.wrap .i64 (-(Int.tmod x 10)))))])).data.toList = [UInt8.ofNat (48 + x.natAbs % 10)] := by
          rw [hw2, digit_bytes _ (by omega) (by omega), Int.toNat_natCast]
        obtain ⟨h1, r, er, h2⟩ := fin _ hdg
        exact ⟨r, E2.eq (fun k m => spec_FormatInt.l0_eq k m n s x) (E2.pos h0 (E2.neg (by omega) (E2.pos hneg (E2.pos h1 (E2.neg (by omega) er))))), h2⟩
      · have hb : Int.tmod x 10 = ((x.natAbs % 10 : Nat) : Int) := by rw [← hd]; omega
        have hdg : (ofBytes ([IntKind.wrap .u8 (IntKind.wrap .i64 (48 + (Int.tmod x 10)))])).data.toList = [UInt8.ofNat (48 + x.natAbs % 10)] := by
          rw [hb, digit_bytes _ (by omega) (by omega), Int.toNat_natCast]
        obtain ⟨h1, r, er, h2⟩ := fin _ hdg
        exact ⟨r, E2.eq (fun k m => spec_FormatInt.l0_eq k m n s x) (E2.pos h0 (E2.neg (by omega) (E2.neg hneg (E2.pos h1 (E2.neg (by omega) er))))), h2⟩
theorem specFmt_ev (n : Int) (h : R64 n) : Ev (fun k => spec_FormatInt k n) (itoaB n) := by
  by_cases h0 : n = 0
  · subst h0
    refine Ev.eq (fun k => spec_FormatInt_eq k 0) (Ev.pos rfl (Ev.ret.val ?_))
    apply bytes_ext
    unfold itoaB Lib.itoa
    rw [if_neg (by omega)]
    show [48] = Lib.decDigits 0
    rw [Lib.decDigits, dif_pos (by omega)]
    rfl
  · obtain ⟨r, er, hr⟩ := fmt_loop n 19 n (ByteArray.mk #[]) (by unfold R64 at h; omega) (by show 0 + 19 ≤ 40; omega) h
    refine Ev.eq (fun k => spec_FormatInt_eq k n) (Ev.neg h0 ((Ev.loop (f := fun k m => spec_FormatInt.l0 k m n (ByteArray.mk #[]) n) er).val ?_))
    apply bytes_ext
    rw [hr]
    unfold itoaB Lib.itoa digs
    rw [if_neg (show ¬ n.natAbs = 0 by omega)]
    by_cases hn : n < 0
    · rw [if_pos hn, if_pos hn]; simp
    · rw [if_neg hn, if_neg hn]
      have : n.toNat = n.natAbs := by omega
      rw [this]
      simp
theorem implFmt_ev (n : Int) (h : R64 n) : Ev (fun k => impl_FormatInt k n) (itoaB n) := by
  have hp : primItoa .str [.val (.int .i64) n] = some (itoaB n) := by unfold primItoa; exact if_pos h
  refine Ev.eq (fun k => impl_FormatInt_eq k n) (Ev.bind (Ev.eq (fun k => strconv_Itoa_eq k n) ?_) Ev.ret)
  rw [hp]
  exact Ev.ret
theorem decDigits_len : ∀ (q u : Nat), u < 10 ^ (q + 1) → (Lib.decDigits u).length ≤ q + 1 := by
  intro q
  induction q with
  | zero => intro u h; rw [Lib.decDigits, dif_pos (by simpa using h)]; simp
  | succ q ih =>
    intro u h
    rw [Lib.decDigits]
    split
    · simp
    · have := ih (u / 10) (by rw [Nat.div_lt_iff_lt_mul (by omega)]; rw [Nat.pow_succ] at h; exact h)
      simp
      omega
theorem itoaB_size (n : Int) (h : R64 n) : (itoaB n).size ≤ 20 := by
  rw [bytes_size]
  unfold itoaB Lib.itoa
  unfold R64 at h
  split
  · have := decDigits_len 18 n.natAbs (by omega)
    simp; omega
  · have := decDigits_len 18 n.toNat (by omega)
    simp; omega
def spB : ByteArray := ByteArray.mk #[32]
def spacedB (w : List ByteArray) : ByteArray := if w.length = 0 then ByteArray.mk #[45] else joinB w spB
theorem lib_join_snoc (xs : List (List UInt8)) (y sep : List UInt8) (h : xs ≠ []) : Lib.join (xs ++ [y]) sep = Lib.join xs sep ++ sep ++ y := by
  cases xs with
  | nil => exact absurd rfl h
  | cons x r =>
    rw [List.cons_append, Lib.join_cons, Lib.join_cons]
    unfold Lib.joinTail
    simp
theorem joinB_snoc (w : List ByteArray) (y : ByteArray) (h : w ≠ []) : joinB (w ++ [y]) spB = joinB w spB ++ spB ++ y := by
  apply bytes_ext
  rw [bytes_app, bytes_app]
  unfold joinB
  simp only [List.map_append, List.map_cons, List.map_nil]
  rw [lib_join_snoc _ _ _ (by simpa using h)]
theorem joinB_one (y : ByteArray) : joinB [y] spB = y := by
  apply bytes_ext
  unfold joinB
  simp [Lib.join_one]
theorem size_app (a b : ByteArray) : (a ++ b).size = a.size + b.size := by
  rw [bytes_size, bytes_app, List.length_append, ← bytes_size, ← bytes_size]
theorem joinTail_len (sep : List UInt8) (B : Nat) : ∀ (r : List ByteArray), (∀ x ∈ r, x.size ≤ B) → (Lib.joinTail sep (r.map (·.data.toList))).length ≤ r.length * (B + sep.length)
  | [], _ => by simp [Lib.joinTail]
  | x :: r, h => by
    have h1 := joinTail_len sep B r (fun y hy => h y (by simp [hy]))
    have h2 := h x (by simp)
    rw [bytes_size] at h2
    unfold Lib.joinTail at h1 ⊢
    simp only [List.map_cons, List.flatten_cons, List.length_append, List.length_cons, Nat.add_mul, Nat.one_mul] at h1 ⊢
    omega
theorem joinB_size (w : List ByteArray) (B : Nat) (h : ∀ x ∈ w, x.size ≤ B) : (joinB w spB).size ≤ w.length * (B + 1) := by
  cases w with
  | nil => exact Nat.zero_le _
  | cons x r =>
    have h1 := joinTail_len spB.data.toList B r (fun y hy => h y (by simp [hy]))
    have h2 := h x (by simp)
    have h3 : spB.data.toList.length = 1 := rfl
    rw [bytes_size]
    unfold joinB
    simp only [List.map_cons]
    rw [Lib.join_cons, List.length_append, List.length_cons, Nat.add_mul, ← bytes_size]
    rw [h3] at h1
    omega
theorem specJoin_ev (w : List ByteArray) (hl : w.length ≤ 1048576) (hs : ∀ x ∈ w, x.size ≤ 1000) : Ev (fun k => spec_l39Join k w) (spacedB w) := by
  have hsz : ∀ i : Nat, i ≤ w.length → (joinB (w.take i) spB).size ≤ i * 1001 := by
    intro i hi
    have := joinB_size (w.take i) 1000 (fun x hx => hs x (List.mem_of_mem_take hx))
    rw [List.length_take, Nat.min_eq_left hi] at this
    exact this
  have key : ∀ d i, i + d = w.length → E2 (fun k m => spec_l39Join.l0 k m w (joinB (w.take i) spB) (i : Int)) (spacedB w) := by
    intro d
    induction d with
    | zero =>
      intro i hi
      have hi : i = w.length := by omega
      subst hi
      rw [List.take_length]
      refine E2.eq (fun k m => spec_l39Join.l0_eq k m w _ _) (E2.neg (by omega) ?_)
      unfold spacedB
      by_cases c : w.length = 0
      · rw [if_pos c]; exact E2.pos (by omega) E2.ret
      · rw [if_neg c]; exact E2.neg (by omega) E2.ret
    | succ d ih =>
      intro i hi
      have hlt : i < w.length := by omega
      have h1 := hsz i (by omega)
      have hx : (rd .str w (i : Int)).size ≤ 1000 := by rw [rd_at hlt]; exact hs _ (List.getElem_mem hlt)
      have ht : w.take (i + 1) = w.take i ++ [rd .str w (i : Int)] := by rw [List.take_succ_eq_append_getElem hlt, rd_at hlt]
      have e := ih (i + 1) (by omega)
      have hb : (ByteArray.mk #[32]).size = 1 := rfl
      refine E2.eq (fun k m => spec_l39Join.l0_eq k m w _ _) (E2.pos (by omega) ?_)
      by_cases c : 0 < i
      · have hne : w.take i ≠ [] := by intro h; have := congrArg List.length h; rw [List.length_take, List.length_nil] at this; omega
        rw [ht, joinB_snoc _ _ hne] at e
        refine E2.pos (by omega) (E2.pos ?_ (E2.pos (by omega) (E2.pos (by omega) (E2.pos ?_ ?_))))
        · show _ + 1 ≤ 211106232532992; omega
        · rw [size_app]; show _ + 1 + _ ≤ 211106232532992; omega
        · simp only [wrapS (show i < 9223372036854775807 by omega)]; exact e
      · have h0 : i = 0 := by omega
        subst h0
        have h2 : joinB (w.take 0) spB = ByteArray.mk #[] := rfl
        have h3 : joinB (w.take (0 + 1)) spB = joinB (w.take 0) spB ++ rd .str w ((0 : Nat) : Int) := by
          rw [ht]
          show joinB [_] spB = _
          rw [joinB_one, h2]
          apply bytes_ext
          rw [bytes_app]; rfl
        rw [h3] at e
        refine E2.neg (by omega) (E2.pos (by omega) (E2.pos (by omega) (E2.pos (by omega) ?_)))
        simp only [wrapS (show 0 < 9223372036854775807 by omega)]; exact e
  exact Ev.eq (fun k => spec_l39Join_eq k w) (Ev.loop (f := fun k m => spec_l39Join.l0 k m w (ByteArray.mk #[]) 0) (key w.length 0 (by omega)))
theorem implJoin_ev (w : List ByteArray) (hl : w.length ≤ 1048576) (hs : ∀ x ∈ w, x.size ≤ 1000) : Ev (fun k => strings_Join k w (ByteArray.mk #[32])) (joinB w spB) := by
  have h1 := joinB_size w 1000 hs
  have hp : primJoin .str [.val (.list .str) w, .val .str (ByteArray.mk #[32])] = some (joinB w spB) := by
    unfold primJoin
    refine if_pos ⟨by omega, ?_⟩
    have h2 : (joinB w spB).size = (Lib.join (w.map (·.data.toList)) (ByteArray.mk #[32]).data.toList).length := by
      rw [bytes_size]; rfl
    exact Nat.le_trans (Nat.le_of_eq h2.symm) (by omega)
  refine Ev.eq (fun k => strings_Join_eq k w _) ?_
  rw [hp]
  exact Ev.ret
/-- A row of what each element gives, one behind the other. -/
theorem loop_collect {t : Ty} {β γ : Type} {l : List t.den} {R : Int → List β → γ → Prop} (f : t.den → β) {c : γ} (hend : R (l.length : Int) (l.map f) c)
    (hgo : ∀ i, i < l.length → ∀ s : List β, s.length = i → R ((i + 1 : Nat) : Int) (s ++ [f (rd t l (i : Int))]) c → R (i : Int) s c) : R 0 [] c := by
  have key : ∀ d i, i + d = l.length → R (i : Int) ((l.take i).map f) c := by
    intro d
    induction d with
    | zero =>
      intro i hi
      have hi : i = l.length := by omega
      subst hi
      rw [List.take_length]
      exact hend
    | succ d ih =>
      intro i hi
      have hlt : i < l.length := by omega
      refine hgo i hlt _ (by simp; omega) ?_
      have := ih (i + 1) (by omega)
      rw [List.take_succ_eq_append_getElem hlt, List.map_append, ← rd_at hlt] at this
      exact this
  exact key l.length 0 (by omega)
def faultW (k : Int) : ByteArray := if k = 1 then ByteArray.mk #[112, 97, 114, 97, 108, 108, 101, 108] else if k = 2 then ByteArray.mk #[99, 114, 111, 115, 115, 105, 110, 103] else if k = 3 then ByteArray.mk #[108, 101, 97, 112] else ByteArray.mk #[111, 116, 104, 101, 114]
theorem faultW_size (k : Int) : (faultW k).size ≤ 10 := by
  unfold faultW
  split
  · decide
  · split
    · decide
    · split <;> decide
def R64F (s : DT44) : Prop := R64 s.2.1
def faultB (s : DT44) : ByteArray := (faultW s.1 ++ ByteArray.mk #[64]) ++ itoaB s.2.1
theorem faultB_size (s : DT44) (h : R64F s) : (faultB s).size ≤ 1000 := by
  have h0 := faultW_size s.1
  have h1 := itoaB_size _ h
  unfold faultB
  simp only [size_app]
  show (faultW s.1).size + 1 + _ ≤ 1000; omega
theorem faults_small (l : List DT44) (hr : ∀ x ∈ l, R64F x) : ∀ x ∈ l.map faultB, x.size ≤ 1000 := by
  intro x hx
  obtain ⟨n, hn, rfl⟩ := List.mem_map.1 hx
  exact faultB_size n (hr n hn)
theorem implFault_ev (s : DT44) (h : R64F s) : Ev (fun k => impl_FormatFaults_1 k s) (faultB s) := by
  have h0 := faultW_size s.1
  have h1 := itoaB_size _ h
  unfold faultB
  have hin := inRange_ev s.1 1 3
  by_cases c : 1 ≤ (s.1 : Int) ∧ (s.1 : Int) ≤ 3
  · have hw : rd .str ([(ByteArray.mk #[112, 97, 114, 97, 108, 108, 101, 108]), (ByteArray.mk #[99, 114, 111, 115, 115, 105, 110, 103]), (ByteArray.mk #[108, 101, 97, 112])]) (IntKind.wrap .i64 (s.1 - 1)) = faultW s.1 := by
      generalize hs : (s.1 : Int) = x at *
      have : x = 1 ∨ x = 2 ∨ x = 3 := by omega
      rcases this with e | e | e <;> (subst e; rfl)
    have hx : IntKind.wrap .i64 (s.1 - 1) = s.1 - 1 := wrapI (by omega) (by omega)
    refine Ev.eq (fun k => impl_FormatFaults_1_eq k s) (Ev.bind hin (Ev.pos (by simpa using c) (Ev.pos (by rw [hx]; omega) (Ev.pos (by rw [hx]; simp only [List.length_cons, List.length_nil]; omega) ?_))))
    rw [hw]
    refine Ev.pos ?_ (Ev.bind (implFmt_ev _ h) (Ev.pos ?_ Ev.ret))
    · show (faultW s.1).size + 1 ≤ _; omega
    · simp only [size_app]; show (faultW s.1).size + 1 + _ ≤ _; omega
  · have hw : faultW s.1 = ByteArray.mk #[111, 116, 104, 101, 114] := by
      unfold faultW
      rw [if_neg (by omega), if_neg (by omega), if_neg (by omega)]
    rw [hw]
    refine Ev.eq (fun k => impl_FormatFaults_1_eq k s) (Ev.bind hin (Ev.neg (by simpa using c) (Ev.pos (by decide) (Ev.bind (implFmt_ev _ h) (Ev.pos ?_ Ev.ret)))))
    simp only [size_app]; show 5 + 1 + _ ≤ 211106232532992; omega
theorem specFaults_ev (l : List DT44) (hl : l.length ≤ 1048576) (hr : ∀ x ∈ l, R64F x) : Ev (fun k => spec_FormatFaults k l) (spacedB (l.map faultB)) := by
  refine Ev.eq (fun k => spec_FormatFaults_eq k l) (Ev.loop (f := fun k m => spec_FormatFaults.l0 k m l 0 []) ?_)
  refine loop_collect (t := T44) (l := l) (R := fun i s v => E2 (fun k m => spec_FormatFaults.l0 k m l i s) v) faultB ?_ fun i hi s hsl e => ?_
  · exact E2.eq (fun k m => spec_FormatFaults.l0_eq k m l _ _) (E2.neg (by omega) (E2.bind (specJoin_ev _ (by simpa using hl) (faults_small l hr)) E2.ret))
  · have hx : R64F (rd T44 l (i : Int)) := by rw [rd_at hi]; exact hr _ (List.getElem_mem hi)
    have h1 := itoaB_size _ hx
    refine E2.eq (fun k m => spec_FormatFaults.l0_eq k m l _ s) (E2.pos (by omega) (E2.pos (by omega) (E2.pos (by omega) ?_)))
    simp only [wrapS (show i < 9223372036854775807 by omega)]
    unfold faultB faultW at e
    have go : ∀ (w : ByteArray), w.size ≤ 10 → (w ++ ByteArray.mk #[64]).size + (itoaB (rd T44 l (i : Int)).2.1).size ≤ 211106232532992 := by
      intro w hw
      simp only [size_app]; show w.size + 1 + _ ≤ _; omega
    by_cases c : Eq (α := Int) (rd T44 l (i : Int)).1 1
    · rw [if_pos c] at e
      exact E2.pos c (E2.pos (by decide) (E2.pos (by omega) (E2.pos (by omega) (E2.bind (specFmt_ev _ hx) (E2.pos (go _ (by decide)) (E2.pos (by simp only [List.length_cons, List.length_nil]; omega) e))))))
    · rw [if_neg c] at e
      by_cases c2 : Eq (α := Int) (rd T44 l (i : Int)).1 2
      · rw [if_pos c2] at e
        exact E2.neg c (E2.pos c2 (E2.pos (by decide) (E2.pos (by omega) (E2.pos (by omega) (E2.bind (specFmt_ev _ hx) (E2.pos (go _ (by decide)) (E2.pos (by simp only [List.length_cons, List.length_nil]; omega) e)))))))
      · rw [if_neg c2] at e
        by_cases c3 : Eq (α := Int) (rd T44 l (i : Int)).1 3
        · rw [if_pos c3] at e
          exact E2.neg c (E2.neg c2 (E2.pos c3 (E2.pos (by decide) (E2.pos (by omega) (E2.pos (by omega) (E2.bind (specFmt_ev _ hx) (E2.pos (go _ (by decide)) (E2.pos (by simp only [List.length_cons, List.length_nil]; omega) e))))))))
        · rw [if_neg c3] at e
          exact E2.neg c (E2.neg c2 (E2.neg c3 (E2.pos (by decide) (E2.pos (by omega) (E2.pos (by omega) (E2.bind (specFmt_ev _ hx) (E2.pos (go _ (by decide)) (E2.pos (by simp only [List.length_cons, List.length_nil]; omega) e))))))))
theorem implFaults_ev (l : List DT44) (hl : l.length ≤ 1048576) (hr : ∀ x ∈ l, R64F x) : Ev (fun k => impl_FormatFaults k l) (spacedB (l.map faultB)) := by
  refine Ev.eq (fun k => impl_FormatFaults_eq k l) (Ev.bind (a := spacedB (l.map faultB)) (Ev.eq (fun k => impl_spaced_impl_Fault_24_eq k l) ?_) Ev.ret)
  unfold spacedB
  rw [List.length_map]
  by_cases c : l.length = 0
  · rw [if_pos c]; exact Ev.pos (by omega) Ev.ret
  · rw [if_neg c]
    refine Ev.neg (by omega) (Ev.loop (f := fun k m => impl_spaced_impl_Fault_24.l0 k m l ((List.length l : Nat) : Int) 0 []) ?_)
    refine loop_collect (t := T44) (l := l) (R := fun i s v => E2 (fun k m => impl_spaced_impl_Fault_24.l0 k m l ((List.length l : Nat) : Int) i s) v) faultB ?_ fun i hi s hsl e => ?_
    · exact E2.eq (fun k m => impl_spaced_impl_Fault_24.l0_eq k m l _ _ _) (E2.neg (by omega) (E2.bind (implJoin_ev _ (by simpa using hl) (faults_small l hr)) E2.ret))
    · refine E2.eq (fun k m => impl_spaced_impl_Fault_24.l0_eq k m l _ _ s) (E2.pos (by omega) (E2.pos (by omega) (E2.pos (by omega) (E2.bind (implFault_ev _ (by rw [rd_at hi]; exact hr _ (List.getElem_mem hi))) (E2.pos (by simp only [List.length_cons, List.length_nil]; omega) ?_)))))
      simp only [wrapS (show i < 9223372036854775807 by omega)]; exact e
theorem pure (a0 : List DT44) (w0 : Wd (.list T44) a0) : ∃ k, laws_FnExactFormatFaults k a0 = some true := by
  refine Ev.at (f := fun k => laws_FnExactFormatFaults k a0) ?_
  obtain ⟨r0, e0, h0⟩ := laws_szFaultS_ok a0 w0 1048576 (by omega) (by omega)
  by_cases c0 : r0 < 0
  · exact Ev.eq (fun k => laws_FnExactFormatFaults_eq k a0) (Ev.bind e0 (Ev.pos c0 Ev.ret))
  replace h0 := h0.resolve_left c0
  have b0 := h0.2.2
  have hr : ∀ x ∈ a0, R64F x := fun x hx => r64_of (w0.2 x hx).2.1
  exact Ev.eq (fun k => laws_FnExactFormatFaults_eq k a0) (Ev.bind e0 (Ev.neg c0 (Ev.bind (laws_toFaultS_id _ b0) (Ev.bind (specFaults_ev a0 b0.1 hr) (Ev.bind (laws_toFaultS_id _ b0) (Ev.bind (implFaults_ev a0 b0.1 hr) (Ev.neg (by simp) (Ev.bind (laws_toFaultS_id _ b0) (Ev.bind (laws_eqFaultS_self _ b0) (Ev.neg (by simp) Ev.ret))))))))))
end Go.QFnExactFormatFaults
