/- The plain half of FnExactFormatEvent. No condition. -/
import Derived.Test.YtboaihbcaoofcaaDoorHFnExactFormatEvent
set_option linter.unusedVariables false
set_option linter.unusedSimpArgs false
open Go Go.Flat
namespace Go.QFnExactFormatEvent
theorem l1In_ev (x lo hi : Int) : Ev (fun k => spec_l1In k x lo hi) (decide (lo ≤ x ∧ x ≤ hi)) := by
  by_cases c : lo ≤ x
  · exact Ev.eq (fun k => spec_l1In_eq k x lo hi) (Ev.pos c (Ev.ret.val (by simp [c])))
  · exact Ev.eq (fun k => spec_l1In_eq k x lo hi) (Ev.neg c (Ev.ret.val (by simp [c])))
theorem inRange_ev (x lo hi : Int) : Ev (fun k => impl_InRange k x lo hi) (decide (lo ≤ x ∧ x ≤ hi)) := by
  by_cases c : lo ≤ x
  · exact Ev.eq (fun k => impl_InRange_eq k x lo hi) (Ev.pos c (Ev.ret.val (by simp [c])))
  · exact Ev.eq (fun k => impl_InRange_eq k x lo hi) (Ev.neg c (Ev.ret.val (by simp [c])))
def gcdI (a b : Int) : Int := (Nat.gcd a.toNat b.toNat : Int)
def absI (n : Int) : Int := (n.natAbs : Int)
def isR (n d : Int) : Bool := decide ((1 ≤ d ∧ d ≤ 1000000) ∧ (-1000000000 ≤ n ∧ n ≤ 1000000000) ∧ gcdI (absI n) d = 1)
abbrev Res : Type := DT44 × (Bool × Unit)
def noR : Res := ((0, (0, ())), (false, ()))
def mk (n d : Int) : Res :=
  if isR (Int.tdiv n (gcdI (absI n) d)) (Int.tdiv d (gcdI (absI n) d)) = true then ((Int.tdiv n (gcdI (absI n) d), (Int.tdiv d (gcdI (absI n) d), ())), (true, ())) else noR
def R64 (n : Int) : Prop := -9223372036854775808 ≤ n ∧ n ≤ 9223372036854775807
theorem r64_of {n : Int} (h : Wd (.int .i64) n) : R64 n := by
  have h : (Lit.int .i64 n).wf = true := h
  unfold R64
  simp only [Lit.wf, Bool.and_eq_true, decide_eq_true_eq] at h
  have h1 : IntKind.i64.min = -9223372036854775808 := rfl
  have h2 : IntKind.i64.max = 9223372036854775807 := rfl
  omega
theorem bytes_ext {a b : ByteArray} (h : a.data.toList = b.data.toList) : a = b := by
  obtain ⟨⟨a⟩⟩ := a
  obtain ⟨⟨b⟩⟩ := b
  simp at h
  rw [h]
theorem bytes_app (a b : ByteArray) : (a ++ b).data.toList = a.data.toList ++ b.data.toList := by
  rw [ByteArray.data_append, Array.toList_append]
theorem bytes_size (a : ByteArray) : a.size = a.data.toList.length := by
  show a.data.size = _
  rw [Array.length_toList]
theorem digit_bytes (d : Int) (h1 : 0 ≤ d) (h2 : d ≤ 9) : (ofBytes [IntKind.wrap .u8 (IntKind.wrap .i64 (48 + d))]).data.toList = [UInt8.ofNat (48 + d.toNat)] := by
  rw [wrapI (by omega) (by omega)]
  have : IntKind.wrap .u8 (48 + d) = 48 + d := by
    unfold IntKind.wrap
    simp only [IntKind.signed, IntKind.bits]
    simp
    omega
  rw [this]
  have e : (48 + d).toNat = 48 + d.toNat := by omega
  show [UInt8.ofNat (48 + d).toNat] = _
  rw [e]
theorem decDigits_step (u : Nat) (h : u ≠ 0) : Lib.decDigits u = (if u / 10 = 0 then [] else Lib.decDigits (u / 10)) ++ [UInt8.ofNat (48 + u % 10)] := by
  rw [Lib.decDigits]
  by_cases c : u < 10
  · rw [dif_pos c, if_pos (by omega)]
    simp [Nat.mod_eq_of_lt c]
  · rw [dif_neg c, if_neg (by omega)]
def digs (u : Nat) : List UInt8 := if u = 0 then [] else Lib.decDigits u
theorem digs_step (u : Nat) (h : u ≠ 0) : digs u = digs (u / 10) ++ [UInt8.ofNat (48 + u % 10)] := by
  unfold digs
  rw [if_neg h, decDigits_step u h]
theorem fmt_loop (n : Int) : ∀ (q : Nat) (x : Int) (s : ByteArray), x.natAbs < 10 ^ q → s.size + q ≤ 40 → R64 x → ∃ r : ByteArray, E2 (fun k m => spec_FormatInt.l0 k m n s x) r ∧ r.data.toList = (if n < 0 then [45] else []) ++ digs x.natAbs ++ s.data.toList := by
  intro q
  induction q with
  | zero =>
    intro x s hx hs hr
    have h0 : x = 0 := by simp at hx; omega
    subst h0
    by_cases hn : n < 0
    · refine ⟨_, E2.eq (fun k m => spec_FormatInt.l0_eq k m n s 0) (E2.neg (by simp) (E2.pos hn (E2.pos ?_ E2.ret))), ?_⟩
      · have : (ByteArray.mk #[45]).size = 1 := rfl
        omega
      · rw [bytes_app, if_pos hn]; simp [digs]
    · exact ⟨s, E2.eq (fun k m => spec_FormatInt.l0_eq k m n s 0) (E2.neg (by simp) (E2.neg hn E2.ret)), by rw [if_neg hn]; simp [digs]⟩
  | succ q ih =>
    intro x s hx hs hr
    by_cases h0 : x = 0
    · subst h0
      by_cases hn : n < 0
      · refine ⟨_, E2.eq (fun k m => spec_FormatInt.l0_eq k m n s 0) (E2.neg (by simp) (E2.pos hn (E2.pos ?_ E2.ret))), ?_⟩
        · have : (ByteArray.mk #[45]).size = 1 := rfl
          omega
        · rw [bytes_app, if_pos hn]; simp [digs]
      · exact ⟨s, E2.eq (fun k m => spec_FormatInt.l0_eq k m n s 0) (E2.neg (by simp) (E2.neg hn E2.ret)), by rw [if_neg hn]; simp [digs]⟩
    · have hq : (Int.tdiv x 10).natAbs = x.natAbs / 10 := by rw [Int.natAbs_tdiv]; rfl
      have hlt : (Int.tdiv x 10).natAbs < 10 ^ q := by
        rw [hq, Nat.div_lt_iff_lt_mul (by omega)]
        rw [Nat.pow_succ] at hx
        exact hx
      have hd : (Int.tmod x 10).natAbs = x.natAbs % 10 := by rw [Int.natAbs_tmod]; rfl
      have hr' : R64 (Int.tdiv x 10) := by
        have := Int.natAbs_tdiv_le_natAbs x 10
        unfold R64 at hr ⊢
        omega
      have hw : IntKind.wrap .i64 (Int.tdiv x 10) = Int.tdiv x 10 := wrapI hr'.1 hr'.2
      have hne : x.natAbs ≠ 0 := by omega
      have fin : ∀ (dg : ByteArray), dg.data.toList = [UInt8.ofNat (48 + x.natAbs % 10)] → dg.size + s.size ≤ 211106232532992 ∧ ∃ r : ByteArray, E2 (fun k m => spec_FormatInt.l0 k m n (dg ++ s) (IntKind.wrap .i64 (Int.tdiv x 10))) r ∧ r.data.toList = (if n < 0 then [45] else []) ++ digs x.natAbs ++ s.data.toList := by
        intro dg hdg
        have hsz : dg.size = 1 := by rw [bytes_size, hdg]; rfl
        refine ⟨by omega, ?_⟩
        obtain ⟨r, er, hr2⟩ := ih (Int.tdiv x 10) (dg ++ s) hlt (by rw [bytes_size, bytes_app, List.length_append, ← bytes_size, ← bytes_size]; omega) hr'
        rw [hw]
        refine ⟨r, er, ?_⟩
        rw [hr2, hq, bytes_app, hdg, digs_step _ hne]
        simp
      by_cases hneg : Int.tmod x 10 < 0
      · have hb : -(Int.tmod x 10) = ((x.natAbs % 10 : Nat) : Int) := by rw [← hd]; omega
        have hw2 : IntKind.wrap .i64 (-(Int.tmod x 10)) = ((x.natAbs % 10 : Nat) : Int) := by rw [hb]; exact wrapI (by omega) (by omega)
        have hdg : (ofBytes ([IntKind.wrap .u8 (IntKind.wrap .i64 (48 + (IntKind.wrap .i64 (-(Int.tmod x 10)))))])).data.toList = [UInt8.ofNat (48 + x.natAbs % 10)] := by
          rw [hw2, digit_bytes _ (by omega) (by omega), Int.toNat_natCast]
        obtain ⟨h1, r, er, h2⟩ := fin _ hdg
        exact ⟨r, E2.eq (fun k m => spec_FormatInt.l0_eq k m n s x) (E2.pos h0 (E2.neg (by omega) (E2.pos hneg (E2.pos h1 (E2.neg (by omega) er))))), h2⟩
      · have hb : Int.tmod x 10 = ((x.natAbs % 10 : Nat) : Int) := by rw [← hd]; omega
        have hdg : (ofBytes ([IntKind.wrap .u8 (IntKind.wrap .i64 (48 + (Int.tmod x 10)))])).data.toList = [UInt8.ofNat (48 + x.natAbs % 10)] := by
          rw [hb, digit_bytes _ (by omega) (by omega), Int.toNat_natCast]
        obtain ⟨h1, r, er, h2⟩ := fin _ hdg
        exact ⟨r, E2.eq (fun k m => spec_FormatInt.l0_eq k m n s x) (E2.pos h0 (E2.neg (by omega) (E2.neg hneg (E2.pos h1 (E2.neg (by omega) er))))), h2⟩
theorem specFmt_ev (n : Int) (h : R64 n) : Ev (fun k => spec_FormatInt k n) (itoaB n) := by
  by_cases h0 : n = 0
  · subst h0
    refine Ev.eq (fun k => spec_FormatInt_eq k 0) (Ev.pos rfl (Ev.ret.val ?_))
    apply bytes_ext
    unfold itoaB Lib.itoa
    rw [if_neg (by omega)]
    show [48] = Lib.decDigits 0
    rw [Lib.decDigits, dif_pos (by omega)]
    rfl
  · obtain ⟨r, er, hr⟩ := fmt_loop n 19 n (ByteArray.mk #[]) (by unfold R64 at h; omega) (by show 0 + 19 ≤ 40; omega) h
    refine Ev.eq (fun k => spec_FormatInt_eq k n) (Ev.neg h0 ((Ev.loop (f := fun k m => spec_FormatInt.l0 k m n (ByteArray.mk #[]) n) er).val ?_))
    apply bytes_ext
    rw [hr]
    unfold itoaB Lib.itoa digs
    rw [if_neg (show ¬ n.natAbs = 0 by omega)]
    by_cases hn : n < 0
    · rw [if_pos hn, if_pos hn]; simp
    · rw [if_neg hn, if_neg hn]
      have : n.toNat = n.natAbs := by omega
      rw [this]
      simp
theorem implFmt_ev (n : Int) (h : R64 n) : Ev (fun k => impl_FormatInt k n) (itoaB n) := by
  have hp : primItoa .str [.val (.int .i64) n] = some (itoaB n) := by unfold primItoa; exact if_pos h
  refine Ev.eq (fun k => impl_FormatInt_eq k n) (Ev.bind (Ev.eq (fun k => strconv_Itoa_eq k n) ?_) Ev.ret)
  rw [hp]
  exact Ev.ret
theorem decDigits_len : ∀ (q u : Nat), u < 10 ^ (q + 1) → (Lib.decDigits u).length ≤ q + 1 := by
  intro q
  induction q with
  | zero => intro u h; rw [Lib.decDigits, dif_pos (by simpa using h)]; simp
  | succ q ih =>
    intro u h
    rw [Lib.decDigits]
    split
    · simp
    · have := ih (u / 10) (by rw [Nat.div_lt_iff_lt_mul (by omega)]; rw [Nat.pow_succ] at h; exact h)
      simp
      omega
theorem itoaB_size (n : Int) (h : R64 n) : (itoaB n).size ≤ 20 := by
  rw [bytes_size]
  unfold itoaB Lib.itoa
  unfold R64 at h
  split
  · have := decDigits_len 18 n.natAbs (by omega)
    simp; omega
  · have := decDigits_len 18 n.toNat (by omega)
    simp; omega
theorem size_app (a b : ByteArray) : (a ++ b).size = a.size + b.size := by
  rw [bytes_size, bytes_app, List.length_append, ← bytes_size, ← bytes_size]
/-- The rounds of three loops, one within the other. -/
def E4 {α : Type} (f : Nat → Nat → Nat → Nat → Option α) (v : α) : Prop := ∃ K M N L, ∀ k m n l, K ≤ k → M ≤ m → N ≤ n → L ≤ l → f k m n l = some v
theorem E4.ret {α : Type} {v : α} : E4 (fun _ _ _ _ => some v) v := ⟨0, 0, 0, 0, fun _ _ _ _ _ _ _ _ => rfl⟩
theorem E4.eq {α : Type} {F f : Nat → Nat → Nat → Nat → Option α} {v : α} (h : ∀ k m n l, F k (m + 1) n l = f k m n l) (e : E4 f v) : E4 F v := by
  obtain ⟨K, M, N, L, e⟩ := e
  refine ⟨K, M + 1, N, L, fun k m n l hk hm hn hl => ?_⟩
  obtain ⟨j, rfl⟩ : ∃ j, m = j + 1 := ⟨m - 1, by omega⟩
  rw [h]
  exact e k j n l hk (by omega) hn hl
theorem E4.bind {α β : Type} {f : Nat → Option α} {g : Nat → Nat → Nat → Nat → α → Option β} {a : α} {v : β} (h : Ev f a) (e : E4 (fun k m n l => g k m n l a) v) : E4 (fun k m n l => (f k).bind fun x => g k m n l x) v := by
  obtain ⟨K, h⟩ := h
  obtain ⟨K', M, N, L, e⟩ := e
  refine ⟨max K K', M, N, L, fun k m n l hk hm hn hl => ?_⟩
  show (f k).bind _ = _
  rw [h k (by omega)]
  exact e k m n l (by omega) hm hn hl
theorem E4.pos {α : Type} {p : Prop} [d : Decidable p] {f g : Nat → Nat → Nat → Nat → Option α} {v : α} (h : p) (e : E4 f v) : E4 (fun k m n l => if p then f k m n l else g k m n l) v := by
  obtain ⟨K, M, N, L, e⟩ := e
  exact ⟨K, M, N, L, fun k m n l hk hm hn hl => by show (if p then f k m n l else g k m n l) = _; rw [if_pos h]; exact e k m n l hk hm hn hl⟩
theorem E4.neg {α : Type} {p : Prop} [d : Decidable p] {f g : Nat → Nat → Nat → Nat → Option α} {v : α} (h : ¬ p) (e : E4 g v) : E4 (fun k m n l => if p then f k m n l else g k m n l) v := by
  obtain ⟨K, M, N, L, e⟩ := e
  exact ⟨K, M, N, L, fun k m n l hk hm hn hl => by show (if p then f k m n l else g k m n l) = _; rw [if_neg h]; exact e k m n l hk hm hn hl⟩
theorem E4.out {α : Type} {f : Nat → Nat → Nat → Option α} {v : α} (e : E3 f v) : E4 (fun k _ n l => f k l n) v := let ⟨K, M, N, h⟩ := e; ⟨K, 0, N, M, fun k _ n l hk _ hn hl => h k l n hk hl hn⟩
theorem E4.loop {α : Type} {f : Nat → Nat → Nat → Nat → Option α} {v : α} (e : E4 f v) : E3 (fun k m n => f k k n m) v := let ⟨K, M, N, L, h⟩ := e; ⟨max K M, L, N, fun k m n hk hm hn => h k k n m (by omega) (by omega) hn hm⟩
def half (s : Int) : Int := halvesT.getD s.toNat 0
theorem halves_ev (s : Int) (h0 : 0 ≤ s) (h1 : s ≤ 6) : Ev (fun k => impl_halves k s) (half s) := by
  have hp : primHalves (.int .i64) [.val (.int .i64) s] = some (half s) := by unfold primHalves; exact if_pos ⟨h0, (show s < 7 by omega)⟩
  refine Ev.eq (fun k => impl_halves_eq k s) ?_
  rw [hp]
  exact Ev.ret
theorem half_bd (s : Int) (h0 : 0 ≤ s) (h1 : s ≤ 6) : 0 ≤ half s ∧ half s ≤ 11 := by
  have : s = 0 ∨ s = 1 ∨ s = 2 ∨ s = 3 ∨ s = 4 ∨ s = 5 ∨ s = 6 := by omega
  rcases this with rfl | rfl | rfl | rfl | rfl | rfl | rfl <;> decide
def pitchI (x : DT54) : Int := 12 * (x.2.2.1 + 1) + half x.1 + x.2.1
theorem pitch_ev (x : DT54) (h0 : 0 ≤ (x.1 : Int) ∧ (x.1 : Int) ≤ 6) (h1 : -2 ≤ (x.2.1 : Int) ∧ (x.2.1 : Int) ≤ 2) (h2 : 0 ≤ (x.2.2.1 : Int) ∧ (x.2.2.1 : Int) ≤ 8) : Ev (fun k => impl_Note__pitch k x) (pitchI x) := by
  have hb := half_bd x.1 h0.1 h0.2
  refine Ev.eq (fun k => impl_Note__pitch_eq k x) (Ev.bind (halves_ev _ h0.1 h0.2) (Ev.ret.val ?_))
  rw [wrapI (n := x.2.2.1 + 1) (by omega) (by omega), wrapI (n := 12 * (x.2.2.1 + 1)) (by omega) (by omega), wrapI (n := 12 * (x.2.2.1 + 1) + x.2.1) (by omega) (by omega), wrapI (by omega) (by omega)]
  unfold pitchI
  omega
theorem base_rd (s : Int) : rd (.int .i64) [0, 2, 4, 5, 7, 9, 11] s = half s := rfl
theorem specPitch_ev (x : DT54) (h0 : 0 ≤ (x.1 : Int) ∧ (x.1 : Int) ≤ 6) (h1 : -2 ≤ (x.2.1 : Int) ∧ (x.2.1 : Int) ≤ 2) (h2 : 0 ≤ (x.2.2.1 : Int) ∧ (x.2.2.1 : Int) ≤ 8) : Ev (fun k => spec_l5Pitch k x) (pitchI x) := by
  have hb := half_bd x.1 h0.1 h0.2
  refine Ev.eq (fun k => spec_l5Pitch_eq k x) (Ev.bind (Ev.eq (fun k => spec_l5Base_eq k) Ev.ret) (Ev.pos h0.1 (Ev.pos (by show x.1 < 7; omega) (Ev.ret.val ?_))))
  rw [base_rd, wrapI (n := x.2.2.1 + 1) (by omega) (by omega), wrapI (n := 12 * (x.2.2.1 + 1)) (by omega) (by omega), wrapI (n := 12 * (x.2.2.1 + 1) + half x.1) (by omega) (by omega), wrapI (by omega) (by omega)]
  rfl
theorem implNote_ev (x : DT54) (h0 : 0 ≤ (x.1 : Int) ∧ (x.1 : Int) ≤ 6) (h1 : -2 ≤ (x.2.1 : Int) ∧ (x.2.1 : Int) ≤ 2) (h2 : 0 ≤ (x.2.2.1 : Int) ∧ (x.2.2.1 : Int) ≤ 8) : Ev (fun k => impl_IsNote k x) (decide (12 ≤ pitchI x ∧ pitchI x ≤ 120)) :=
  Ev.eq (fun k => impl_IsNote_eq k x) (Ev.bind (inRange_ev _ _ _) (Ev.pos (by simpa using h0) (Ev.bind (inRange_ev _ _ _) (Ev.pos (by simpa using h1) (Ev.bind (inRange_ev _ _ _) (Ev.pos (by simpa using h2) (Ev.bind (pitch_ev x h0 h1 h2) (Ev.bind (inRange_ev _ _ _) (Ev.ret.val (by simp))))))))))
theorem specNote_ev (x : DT54) (h0 : 0 ≤ (x.1 : Int) ∧ (x.1 : Int) ≤ 6) (h1 : -2 ≤ (x.2.1 : Int) ∧ (x.2.1 : Int) ≤ 2) (h2 : 0 ≤ (x.2.2.1 : Int) ∧ (x.2.2.1 : Int) ≤ 8) : Ev (fun k => spec_IsNote k x) (decide (12 ≤ pitchI x ∧ pitchI x ≤ 120)) :=
  Ev.eq (fun k => spec_IsNote_eq k x) (Ev.bind (l1In_ev _ _ _) (Ev.pos (by simpa using h0) (Ev.bind (l1In_ev _ _ _) (Ev.pos (by simpa using h1) (Ev.bind (l1In_ev _ _ _) (Ev.pos (by simpa using h2) (Ev.bind (specPitch_ev x h0 h1 h2) (Ev.bind (l1In_ev _ _ _) (Ev.ret.val (by simp))))))))))
/-- What the search asks. -/
def askP (p c o s a : Int) : Prop := 12 * (o + 1) + half s + a = p ∧ a = c
theorem ask_ev (p c o s a : Int) (hp : 12 ≤ p ∧ p ≤ 119) (h0 : 0 ≤ s ∧ s ≤ 6) (h1 : -2 ≤ a ∧ a ≤ 2) (h2 : 0 ≤ o ∧ o ≤ 8) :
    ∃ b, Ev (fun k => impl_IsNote k (s, (a, (o, ())))) b ∧ (b = true → ∃ d, Ev (fun k => impl_SpellSharp_1 k (s, (a, (o, ()))) p c) d ∧ (d = true ↔ askP p c o s a)) ∧ (b = false → ¬ askP p c o s a) := by
  have hb := half_bd s h0.1 h0.2
  refine ⟨_, implNote_ev (s, (a, (o, ()))) h0 h1 h2, fun _ => ?_, fun h => ?_⟩
  · by_cases c1 : pitchI (s, (a, (o, ()))) = p
    · exact ⟨decide ((a : Int) = c), Ev.eq (fun k => impl_SpellSharp_1_eq k _ p c) (Ev.bind (pitch_ev (s, (a, (o, ()))) h0 h1 h2) (Ev.pos c1 Ev.ret)), by rw [decide_eq_true_eq]; exact ⟨fun h => ⟨c1, h⟩, fun h => h.2⟩⟩
    · exact ⟨false, Ev.eq (fun k => impl_SpellSharp_1_eq k _ p c) (Ev.bind (pitch_ev (s, (a, (o, ()))) h0 h1 h2) (Ev.neg c1 Ev.ret)), by simp only [Bool.false_eq_true, false_iff]; exact fun h => c1 h.1⟩
  · intro hk
    have h := of_decide_eq_false h
    have hk1 : pitchI (s, (a, (o, ()))) = p := hk.1
    omega
abbrev NRes : Type := DT54 × (Bool × Unit)
def noN : NRes := ((0, (0, (0, ()))), (false, ()))
/-- A step where nothing is found. -/
theorem pass2 (p c : Int) (hp : 12 ≤ p ∧ p ≤ 119) (x y z : Int) (o s : Int) (h0 : 0 ≤ s ∧ s ≤ 6) (h2 : 0 ≤ o ∧ o ≤ 8) (v : NRes) (e : E3 (fun k m n => impl_notes_44.l1 k m n p c o (s + 1) x y z) v) :
    ∀ (d : Nat) (a : Int), a + d = 3 → -2 ≤ a → (∀ b, a ≤ b → b ≤ 2 → ¬ askP p c o s b) → E4 (fun k m n l => impl_notes_44.l2 k m n l p c o s a x y z) v := by
  intro d
  induction d with
  | zero =>
    intro a ha _ _
    refine E4.eq (fun k m n l => impl_notes_44.l2_eq k m n l p c o s a x y z) (E4.neg (by omega) ?_)
    rw [wrapI (n := s + 1) (by omega) (by omega)]
    exact E4.out e
  | succ d ih =>
    intro a ha h1 hno
    obtain ⟨b, eb, k1, k2⟩ := ask_ev p c o s a hp h0 (by omega) h2
    have ih' := ih (a + 1) (by omega) (by omega) (fun b hb hb2 => hno b (by omega) hb2)
    have hw : IntKind.wrap .i64 (a + 1) = a + 1 := wrapI (by omega) (by omega)
    cases b with
    | true =>
      obtain ⟨d', ed, hd⟩ := k1 rfl
      refine E4.eq (fun k m n l => impl_notes_44.l2_eq k m n l p c o s a x y z) (E4.pos (by omega) (E4.bind eb (E4.pos rfl (E4.bind ed (E4.neg (fun h => hno a (Int.le_refl _) (by omega) (hd.1 h)) ?_)))))
      rw [hw]; exact ih'
    | false =>
      refine E4.eq (fun k m n l => impl_notes_44.l2_eq k m n l p c o s a x y z) (E4.pos (by omega) (E4.bind eb (E4.neg (by simp) ?_)))
      rw [hw]; exact ih'
theorem hit2 (p c : Int) (hp : 12 ≤ p ∧ p ≤ 119) (x y z : Int) (o s : Int) (h0 : 0 ≤ s ∧ s ≤ 6) (h2 : 0 ≤ o ∧ o ≤ 8) (a0 : Int) (ha0 : a0 ≤ 2) (hit : askP p c o s a0) :
    ∀ (d : Nat) (a : Int), a + d = a0 → -2 ≤ a → E4 (fun k m n l => impl_notes_44.l2 k m n l p c o s a x y z) ((s, (a0, (o, ()))), (true, ())) := by
  intro d
  induction d with
  | zero =>
    intro a ha h1
    have ha : a = a0 := by omega
    subst ha
    obtain ⟨b, eb, k1, k2⟩ := ask_ev p c o s a hp h0 (by omega) h2
    cases b with
    | true =>
      obtain ⟨d', ed, hd⟩ := k1 rfl
      exact E4.eq (fun k m n l => impl_notes_44.l2_eq k m n l p c o s a x y z) (E4.pos (by omega) (E4.bind eb (E4.pos rfl (E4.bind ed (E4.pos (hd.2 hit) E4.ret)))))
    | false => exact absurd hit (k2 rfl)
  | succ d ih =>
    intro a ha h1
    obtain ⟨b, eb, k1, k2⟩ := ask_ev p c o s a hp h0 (by omega) h2
    have ih' := ih (a + 1) (by omega) (by omega)
    have hw : IntKind.wrap .i64 (a + 1) = a + 1 := wrapI (by omega) (by omega)
    have hno : ¬ askP p c o s a := fun h => by have := h.2; have := hit.2; omega
    cases b with
    | true =>
      obtain ⟨d', ed, hd⟩ := k1 rfl
      refine E4.eq (fun k m n l => impl_notes_44.l2_eq k m n l p c o s a x y z) (E4.pos (by omega) (E4.bind eb (E4.pos rfl (E4.bind ed (E4.neg (fun h => hno (hd.1 h)) ?_)))))
      rw [hw]; exact ih'
    | false =>
      refine E4.eq (fun k m n l => impl_notes_44.l2_eq k m n l p c o s a x y z) (E4.pos (by omega) (E4.bind eb (E4.neg (by simp) ?_)))
      rw [hw]; exact ih'
theorem pass1 (p c : Int) (hp : 12 ≤ p ∧ p ≤ 119) (x y z : Int) (o : Int) (h2 : 0 ≤ o ∧ o ≤ 8) (v : NRes) (e : E2 (fun k m => impl_notes_44.l0 k m p c (o + 1) x y z) v) :
    ∀ (d : Nat) (s : Int), s + d = 7 → 0 ≤ s → (∀ t b, s ≤ t → t ≤ 6 → -2 ≤ b → b ≤ 2 → ¬ askP p c o t b) → E3 (fun k m n => impl_notes_44.l1 k m n p c o s x y z) v := by
  intro d
  induction d with
  | zero =>
    intro s hs _ _
    refine E3.eq (fun k m n => impl_notes_44.l1_eq k m n p c o s x y z) (E3.neg (by omega) ?_)
    rw [wrapI (n := o + 1) (by omega) (by omega)]
    exact E3.out e
  | succ d ih =>
    intro s hs h0 hno
    have ih' := ih (s + 1) (by omega) (by omega) (fun t b h3 h4 h5 h6 => hno t b (by omega) h4 h5 h6)
    exact E3.eq (fun k m n => impl_notes_44.l1_eq k m n p c o s x y z) (E3.pos (by omega) (E4.loop (f := fun k m n l => impl_notes_44.l2 k m n l p c o s (-2) x y z) (pass2 p c hp x y z o s (by omega) h2 v ih' 5 (-2) (by omega) (by omega) (fun b h3 h4 => hno s b (Int.le_refl _) (by omega) h3 h4))))
theorem hit1 (p c : Int) (hp : 12 ≤ p ∧ p ≤ 119) (x y z : Int) (o : Int) (h2 : 0 ≤ o ∧ o ≤ 8) (s0 a0 : Int) (hs0 : s0 ≤ 6) (ha0 : -2 ≤ a0 ∧ a0 ≤ 2) (hit : askP p c o s0 a0) (uniq : ∀ t b, 0 ≤ t → t ≤ 6 → askP p c o t b → t = s0) :
    ∀ (d : Nat) (s : Int), s + d = s0 → 0 ≤ s → E3 (fun k m n => impl_notes_44.l1 k m n p c o s x y z) ((s0, (a0, (o, ()))), (true, ())) := by
  intro d
  induction d with
  | zero =>
    intro s hs h0
    have hs : s = s0 := by omega
    subst hs
    obtain ⟨d, hd⟩ : ∃ d : Nat, (-2 : Int) + d = a0 := ⟨(a0 + 2).toNat, by omega⟩
    exact E3.eq (fun k m n => impl_notes_44.l1_eq k m n p c o s x y z) (E3.pos (by omega) (E4.loop (f := fun k m n l => impl_notes_44.l2 k m n l p c o s (-2) x y z) (hit2 p c hp x y z o s (by omega) h2 a0 ha0.2 hit d (-2) hd (by omega))))
  | succ d ih =>
    intro s hs h0
    have ih' := ih (s + 1) (by omega) (by omega)
    exact E3.eq (fun k m n => impl_notes_44.l1_eq k m n p c o s x y z) (E3.pos (by omega) (E4.loop (f := fun k m n l => impl_notes_44.l2 k m n l p c o s (-2) x y z) (pass2 p c hp x y z o s (by omega) h2 _ ih' 5 (-2) (by omega) (by omega) (fun b h3 h4 hk => by have := uniq s b h0 (by omega) hk; omega))))
theorem none0 (p c : Int) (hp : 12 ≤ p ∧ p ≤ 119) (x y z : Int) (hno : ∀ o t b, 0 ≤ o → o ≤ 8 → 0 ≤ t → t ≤ 6 → -2 ≤ b → b ≤ 2 → ¬ askP p c o t b) : ∀ (d : Nat) (o : Int), o + d = 9 → 0 ≤ o → E2 (fun k m => impl_notes_44.l0 k m p c o x y z) noN := by
  intro d
  induction d with
  | zero =>
    intro o ho _
    exact E2.eq (fun k m => impl_notes_44.l0_eq k m p c o x y z) (E2.neg (by omega) E2.ret)
  | succ d ih =>
    intro o ho h0
    exact E2.eq (fun k m => impl_notes_44.l0_eq k m p c o x y z) (E2.pos (by omega) (E3.loop (f := fun k m n => impl_notes_44.l1 k m n p c o 0 x y z) (pass1 p c hp x y z o (by omega) _ (ih (o + 1) (by omega) (by omega)) 7 0 (by omega) (by omega) (fun t b h3 h4 h5 h6 => hno o t b h0 (by omega) h3 h4 h5 h6))))
theorem hit0 (p c : Int) (hp : 12 ≤ p ∧ p ≤ 119) (x y z : Int) (o0 s0 a0 : Int) (ho0 : o0 ≤ 8) (hs0 : 0 ≤ s0 ∧ s0 ≤ 6) (ha0 : -2 ≤ a0 ∧ a0 ≤ 2) (hit : askP p c o0 s0 a0) (uniq : ∀ o t b, 0 ≤ o → o ≤ 8 → 0 ≤ t → t ≤ 6 → askP p c o t b → o = o0 ∧ t = s0) :
    ∀ (d : Nat) (o : Int), o + d = o0 → 0 ≤ o → E2 (fun k m => impl_notes_44.l0 k m p c o x y z) ((s0, (a0, (o0, ()))), (true, ())) := by
  intro d
  induction d with
  | zero =>
    intro o ho h0
    have ho : o = o0 := by omega
    subst ho
    obtain ⟨d, hd⟩ : ∃ d : Nat, (0 : Int) + d = s0 := ⟨s0.toNat, by omega⟩
    exact E2.eq (fun k m => impl_notes_44.l0_eq k m p c o x y z) (E2.pos (by omega) (E3.loop (f := fun k m n => impl_notes_44.l1 k m n p c o 0 x y z) (hit1 p c hp x y z o (by omega) s0 a0 hs0.2 ha0 hit (fun t b h3 h4 hk => (uniq o t b h0 (by omega) h3 h4 hk).2) d 0 hd (by omega))))
  | succ d ih =>
    intro o ho h0
    exact E2.eq (fun k m => impl_notes_44.l0_eq k m p c o x y z) (E2.pos (by omega) (E3.loop (f := fun k m n => impl_notes_44.l1 k m n p c o 0 x y z) (pass1 p c hp x y z o (by omega) _ (ih (o + 1) (by omega) (by omega)) 7 0 (by omega) (by omega) (fun t b h3 h4 h5 h6 hk => by have := (uniq o t b h0 (by omega) h3 h4 hk).1; omega))))
/-- The step, the alteration, of a pitch's place in its octave. -/
def stepOf (c : Int) : Int := [0, 0, 1, 1, 2, 3, 3, 4, 4, 5, 5, 6].getD c.toNat 0
def alterOf (c : Int) : Int := c - half (stepOf c)
theorem twelve {c : Int} (h0 : 0 ≤ c) (h1 : c ≤ 11) : c = 0 ∨ c = 1 ∨ c = 2 ∨ c = 3 ∨ c = 4 ∨ c = 5 ∨ c = 6 ∨ c = 7 ∨ c = 8 ∨ c = 9 ∨ c = 10 ∨ c = 11 := by omega
theorem seven {c : Int} (h0 : 0 ≤ c) (h1 : c ≤ 6) : c = 0 ∨ c = 1 ∨ c = 2 ∨ c = 3 ∨ c = 4 ∨ c = 5 ∨ c = 6 := by omega
theorem place_facts (c : Int) (h0 : 0 ≤ c) (h1 : c ≤ 11) : (0 ≤ stepOf c ∧ stepOf c ≤ 6) ∧ (alterOf c = 0 ∨ alterOf c = 1) := by
  rcases twelve h0 h1 with rfl | rfl | rfl | rfl | rfl | rfl | rfl | rfl | rfl | rfl | rfl | rfl <;> decide
theorem half_inj (s t : Int) (hs : 0 ≤ s ∧ s ≤ 6) (ht : 0 ≤ t ∧ t ≤ 6) (h : half s = half t) : s = t := by
  rcases seven hs.1 hs.2 with rfl | rfl | rfl | rfl | rfl | rfl | rfl <;> rcases seven ht.1 ht.2 with rfl | rfl | rfl | rfl | rfl | rfl | rfl <;> first | rfl | (exfalso; revert h; decide)
theorem place_nat (c s : Int) (h0 : 0 ≤ c) (h1 : c ≤ 11) (hs : 0 ≤ s ∧ s ≤ 6) (h : half s = c) : alterOf c = 0 := by
  rcases seven hs.1 hs.2 with rfl | rfl | rfl | rfl | rfl | rfl | rfl <;> (subst h; decide)
def noteOf (p : Int) : DT54 := (stepOf (p % 12), (alterOf (p % 12), (p / 12 - 1, ())))
theorem note_pitch (p : Int) : pitchI (noteOf p) = p := by
  unfold pitchI noteOf alterOf
  show 12 * (p / 12 - 1 + 1) + half (stepOf (p % 12)) + (p % 12 - half (stepOf (p % 12))) = p
  omega
theorem implSpell_ev (p : Int) (hp : 12 ≤ p ∧ p ≤ 119) : Ev (fun k => impl_SpellSharp k p) (noteOf p, (true, ())) := by
  obtain ⟨hs, ha⟩ := place_facts (p % 12) (by omega) (by omega)
  have hq : 0 ≤ p / 12 - 1 ∧ p / 12 - 1 ≤ 8 := by omega
  have found : ∀ (x y z : Int), Ev (fun k => impl_notes_44 k p (alterOf (p % 12))) (noteOf p, (true, ())) := by
    intro x y z
    obtain ⟨d, hd⟩ : ∃ d : Nat, (0 : Int) + d = p / 12 - 1 := ⟨(p / 12 - 1).toNat, by omega⟩
    refine Ev.eq (fun k => impl_notes_44_eq k p _) (Ev.loop (f := fun k m => impl_notes_44.l0 k m p (alterOf (p % 12)) 0 0 0 0) ?_)
    refine hit0 p (alterOf (p % 12)) hp 0 0 0 (p / 12 - 1) (stepOf (p % 12)) (alterOf (p % 12)) hq.2 hs (by omega) ⟨note_pitch p, rfl⟩ (fun o t b h1 h2 h3 h4 hk => ?_) d 0 hd (by omega)
    obtain ⟨k1, k2⟩ := hk
    have hb := half_bd t h3 h4
    have e1 := note_pitch p
    have e2 : alterOf (p % 12) = p % 12 - half (stepOf (p % 12)) := rfl
    have hb2 := half_bd _ hs.1 hs.2
    have ho : o = p / 12 - 1 := by
      rcases ha with h | h
      · omega
      · by_cases hc : half t = 11
        · exfalso
          have : p % 12 = 0 := by omega
          rw [this] at h
          revert h; decide
        · omega
    refine ⟨ho, half_inj t _ ⟨h3, h4⟩ hs ?_⟩
    omega
  refine Ev.eq (fun k => impl_SpellSharp_eq k p) (Ev.bind (inRange_ev _ _ _) (Ev.neg (by simpa using hp) (Ev.loop (f := fun k m => impl_SpellSharp.l0 k m p 0 0 0 0) ?_)))
  rcases ha with h | h
  · have f := found 0 0 0
    rw [h] at f
    exact E2.eq (fun k m => impl_SpellSharp.l0_eq k m p 0 0 0 0) (E2.pos (by omega) (E2.bind f (E2.pos rfl E2.ret)))
  · have f := found 0 0 0
    rw [h] at f
    have hno : Ev (fun k => impl_notes_44 k p 0) noN := Ev.eq (fun k => impl_notes_44_eq k p 0) (Ev.loop (f := fun k m => impl_notes_44.l0 k m p 0 0 0 0 0) (none0 p 0 hp 0 0 0 (fun o t b h1 h2 h3 h4 h5 h6 hk => by
      obtain ⟨k1, rfl⟩ := hk
      have hb := half_bd t h3 h4
      have : half t = p % 12 := by omega
      have := place_nat (p % 12) t (by omega) (by omega) ⟨h3, h4⟩ this
      omega) 9 0 (by omega) (by omega)))
    refine E2.eq (fun k m => impl_SpellSharp.l0_eq k m p 0 0 0 0) (E2.pos (by omega) (E2.bind hno (E2.neg (by simp [noN]) ?_)))
    rw [wrapI (n := 0 + 1) (by omega) (by omega)]
    exact E2.eq (fun k m => impl_SpellSharp.l0_eq k m p 0 0 0 1) (E2.pos (by omega) (E2.bind f (E2.pos rfl E2.ret)))
/-- The last step at or below a place. -/
def lastStep (c : Int) : Nat → Int → Int → Int
  | 0, _, cur => cur
  | d + 1, i, cur => lastStep c d (i + 1) (if half i ≤ c then i else cur)
theorem specSpell_loop (p q : Int) (hp : 12 ≤ p ∧ p ≤ 119) (x y z : Int) : ∀ (d : Nat) (i cur w : Int), i + d = 7 → 0 ≤ i → 0 ≤ lastStep (p % 12) d i cur → lastStep (p % 12) d i cur ≤ 6 →
    E2 (fun k m => spec_SpellSharp.l0 k m p i x y z cur w q) ((lastStep (p % 12) d i cur, (p % 12 - half (lastStep (p % 12) d i cur), (q, ()))), (true, ())) := by
  have hm : Int.tmod p 12 = p % 12 := Int.tmod_eq_emod_of_nonneg (by omega)
  intro d
  induction d with
  | zero =>
    intro i cur w hi h0 h1 h2
    have h1 : 0 ≤ cur := h1
    have h2 : cur ≤ 6 := h2
    have hb := half_bd cur h1 h2
    refine E2.eq (fun k m => spec_SpellSharp.l0_eq k m p i x y z cur w q) (E2.neg (by omega) (E2.neg (by omega) (E2.bind (Ev.eq (fun k => spec_l5Base_eq k) Ev.ret) (E2.pos h1 (E2.pos (by show cur < 7; omega) (E2.ret.val ?_))))))
    rw [base_rd, hm, wrapI (by omega) (by omega)]
    rfl
  | succ d ih =>
    intro i cur w hi h0 h1 h2
    have hw : IntKind.wrap .i64 (i + 1) = i + 1 := wrapI (by omega) (by omega)
    refine E2.eq (fun k m => spec_SpellSharp.l0_eq k m p i x y z cur w q) (E2.pos (by omega) (E2.bind (Ev.eq (fun k => spec_l5Base_eq k) Ev.ret) (E2.pos h0 (E2.pos (by show i < 7; omega) (E2.neg (by omega) ?_)))))
    rw [base_rd, hm, hw]
    have e : lastStep (p % 12) (d + 1) i cur = lastStep (p % 12) d (i + 1) (if half i ≤ p % 12 then i else cur) := rfl
    rw [e] at h1 h2 ⊢
    by_cases c : half i ≤ p % 12
    · rw [if_pos c] at h1 h2 ⊢
      exact E2.pos c (ih (i + 1) i w (by omega) (by omega) h1 h2)
    · rw [if_neg c] at h1 h2 ⊢
      exact E2.neg c (ih (i + 1) cur w (by omega) (by omega) h1 h2)
theorem lastStep_eq (c : Int) (h0 : 0 ≤ c) (h1 : c ≤ 11) : lastStep c 7 0 0 = stepOf c := by
  rcases twelve h0 h1 with rfl | rfl | rfl | rfl | rfl | rfl | rfl | rfl | rfl | rfl | rfl | rfl <;> decide
theorem specSpell_ev (p : Int) (hp : 12 ≤ p ∧ p ≤ 119) : Ev (fun k => spec_SpellSharp k p) (noteOf p, (true, ())) := by
  obtain ⟨hs, ha⟩ := place_facts (p % 12) (by omega) (by omega)
  have hl := lastStep_eq (p % 12) (by omega) (by omega)
  have h := specSpell_loop p (p / 12 - 1) hp 0 0 0 7 0 0 0 (by omega) (by omega) (by omega) (by omega)
  rw [hl] at h
  have hd : Int.tdiv p 12 = p / 12 := Int.tdiv_eq_ediv_of_nonneg (by omega)
  refine Ev.eq (fun k => spec_SpellSharp_eq k p) (Ev.bind (l1In_ev _ _ _) (Ev.neg (by simpa using hp) (Ev.neg (by omega) ?_)))
  rw [hd, wrapI (n := p / 12) (by omega) (by omega), wrapI (n := p / 12 - 1) (by omega) (by omega)]
  exact Ev.loop (f := fun k m => spec_SpellSharp.l0 k m p 0 0 0 0 0 0 (p / 12 - 1)) h
def letB (s : Int) : ByteArray := ByteArray.extract (ByteArray.mk #[99, 100, 101, 102, 103, 97, 98]) (Int.toNat s) (Int.toNat (s + 1))
def hashB : ByteArray := ByteArray.mk #[35]
def noteB (p : Int) : ByteArray := if 12 ≤ p ∧ p ≤ 119 then (if alterOf (p % 12) = 1 then letB (stepOf (p % 12)) ++ hashB else letB (stepOf (p % 12))) ++ itoaB (p / 12 - 1) else ByteArray.mk #[]
theorem letB_size (s : Int) (h : 0 ≤ s ∧ s ≤ 6) : (letB s).size ≤ 1 := by
  rcases seven h.1 h.2 with rfl | rfl | rfl | rfl | rfl | rfl | rfl <;> decide
theorem app_nil (a : ByteArray) : a ++ ByteArray.mk #[] = a := by
  apply bytes_ext
  rw [bytes_app]
  simp
theorem rep_ev (s : ByteArray) (c : Int) (h : c = 0 ∨ c = 1) (hs : s.size ≤ 1) : Ev (fun k => strings_Repeat k s c) (if c = 1 then s else ByteArray.mk #[]) := by
  have hp : primRepeat .str [.val .str s, .val (.int .i64) c] = some (repB s c.toNat) := by
    unfold primRepeat
    refine if_pos ⟨show 0 ≤ c by omega, show c ≤ 9223372036854775807 by omega, ?_⟩
    show s.size * c.toNat ≤ _
    have : c.toNat ≤ 1 := by omega
    have := Nat.mul_le_mul hs this
    omega
  refine Ev.eq (fun k => strings_Repeat_eq k s c) ?_
  rw [hp]
  refine Ev.ret.val ?_
  rcases h with rfl | rfl
  · rfl
  · rw [if_pos rfl]
    apply bytes_ext
    unfold repB
    simp [Lib.repeatL]
theorem specText_ev (p : Int) (hp : 12 ≤ p ∧ p ≤ 119) : Ev (fun k => spec_NoteText k (noteOf p)) (noteB p) := by
  obtain ⟨hs, ha⟩ := place_facts (p % 12) (by omega) (by omega)
  have hq : 0 ≤ p / 12 - 1 ∧ p / 12 - 1 ≤ 8 := by omega
  have hn := specNote_ev (noteOf p) hs (by show -2 ≤ alterOf (p % 12) ∧ alterOf (p % 12) ≤ 2; omega) hq
  rw [note_pitch] at hn
  have hw : IntKind.wrap .i64 ((noteOf p).1 + 1) = stepOf (p % 12) + 1 := wrapI (by show -9223372036854775808 ≤ stepOf (p % 12) + 1; omega) (by show stepOf (p % 12) + 1 ≤ _; omega)
  refine Ev.eq (fun k => spec_NoteText_eq k (noteOf p)) (Ev.bind hn (Ev.neg (by simp; omega) ?_))
  rw [hw]
  refine Ev.pos (by omega) (Ev.pos (by show stepOf (p % 12) + 1 ≤ 7; omega) (Ev.pos hs.1 (Ev.pos (by show stepOf (p % 12) ≤ _; omega) ?_)))
  have hl := letB_size _ hs
  have hi := itoaB_size (p / 12 - 1) (by unfold R64; omega)
  refine Ev.loop (f := fun k m => spec_NoteText.l0 k m (letB (stepOf (p % 12))) 0 (stepOf (p % 12)) (alterOf (p % 12)) (p / 12 - 1)) ?_
  have habs : Ev (fun k => spec_l4Abs k (alterOf (p % 12))) (alterOf (p % 12)) := Ev.eq (fun k => spec_l4Abs_eq k _) (Ev.neg (by omega) Ev.ret)
  have hfm := specFmt_ev (p / 12 - 1) (by unfold R64; omega)
  unfold noteB
  rw [if_pos hp]
  rcases ha with h | h
  · rw [if_neg (by omega)]
    exact E2.eq (fun k m => spec_NoteText.l0_eq k m _ 0 _ _ _) (E2.bind habs (E2.neg (by omega) (E2.bind hfm (E2.pos (by omega) E2.ret))))
  · rw [if_pos h]
    refine E2.eq (fun k m => spec_NoteText.l0_eq k m _ 0 _ _ _) (E2.bind habs (E2.pos (by omega) (E2.pos (by omega) (E2.pos (by show _ + 1 ≤ 211106232532992; omega) ?_))))
    rw [wrapI (n := 0 + 1) (by omega) (by omega)]
    exact E2.eq (fun k m => spec_NoteText.l0_eq k m _ (0 + 1) _ _ _) (E2.bind habs (E2.neg (by omega) (E2.bind hfm (E2.pos (by rw [size_app]; show _ + 1 + _ ≤ 211106232532992; omega) E2.ret))))
theorem implText_ev (p : Int) (hp : 12 ≤ p ∧ p ≤ 119) : Ev (fun k => impl_NoteText k (noteOf p)) (noteB p) := by
  obtain ⟨hs, ha⟩ := place_facts (p % 12) (by omega) (by omega)
  have hq : 0 ≤ p / 12 - 1 ∧ p / 12 - 1 ≤ 8 := by omega
  have hn := implNote_ev (noteOf p) hs (by show -2 ≤ alterOf (p % 12) ∧ alterOf (p % 12) ≤ 2; omega) hq
  rw [note_pitch] at hn
  have hw : IntKind.wrap .i64 ((noteOf p).1 + 1) = stepOf (p % 12) + 1 := wrapI (by show -9223372036854775808 ≤ stepOf (p % 12) + 1; omega) (by show stepOf (p % 12) + 1 ≤ _; omega)
  have hw2 : IntKind.wrap .i64 (-(noteOf p).2.1) = -alterOf (p % 12) := wrapI (by show -9223372036854775808 ≤ -alterOf (p % 12); omega) (by show -alterOf (p % 12) ≤ _; omega)
  refine Ev.eq (fun k => impl_NoteText_eq k (noteOf p)) (Ev.bind hn (Ev.neg (by simp; omega) ?_))
  rw [hw, hw2]
  have hl := letB_size _ hs
  have hi := itoaB_size (p / 12 - 1) (by unfold R64; omega)
  have hm1 : (max (noteOf p).2.1 0 : Int) = alterOf (p % 12) := by show max (alterOf (p % 12)) 0 = _; omega
  have hm2 : (max (-alterOf (p % 12)) 0 : Int) = 0 := by omega
  rw [hm1, hm2]
  have r1 := rep_ev hashB (alterOf (p % 12)) ha (by decide)
  have r2 := rep_ev (ByteArray.mk #[98]) 0 (.inl rfl) (by decide)
  rw [if_neg (by omega)] at r2
  have hfm := implFmt_ev (p / 12 - 1) (by unfold R64; omega)
  have h0 : (ByteArray.mk #[]).size = 0 := rfl
  have h1 : hashB.size = 1 := rfl
  refine Ev.pos (by omega) (Ev.pos (by show stepOf (p % 12) + 1 ≤ 7; omega) (Ev.pos hs.1 (Ev.pos (by show stepOf (p % 12) ≤ _; omega) (Ev.bind r1 ?_))))
  unfold noteB
  rw [if_pos hp]
  rcases ha with h | h
  · rw [if_neg (show ¬ alterOf (p % 12) = 1 by omega), if_neg (show ¬ alterOf (p % 12) = 1 by omega)]
    refine Ev.pos (by show (letB (stepOf (p % 12))).size + 0 ≤ _; omega) (Ev.bind r2 (Ev.pos ?_ (Ev.bind hfm (Ev.pos ?_ (Ev.ret.val ?_)))))
    · rw [size_app]; show (letB (stepOf (p % 12))).size + 0 + 0 ≤ _; omega
    · rw [size_app, size_app]; show (letB (stepOf (p % 12))).size + 0 + 0 + (itoaB (p / 12 - 1)).size ≤ _; omega
    · rw [app_nil, app_nil]; rfl
  · rw [if_pos h, if_pos h]
    refine Ev.pos (by show (letB (stepOf (p % 12))).size + 1 ≤ _; omega) (Ev.bind r2 (Ev.pos ?_ (Ev.bind hfm (Ev.pos ?_ (Ev.ret.val ?_)))))
    · rw [size_app]; show (letB (stepOf (p % 12))).size + 1 + 0 ≤ _; omega
    · rw [size_app, size_app]; show (letB (stepOf (p % 12))).size + 1 + 0 + (itoaB (p / 12 - 1)).size ≤ _; omega
    · rw [app_nil]; rfl
theorem noteB_size (p : Int) : (noteB p).size ≤ 30 := by
  unfold noteB
  by_cases hp : 12 ≤ p ∧ p ≤ 119
  · rw [if_pos hp]
    obtain ⟨hs, ha⟩ := place_facts (p % 12) (by omega) (by omega)
    have hl := letB_size _ hs
    have hi := itoaB_size (p / 12 - 1) (by unfold R64; omega)
    have h1 : hashB.size = 1 := rfl
    rw [size_app]
    split
    · rw [size_app]; omega
    · omega
  · rw [if_neg hp]; decide
theorem specL39_ev (p : Int) : Ev (fun k => spec_l39Note k p) (noteB p) := by
  by_cases hp : 12 ≤ p ∧ p ≤ 119
  · exact Ev.eq (fun k => spec_l39Note_eq k p) (Ev.bind (specSpell_ev p hp) (Ev.neg (by simp) (Ev.bind (specText_ev p hp) Ev.ret)))
  · exact Ev.eq (fun k => spec_l39Note_eq k p) (Ev.bind (a := noN) (Ev.eq (fun k => spec_SpellSharp_eq k p) (Ev.bind (l1In_ev _ _ _) (Ev.pos (by simpa using hp) Ev.ret))) (Ev.pos (by simp [noN]) (Ev.ret.val (by unfold noteB; rw [if_neg hp]))))
theorem implL39_ev (p : Int) : Ev (fun k => impl_spelled k p) (noteB p) := by
  by_cases hp : 12 ≤ p ∧ p ≤ 119
  · exact Ev.eq (fun k => impl_spelled_eq k p) (Ev.bind (implSpell_ev p hp) (Ev.neg (by simp) (Ev.bind (implText_ev p hp) Ev.ret)))
  · exact Ev.eq (fun k => impl_spelled_eq k p) (Ev.bind (a := noN) (Ev.eq (fun k => impl_SpellSharp_eq k p) (Ev.bind (inRange_ev _ _ _) (Ev.pos (by simpa using hp) Ev.ret))) (Ev.pos (by simp [noN]) (Ev.ret.val (by unfold noteB; rw [if_neg hp]))))
def R64E (e : DT34) : Prop := R64 e.1 ∧ R64 e.2.1 ∧ R64 e.2.2.2.1
theorem r64E_of {e : DT34} (h : Wd T34 e) : R64E e := ⟨r64_of h.1, r64_of h.2.1, r64_of h.2.2.2.1⟩
def eventB (e : DT34) : ByteArray := (((((noteB e.2.2.1 ++ ByteArray.mk #[64]) ++ itoaB e.1) ++ ByteArray.mk #[43]) ++ itoaB e.2.1) ++ ByteArray.mk #[118]) ++ itoaB e.2.2.2.1
theorem specEvent_ev (e : DT34) (h : R64E e) : Ev (fun k => spec_FormatEvent k e) (eventB e) := by
  have h0 := noteB_size e.2.2.1
  have h1 := itoaB_size _ h.1
  have h2 := itoaB_size _ h.2.1
  have h3 := itoaB_size _ h.2.2
  refine Ev.eq (fun k => spec_FormatEvent_eq k e) (Ev.bind (specL39_ev _) (Ev.pos ?_ (Ev.bind (specFmt_ev _ h.1) (Ev.pos ?_ (Ev.pos ?_ (Ev.bind (specFmt_ev _ h.2.1) (Ev.pos ?_ (Ev.pos ?_ (Ev.bind (specFmt_ev _ h.2.2) (Ev.pos ?_ Ev.ret))))))))))
  · show (noteB e.2.2.1).size + 1 ≤ _; omega
  · simp only [size_app]; show (noteB e.2.2.1).size + 1 + _ ≤ _; omega
  · simp only [size_app]; show (noteB e.2.2.1).size + 1 + _ + 1 ≤ _; omega
  · simp only [size_app]; show (noteB e.2.2.1).size + 1 + _ + 1 + _ ≤ _; omega
  · simp only [size_app]; show (noteB e.2.2.1).size + 1 + _ + 1 + _ + 1 ≤ _; omega
  · simp only [size_app]; show (noteB e.2.2.1).size + 1 + _ + 1 + _ + 1 + _ ≤ _; omega
theorem implEvent_ev (e : DT34) (h : R64E e) : Ev (fun k => impl_FormatEvent k e) (eventB e) := by
  have h0 := noteB_size e.2.2.1
  have h1 := itoaB_size _ h.1
  have h2 := itoaB_size _ h.2.1
  have h3 := itoaB_size _ h.2.2
  refine Ev.eq (fun k => impl_FormatEvent_eq k e) (Ev.bind (implL39_ev _) (Ev.pos ?_ (Ev.bind (implFmt_ev _ h.1) (Ev.pos ?_ (Ev.pos ?_ (Ev.bind (implFmt_ev _ h.2.1) (Ev.pos ?_ (Ev.pos ?_ (Ev.bind (implFmt_ev _ h.2.2) (Ev.pos ?_ Ev.ret))))))))))
  · show (noteB e.2.2.1).size + 1 ≤ _; omega
  · simp only [size_app]; show (noteB e.2.2.1).size + 1 + _ ≤ _; omega
  · simp only [size_app]; show (noteB e.2.2.1).size + 1 + _ + 1 ≤ _; omega
  · simp only [size_app]; show (noteB e.2.2.1).size + 1 + _ + 1 + _ ≤ _; omega
  · simp only [size_app]; show (noteB e.2.2.1).size + 1 + _ + 1 + _ + 1 ≤ _; omega
  · simp only [size_app]; show (noteB e.2.2.1).size + 1 + _ + 1 + _ + 1 + _ ≤ _; omega
theorem pure (a0 : DT34) (w0 : Wd T34 a0) : ∃ k, laws_FnExactFormatEvent k a0 = some true := by
  refine Ev.at (f := fun k => laws_FnExactFormatEvent k a0) ?_
  have b0 : Bk T34 a0 := ⟨trivial, trivial, trivial, trivial, trivial⟩
  have hr : R64E a0 := r64E_of w0
  exact Ev.eq (fun k => laws_FnExactFormatEvent_eq k a0) (Ev.bind (laws_toEvent_id _ b0) (Ev.bind (specEvent_ev a0 hr) (Ev.bind (laws_toEvent_id _ b0) (Ev.bind (implEvent_ev a0 hr) (Ev.neg (by simp) Ev.ret)))))
end Go.QFnExactFormatEvent
