/- The plain statement of the law FnExactStepsAndLeaps: over numbers and lists, its printed function answers true. No condition. -/
import Derived.Test.YtidegbeadeoaeaaSFnExactStepsAndLeaps
namespace Go.Proofs.Ytidegbeadeoaeaa.Pure
open Go.RowKit Go.Proofs.Ytidegbeadeoaeaa Go.Proofs.Ytidegbeadeoaeaa.PFnExactStepsAndLeaps Go.Proofs.YtidegbeadeoaeaaW.PrintWords Go.Proofs.YtidegbeadeoaeaaW.PrintLast Go.Proofs.YtidegbeadeoaeaaW.PrintMore
theorem evHere {α : Type} {g : Nat → Option α} {r : α} (h : ∀ k, g (k + 1) = some r) : Ev g r :=
  ⟨1, fun k hk => by obtain ⟨m, rfl⟩ : ∃ m, k = m + 1 := ⟨k - 1, by omega⟩; exact h m⟩
theorem evOf {α : Type} {g : Nat → Option α} {r : α} (h : ∀ k, g k = some r) : Ev g r := ⟨0, fun k _ => h k⟩
theorem evIte {α : Type} {c : Prop} [Decidable c] {g f : Nat → Option α} {r : α} (h : c → Ev g r) (h' : ¬ c → Ev f r) : Ev (fun k => if c then g k else f k) r := by
  by_cases hc : c
  · simp only [if_pos hc]; exact h hc
  · simp only [if_neg hc]; exact h' hc
theorem evPos {α : Type} {c : Prop} [Decidable c] {g f : Nat → Option α} {r : α} (hc : c) (h : Ev g r) : Ev (fun k => if c then g k else f k) r := by
  simp only [if_pos hc]; exact h
theorem evNeg {α : Type} {c : Prop} [Decidable c] {g f : Nat → Option α} {r : α} (hc : ¬ c) (h : Ev f r) : Ev (fun k => if c then g k else f k) r := by
  simp only [if_neg hc]; exact h
theorem evEq {α : Type} {g : Nat → Option α} {r s : α} (h : Ev g r) (e : r = s) : Ev g s := e ▸ h
theorem wrapS {i n : Nat} (h : i < n) (hn : n ≤ 4611686018427387904) : wrap64 ((i : Int) + 1) = ((i + 1 : Nat) : Int) := by unfold wrap64; omega
theorem wrapI {x : Int} (h : -9223372036854775808 ≤ x) (h' : x ≤ 9223372036854775807) : wrap64 x = x := by unfold wrap64; omega
theorem rdN (l : List Int) (i : Nat) : rd l (i : Int) = l.getD i 0 := rfl
theorem rdGet {l : List Int} {i : Nat} (h : i < l.length) : rd l (i : Int) = l[i] := by
  rw [rdN, List.getD_eq_getElem?_getD, List.getElem?_eq_getElem h]; rfl
theorem dropC {α : Type} {l : List α} {i : Nat} (h : i < l.length) : l.drop i = l[i] :: l.drop (i + 1) := List.drop_eq_getElem_cons h

def cv88 (x : S88) : S86 := ⟨x.f0, x.f1, x.f2, x.f3⟩
theorem to88_ev (x : S88) : Ev (fun _ => laws_toEvent.f x.f0 x.f1 x.f2 x.f3) ((cv88 x).f0, (cv88 x).f1, (cv88 x).f2, (cv88 x).f3) := by
  unfold laws_toEvent.f
  exact evOf fun _ => rfl
theorem eq86_ev (x : S86) : Ev (fun _ => laws_eqEvent.f x.f0 x.f1 x.f2 x.f3 x.f0 x.f1 x.f2 x.f3) true := by
  unfold laws_eqEvent.f
  exact evPos rfl (evPos rfl (evPos rfl (evPos rfl (evOf fun _ => rfl))))
theorem sz24_ok (x : List S88) (w : (Fit.Wsl W88) x) (n : Int) (hn : 0 ≤ n) (hm : n ≤ 1048576) : ∃ r, Ev (fun _ => laws_szEventS.f x n) r ∧ (r < 0 ∨ 0 ≤ r ∧ r ≤ n ∧ x.length ≤ 1048576) := by
  have hl : x.length ≤ 9223372036854775807 := w.1
  unfold laws_szEventS.f
  rw [wrapI (by omega) (by omega)]
  by_cases c : n - (x.length : Int) < 0
  · exact ⟨-1, evOf fun _ => by rw [if_pos c], .inl (by omega)⟩
  · exact ⟨n - x.length, evOf fun _ => by rw [if_neg c], .inr ⟨by omega, by omega, by omega⟩⟩
theorem rd88 {l : List S88} {i : Nat} (h : i < l.length) : rd_T88 l (i : Int) = l[i] := by
  show l.getD i _ = _
  rw [List.getD_eq_getElem?_getD, List.getElem?_eq_getElem h]; rfl
theorem to24_l (x : List S88) (hx : x.length ≤ 1048576) : ∀ (d i : Nat) (y : List S86), y.length = x.length → i + d = x.length → y.take i = (x.take i).map cv88 → Ev (fun k => laws_toEventS.l0 k x y (i : Int)) (x.map cv88) := by
  have hl := hx
  intro d
  induction d with
  | zero =>
    intro i y hy hi ht
    refine evHere fun k => ?_
    rw [laws_toEventS.l0, if_neg (by omega)]
    rw [List.take_of_length_le (by omega), List.take_of_length_le (by omega)] at ht
    rw [ht]
  | succ d ih =>
    intro i y hy hi ht
    have hi' : i < x.length := by omega
    refine Ev.step (f := fun k => (laws_toEvent.f (x[i]).f0 (x[i]).f1 (x[i]).f2 (x[i]).f3).bind fun t => laws_toEventS.l0 k x (y.set i (⟨t.1, t.2.1, t.2.2.1, t.2.2.2⟩ : S86)) ((i + 1 : Nat) : Int)) (fun k => ?_) (Ev.bind (to88_ev x[i]) (ih (i + 1) (y.set i (cv88 x[i])) (by simp [hy]) (by omega) ?_))
    · rw [laws_toEventS.l0, if_pos (by omega), if_pos (by omega), rd88 hi']
      simp only [if_pos (show (i : Int) < (y.length : Int) by omega), wrapS hi' (show x.length ≤ 4611686018427387904 by omega), Int.toNat_natCast]
    · rw [List.take_succ_eq_append_getElem (by simp; omega), List.take_succ_eq_append_getElem hi', List.map_append, List.take_set_of_le (Nat.le_refl _), ht]
      simp only [List.getElem_set_self, List.map_cons, List.map_nil]
theorem to24_ev (x : List S88) (hx : x.length ≤ 1048576) : Ev (fun k => laws_toEventS.f k x) (x.map cv88) := by
  have hl := hx
  unfold laws_toEventS.f
  refine evPos (by omega) (evPos (by omega) ?_)
  exact to24_l x hx x.length 0 _ (by simp) (by omega) (by simp)
theorem rd86 {l : List S86} {i : Nat} (h : i < l.length) : rd_T86 l (i : Int) = l[i] := by
  show l.getD i _ = _
  rw [List.getD_eq_getElem?_getD, List.getElem?_eq_getElem h]; rfl
theorem eq27_l (x : List S86) (hx : x.length ≤ 1048576) : ∀ (d i : Nat), i + d = x.length → Ev (fun k => laws_eqEventS.l0 k x x (i : Int)) true := by
  have hl := hx
  intro d
  induction d with
  | zero =>
    intro i hi
    refine evHere fun k => ?_
    rw [laws_eqEventS.l0, if_neg (by omega)]
  | succ d ih =>
    intro i hi
    have hi' : i < x.length := by omega
    refine Ev.step (f := fun k => (laws_eqEvent.f (x[i]).f0 (x[i]).f1 (x[i]).f2 (x[i]).f3 (x[i]).f0 (x[i]).f1 (x[i]).f2 (x[i]).f3).bind fun t => if t = true then laws_eqEventS.l0 k x x ((i + 1 : Nat) : Int) else none) (fun k => ?_) (Ev.bind (eq86_ev x[i]) (evPos rfl (ih (i + 1) (by omega))))
    rw [laws_eqEventS.l0, if_pos (by omega), if_pos (by omega), if_pos (by omega), rd86 hi', wrapS hi' (by omega)]
theorem eq27_ev (x : List S86) (hx : x.length ≤ 1048576) : Ev (fun k => laws_eqEventS.f k x x) true := by
  have hl := hx
  unfold laws_eqEventS.f
  exact evPos rfl (eq27_l x hx x.length 0 (by omega))

def ofVoice (v : Int) (e : S86) : Bool := decide (e.f3 = v)
theorem specVoice_l (x : List S86) (v : Int) (hx : x.length ≤ 1048576) : ∀ (d i : Nat) (y : List S86), i + d = x.length → y.length ≤ i → Ev (fun k => spec_VoiceOf.l0 k x v y (i : Int)) (y ++ (x.drop i).filter (ofVoice v)) := by
  intro d
  induction d with
  | zero =>
    intro i y hi hy
    refine evHere fun k => ?_
    rw [spec_VoiceOf.l0, if_neg (by omega), List.drop_eq_nil_of_le (by omega)]
    simp
  | succ d ih =>
    intro i y hi hy
    have hi' : i < x.length := by omega
    rw [dropC hi', List.filter_cons]
    by_cases c : (x[i]).f3 = v
    · rw [if_pos (show ofVoice v x[i] = true from decide_eq_true c)]
      refine Ev.step (f := fun k => spec_VoiceOf.l0 k x v (y ++ [x[i]]) ((i + 1 : Nat) : Int)) (fun k => ?_) (evEq (ih (i + 1) (y ++ [x[i]]) (by omega) (by simp; omega)) (by simp))
      rw [spec_VoiceOf.l0, if_pos (by omega), if_pos (by omega), rd86 hi', if_pos c, if_pos (by omega), wrapS hi' (by omega)]
    · rw [if_neg (show ¬ ofVoice v x[i] = true from fun h => c (of_decide_eq_true h))]
      refine Ev.step (f := fun k => spec_VoiceOf.l0 k x v y ((i + 1 : Nat) : Int)) (fun k => ?_) (ih (i + 1) y (by omega) (by omega))
      rw [spec_VoiceOf.l0, if_pos (by omega), if_pos (by omega), rd86 hi', if_neg c, wrapS hi' (by omega)]
theorem specVoice_ev (x : List S86) (v : Int) (hx : x.length ≤ 1048576) : Ev (fun k => spec_VoiceOf.f k x v) (x.filter (ofVoice v)) := by
  unfold spec_VoiceOf.f
  exact evEq (specVoice_l x v hx x.length 0 [] (by omega) (by simp)) (by simp)
theorem voice1 (e : S86) (v : Int) : impl_VoiceOf_1.f e.f0 e.f1 e.f2 e.f3 [v] = some (!ofVoice v e) := by
  unfold impl_VoiceOf_1.f ofVoice
  rw [if_pos (by simp)]
  show some (e.f3 != v) = some (!decide (e.f3 = v))
  rfl
theorem voiceIndex_l (x : List S86) (v : Int) (hx : x.length ≤ 1048576) : ∀ (d i : Nat), i + d = x.length → (∀ e ∈ x.take i, ofVoice v e = true) → ∃ r, Ev (fun k => slices_IndexFunc_impl_Event_impl_Event_w_impl_VoiceOf_1.l0 k x (x.length : Int) (i : Int) [v]) r ∧ (r = -1 ∧ (∀ e ∈ x, ofVoice v e = true) ∨ ∃ (j : Nat) (h : j < x.length), r = (j : Int) ∧ (∀ e ∈ x.take j, ofVoice v e = true) ∧ ofVoice v x[j] = false) := by
  intro d
  induction d with
  | zero =>
    intro i hi ha
    rw [List.take_of_length_le (by omega)] at ha
    refine ⟨-1, evHere fun k => ?_, .inl ⟨rfl, ha⟩⟩
    rw [slices_IndexFunc_impl_Event_impl_Event_w_impl_VoiceOf_1.l0, if_neg (by omega)]
  | succ d ih =>
    intro i hi ha
    have hi' : i < x.length := by omega
    by_cases c : ofVoice v x[i] = true
    · obtain ⟨r, er, hr⟩ := ih (i + 1) (by omega) (fun e he => by
        rw [List.take_succ_eq_append_getElem hi'] at he
        rcases List.mem_append.1 he with he | he
        · exact ha e he
        · rw [List.mem_singleton.1 he]; exact c)
      refine ⟨r, Ev.step (f := fun k => slices_IndexFunc_impl_Event_impl_Event_w_impl_VoiceOf_1.l0 k x (x.length : Int) ((i + 1 : Nat) : Int) [v]) (fun k => ?_) er, hr⟩
      rw [slices_IndexFunc_impl_Event_impl_Event_w_impl_VoiceOf_1.l0, if_pos (by omega), if_pos (by omega), if_pos (by omega), rd86 hi', voice1, c, wrapS hi' (by omega)]
      rfl
    · have c' : ofVoice v x[i] = false := Bool.eq_false_iff.2 c
      refine ⟨(i : Int), evHere fun k => ?_, .inr ⟨i, hi', rfl, ha, c'⟩⟩
      rw [slices_IndexFunc_impl_Event_impl_Event_w_impl_VoiceOf_1.l0, if_pos (by omega), if_pos (by omega), if_pos (by omega), rd86 hi', voice1, c']
      rfl
theorem voiceDelete_l (x : List S86) (v : Int) (hx : x.length ≤ 1048576) : ∀ (d j i : Nat) (y : List S86), j + d = x.length → y.length = x.length → i ≤ j → y.take i = (x.take j).filter (ofVoice v) → y.drop j = x.drop j → Ev (fun k => slices_DeleteFunc_impl_Event_impl_Event_w_impl_VoiceOf_1.l0 k y (i : Int) (j : Int) [v]) (x.filter (ofVoice v)) := by
  intro d
  induction d with
  | zero =>
    intro j i y hj hy hij ht hd
    refine evHere fun k => ?_
    rw [slices_DeleteFunc_impl_Event_impl_Event_w_impl_VoiceOf_1.l0, if_neg (by omega), if_pos (by omega), if_pos (by omega), Int.toNat_natCast, List.take_left' (by rw [List.length_take]; omega), ht, List.take_of_length_le (by omega)]
  | succ d ih =>
    intro j i y hj hy hij ht hd
    have hj' : j < x.length := by omega
    have hjy : j < y.length := by omega
    have he : y[j] = x[j] := by
      have := hd
      rw [dropC hjy, dropC hj'] at this
      exact (List.cons.inj this).1
    have hd' : y.drop (j + 1) = x.drop (j + 1) := by
      have := hd
      rw [dropC hjy, dropC hj'] at this
      exact (List.cons.inj this).2
    by_cases c : ofVoice v x[j] = true
    · refine Ev.step (f := fun k => slices_DeleteFunc_impl_Event_impl_Event_w_impl_VoiceOf_1.l0 k (y.set i x[j]) ((i + 1 : Nat) : Int) ((j + 1 : Nat) : Int) [v]) (fun k => ?_) (ih (j + 1) (i + 1) (y.set i x[j]) (by omega) (by simp [hy]) (by omega) ?_ ?_)
      · rw [slices_DeleteFunc_impl_Event_impl_Event_w_impl_VoiceOf_1.l0, if_pos (by omega), if_pos (by omega), rd86 hjy, he, voice1, c, wrapS hjy (by omega), wrapS (show i < y.length by omega) (by omega), Int.toNat_natCast]
        simp only [Bool.not_true, Option.bind_some]
        rw [if_neg (by simp), if_pos (by omega), if_pos (by omega)]
      · rw [List.take_succ_eq_append_getElem (by simp; omega), List.take_succ_eq_append_getElem hj', List.filter_append, List.take_set_of_le (Nat.le_refl _), ht]
        simp [c]
      · rw [List.drop_set_of_lt (by omega)]
        exact hd'
    · have c' : ofVoice v x[j] = false := Bool.eq_false_iff.2 c
      refine Ev.step (f := fun k => slices_DeleteFunc_impl_Event_impl_Event_w_impl_VoiceOf_1.l0 k y (i : Int) ((j + 1 : Nat) : Int) [v]) (fun k => ?_) (ih (j + 1) i y (by omega) hy (by omega) ?_ hd')
      · rw [slices_DeleteFunc_impl_Event_impl_Event_w_impl_VoiceOf_1.l0, if_pos (by omega), if_pos (by omega), rd86 hjy, he, voice1, c', wrapS hjy (by omega)]
        rfl
      · rw [List.take_succ_eq_append_getElem hj', List.filter_append, ht]
        simp [c']
theorem implVoice_ev (x : List S86) (v : Int) (hx : x.length ≤ 1048576) : Ev (fun k => impl_VoiceOf.f k x v) (x.filter (ofVoice v)) := by
  unfold impl_VoiceOf.f impl_clone_impl_Event.f
  refine Ev.bind (evOf (r := x) fun _ => ?_) ?_
  · simp only [Option.bind_some, List.nil_append]
    rw [if_pos (by simp; omega)]
  refine Ev.bind ?_ (evOf fun _ => rfl)
  unfold slices_DeleteFunc_impl_Event_impl_Event_w_impl_VoiceOf_1.f slices_IndexFunc_impl_Event_impl_Event_w_impl_VoiceOf_1.f
  obtain ⟨r, er, hr⟩ := voiceIndex_l x v hx x.length 0 (by omega) (by simp)
  refine Ev.bind er ?_
  rcases hr with ⟨rfl, ha⟩ | ⟨j, hj, rfl, ha, hb⟩
  · refine evPos rfl (evOf fun _ => ?_)
    rw [List.filter_eq_self.2 ha]
  · refine evNeg (by omega) ?_
    rw [wrapS hj (by omega)]
    refine voiceDelete_l x v hx (x.length - (j + 1)) (j + 1) j x (by omega) rfl (by omega) ?_ rfl
    rw [List.take_succ_eq_append_getElem hj, List.filter_append, List.filter_eq_self.2 ha]
    simp [hb]

def clp (p : Int) : Int := mx (mn p 1000) (-1000)
theorem clp_in (p : Int) : -1000 ≤ clp p ∧ clp p ≤ 1000 := by unfold clp mx mn; omega
def gap (a b : Int) : Int := mx (clp a - clp b) (clp b - clp a)
def stepsOf (x : List S86) : Nat → Nat → Int → Int → Int × Int
  | 0, _, s, l => (s, l)
  | d + 1, i, s, l => if gap ((x.getD (i - 1) z86).f2) ((x.getD i z86).f2) > 2 then stepsOf x d (i + 1) s (wrap64 (l + 1)) else if gap ((x.getD (i - 1) z86).f2) ((x.getD i z86).f2) > 0 then stepsOf x d (i + 1) (wrap64 (s + 1)) l else stepsOf x d (i + 1) s l
theorem sMin (p : Int) : spec_Min.f 1000 p = some (mn p 1000) := by
  unfold spec_Min.f mn
  split <;> split <;> first | rfl | (congr 1; omega)
theorem sMax (p : Int) : spec_Max.f (-1000) p = some (mx p (-1000)) := by
  unfold spec_Max.f mx
  split <;> split <;> first | rfl | (congr 1; omega)
theorem sAbs (a b : Int) : spec_l4Abs.f (wrap64 (clp b - clp a)) = some (gap a b) := by
  have h1 := clp_in a
  have h2 := clp_in b
  rw [wrapI (by omega) (by omega)]
  unfold spec_l4Abs.f gap mx
  by_cases c : clp b - clp a < 0
  · rw [if_pos c, if_neg (by omega), wrapI (by omega) (by omega)]
    congr 1
    omega
  · rw [if_neg c]
    split
    · rfl
    · congr 1
      omega
theorem rdBefore {l : List S86} {i : Nat} (h1 : 1 ≤ i) (h : i < l.length) (hl : l.length ≤ 1048576) : wrap64 ((i : Int) - 1) = ((i - 1 : Nat) : Int) := by
  rw [wrapI (by omega) (by omega)]
  omega
theorem specSteps_l (x : List S86) (hx : x.length ≤ 1048576) : ∀ (d i : Nat) (s l : Int), 1 ≤ i → i + d = x.length → Ev (fun k => spec_StepsAndLeaps.l0 k s l x (i : Int)) (stepsOf x d i s l) := by
  intro d
  induction d with
  | zero =>
    intro i s l h1 hi
    refine evHere fun k => ?_
    rw [spec_StepsAndLeaps.l0, if_neg (by omega)]
    rfl
  | succ d ih =>
    intro i s l h1 hi
    have hi' : i < x.length := by omega
    have e : ∀ k, spec_StepsAndLeaps.l0 (k + 1) s l x (i : Int) = if gap ((x.getD (i - 1) z86).f2) ((x.getD i z86).f2) > 2 then spec_StepsAndLeaps.l0 k s (wrap64 (l + 1)) x ((i + 1 : Nat) : Int) else if gap ((x.getD (i - 1) z86).f2) ((x.getD i z86).f2) > 0 then spec_StepsAndLeaps.l0 k (wrap64 (s + 1)) l x ((i + 1 : Nat) : Int) else spec_StepsAndLeaps.l0 k s l x ((i + 1 : Nat) : Int) := by
      intro k
      rw [spec_StepsAndLeaps.l0, if_pos (by omega), if_pos (by omega), rdBefore h1 hi' hx, wrapS hi' (by omega), sMin, Option.bind_some, sMax, Option.bind_some, if_pos (by omega), if_pos (by omega), sMin, Option.bind_some, sMax, Option.bind_some]
      show ((spec_l4Abs.f (wrap64 (clp (x.getD i z86).f2 - clp (x.getD (i - 1) z86).f2))).bind _) = _
      rw [sAbs, Option.bind_some]
    unfold stepsOf
    by_cases c : gap ((x.getD (i - 1) z86).f2) ((x.getD i z86).f2) > 2
    · rw [if_pos c]
      exact Ev.step (f := fun k => spec_StepsAndLeaps.l0 k s (wrap64 (l + 1)) x ((i + 1 : Nat) : Int)) (fun k => by rw [e, if_pos c]) (ih (i + 1) _ _ (by omega) (by omega))
    · rw [if_neg c]
      by_cases c2 : gap ((x.getD (i - 1) z86).f2) ((x.getD i z86).f2) > 0
      · rw [if_pos c2]
        exact Ev.step (f := fun k => spec_StepsAndLeaps.l0 k (wrap64 (s + 1)) l x ((i + 1 : Nat) : Int)) (fun k => by rw [e, if_neg c, if_pos c2]) (ih (i + 1) _ _ (by omega) (by omega))
      · rw [if_neg c2]
        exact Ev.step (f := fun k => spec_StepsAndLeaps.l0 k s l x ((i + 1 : Nat) : Int)) (fun k => by rw [e, if_neg c, if_neg c2]) (ih (i + 1) _ _ (by omega) (by omega))
theorem implSteps_l (x : List S86) (hx : x.length ≤ 1048576) : ∀ (d i : Nat) (s l : Int), 1 ≤ i → i + d = x.length → Ev (fun k => impl_StepsAndLeaps.l0 k s l x (i : Int)) (stepsOf x d i s l) := by
  intro d
  induction d with
  | zero =>
    intro i s l h1 hi
    refine evHere fun k => ?_
    rw [impl_StepsAndLeaps.l0, if_neg (by omega)]
    rfl
  | succ d ih =>
    intro i s l h1 hi
    have hi' : i < x.length := by omega
    have e : ∀ k, impl_StepsAndLeaps.l0 (k + 1) s l x (i : Int) = if gap ((x.getD (i - 1) z86).f2) ((x.getD i z86).f2) > 2 then impl_StepsAndLeaps.l0 k s (wrap64 (l + 1)) x ((i + 1 : Nat) : Int) else if gap ((x.getD (i - 1) z86).f2) ((x.getD i z86).f2) > 0 then impl_StepsAndLeaps.l0 k (wrap64 (s + 1)) l x ((i + 1 : Nat) : Int) else impl_StepsAndLeaps.l0 k s l x ((i + 1 : Nat) : Int) := by
      intro k
      rw [impl_StepsAndLeaps.l0, if_pos (by omega), rdBefore h1 hi' hx, if_pos (by omega), if_pos (by omega), if_pos (by omega), wrapS hi' (by omega)]
      rfl
    unfold stepsOf
    by_cases c : gap ((x.getD (i - 1) z86).f2) ((x.getD i z86).f2) > 2
    · rw [if_pos c]
      exact Ev.step (f := fun k => impl_StepsAndLeaps.l0 k s (wrap64 (l + 1)) x ((i + 1 : Nat) : Int)) (fun k => by rw [e, if_pos c]) (ih (i + 1) _ _ (by omega) (by omega))
    · rw [if_neg c]
      by_cases c2 : gap ((x.getD (i - 1) z86).f2) ((x.getD i z86).f2) > 0
      · rw [if_pos c2]
        exact Ev.step (f := fun k => impl_StepsAndLeaps.l0 k (wrap64 (s + 1)) l x ((i + 1 : Nat) : Int)) (fun k => by rw [e, if_neg c, if_pos c2]) (ih (i + 1) _ _ (by omega) (by omega))
      · rw [if_neg c2]
        exact Ev.step (f := fun k => impl_StepsAndLeaps.l0 k s l x ((i + 1 : Nat) : Int)) (fun k => by rw [e, if_neg c, if_neg c2]) (ih (i + 1) _ _ (by omega) (by omega))
theorem steps_ev (x : List S86) (v : Int) (hx : x.length ≤ 1048576) : ∃ r, Ev (fun k => spec_StepsAndLeaps.f k x v) r ∧ Ev (fun k => impl_StepsAndLeaps.f k x v) r := by
  unfold spec_StepsAndLeaps.f impl_StepsAndLeaps.f
  have hf : (x.filter (ofVoice v)).length ≤ 1048576 := Nat.le_trans (List.length_filter_le _ _) hx
  by_cases h : (x.filter (ofVoice v)).length = 0
  · refine ⟨(0, 0), Ev.bind (specVoice_ev x v hx) (evHere fun k => ?_), Ev.bind (implVoice_ev x v hx) (evHere fun k => ?_)⟩
    · rw [spec_StepsAndLeaps.l0, if_neg (by omega)]
    · rw [impl_StepsAndLeaps.l0, if_neg (by omega)]
  · exact ⟨_, Ev.bind (specVoice_ev x v hx) (specSteps_l _ hf ((x.filter (ofVoice v)).length - 1) 1 0 0 (by omega) (by omega)), Ev.bind (implVoice_ev x v hx) (implSteps_l _ hf ((x.filter (ofVoice v)).length - 1) 1 0 0 (by omega) (by omega))⟩
theorem FnExactStepsAndLeaps : laws_FnExactStepsAndLeaps.Pure := by
  intro l v w wv
  apply Ev.rounds
  unfold laws_FnExactStepsAndLeaps.f
  obtain ⟨r, er, hr⟩ := sz24_ok l w 1048576 (by omega) (by omega)
  refine Ev.bind er (evIte (fun _ => evOf fun _ => rfl) fun c => ?_)
  have hl := (hr.resolve_left c).2.2
  have hs : (l.map cv88).length ≤ 1048576 := by rw [List.length_map]; exact hl
  obtain ⟨q, e1, e2⟩ := steps_ev (l.map cv88) v hs
  refine Ev.bind (to24_ev l hl) (Ev.bind e1 (Ev.bind (to24_ev l hl) (Ev.bind e2 (evPos rfl ?_))))
  rw [show (q.2 != q.2) = false by simp]
  refine Ev.step (f := fun k => (laws_toEventS.f k l).bind fun t => (laws_eqEventS.f k (l.map cv88) t).bind fun u => if u = true then some true else none) (fun k => by rw [laws_FnExactStepsAndLeaps.j0, if_neg (by simp)]) ?_
  exact Ev.bind (to24_ev l hl) (Ev.bind (eq27_ev _ hs) (evPos rfl (evOf fun _ => rfl)))

end Go.Proofs.Ytidegbeadeoaeaa.Pure
