/- impl.BestOrder as a function that is told: what it answers, and what its walk owes. No condition. -/
import Derived.Test.YtejaegogaaiblaaPrim
import Derived.Test.YtejaegogaaiblaaSeatF
import Derived.Test.YtejaegogaaiblaaInsG
import Derived.WalkKit
import Derived.ProofKit
import Derived.Below
import Derived.OwnWalk
import Derived.Deep.AppendSrc
set_option linter.unusedVariables false
set_option linter.unusedSimpArgs false
namespace Go.Flat
open Go.RowKit

def bestGo (next : List Int × Int → List Int → List Int × Int) (len : Nat) (t : List Int) : Nat → List Int × Int → List Int × Int
  | 0, s => s
  | d + 1, s => if decide (((len - (d + 1) : Nat) : Int) ∈ t) then bestGo next len t d s else bestGo next len t d (next s (t ++ [((len - (d + 1) : Nat) : Int)]))
theorem bestGo_step {next : List Int × Int → List Int → List Int × Int} {len k : Nat} {t : List Int} {s : List Int × Int} (h : k < len) : bestGo next len t (len - k) s =
    if decide ((k : Int) ∈ t) then bestGo next len t (len - (k + 1)) s else bestGo next len t (len - (k + 1)) (next s (t ++ [(k : Int)])) := by
  obtain ⟨d, hd⟩ : ∃ d, len - k = d + 1 := ⟨len - k - 1, by omega⟩
  have h1 : len - (d + 1) = k := by omega
  have h2 : len - (k + 1) = d := by omega
  rw [hd, h2]
  simp only [bestGo, h1]
def bestN (cost : List Int → Int) (len : Nat) : Nat → List Int × Int → List Int → List Int × Int
  | 0, s, t => if s.2 < 0 ∨ cost t < s.2 then (t, cost t) else s
  | d + 1, s, t => bestGo (fun s t => bestN cost len d s t) len t len s

@[reducible] def workT : Ty := .pair (.int .i64) (.pair (.list (.int .i64)) .unit)
def bestOk (l : List workT.den) : Prop := l.length ≤ 1048576 ∧ ∀ p ∈ l, p.2.1.length ≤ 1048576
instance (l : List workT.den) : Decidable (bestOk l) := by unfold bestOk; infer_instance
section
variable (aw : List workT.den → Bool) (cost : List workT.den → List Int → Int)
def bestR (l : List workT.den) : List Int := if aw l = true then (bestN (cost l) l.length l.length ([], -1) []).1 else []
def primBest : (t : Ty) → List Arg → Option t.den
  | .list (.int .i64), [.val (.dlist a) l] => if h : a = workT then (if bestOk (h ▸ l) then some (bestR aw cost (h ▸ l)) else none) else none
  | _, _ => none
theorem primBest_eq {l : List workT.den} (h : bestOk l) : primBest aw cost (.list (.int .i64)) [.val (.dlist workT) l] = some (bestR aw cost l) := by
  simp [primBest, h]
theorem primBest_spec {t : Ty} {args : List Arg} {r : t.den} (h : primBest aw cost t args = some r) :
    ∃ l : List workT.den, args = [.val (.dlist workT) l] ∧ bestOk l ∧ ∃ e : Ty.list (.int .i64) = t, (e ▸ (bestR aw cost l : (Ty.list (.int .i64)).den)) = r := by
  unfold primBest at h
  split at h
  · rename_i a l
    split at h
    · rename_i hh
      subst hh
      split at h
      · rename_i hc
        exact ⟨l, rfl, hc, rfl, by simpa using h⟩
      · cases h
    · cases h
  · cases h
/-- A row of numbers of one's own, its block 'b' told. -/
def NumRow (w : World) (v : Value) (xs : List Int) (N : Nat) (S : Nat → Prop) : Prop := ∃ π, OwnRd true (fun _ => False) w.heap (.list (.int .i64)) xs [v] [π] ∧ ∀ p, π = some p → N ≤ p.b ∧ p.b < w.heap.size ∧ ¬ S p.b
def BestWalk (P : Program) (f : FuncId) : Prop := ∀ (l : List workT.den) (w : World) (A G : Nat → Prop) (lv : Value), bestOk l → (∀ b, A b → b < w.heap.size) → (∀ b, G b → A b) →
  Rd G w.heap (.dlist workT) A l [lv] → Calls P f #[lv] w fun e w' => ∃ v, Below w.heap.size w w' ∧ e = .returned v ∧ NumRow w' v (bestR aw cost l) w.heap.size (fun _ => False)
end
theorem NumRow.shape {w : World} {v : Value} {xs : List Int} {N : Nat} {S : Nat → Prop} (h : NumRow w v xs N S) : ∃ a c, v = .slice a xs.length c := by
  obtain ⟨π, h1, _⟩ := h
  simp only [OwnRd, if_true] at h1
  obtain ⟨v', π', h2, h3, h4, _⟩ := h1
  cases h2
  cases π' with
  | none => obtain ⟨h5, rfl⟩ := h4; exact ⟨none, 0, by rw [h5]⟩
  | some p => obtain ⟨a, c, rfl, _⟩ := h4; exact ⟨some a, c, rfl⟩
theorem NumRow.keep {w w' : World} {v : Value} {xs : List Int} {N : Nat} {S S' : Nat → Prop} (h : NumRow w v xs N S) (hs : w.heap.size ≤ w'.heap.size) (hb : ∀ b, b < w.heap.size → ¬ S b → w'.heap[b]? = w.heap[b]?) (hS : ∀ b, b < w.heap.size → S' b → S b) : NumRow w' v xs N S' := by
  obtain ⟨π, h1, h2⟩ := h
  refine ⟨π, OwnRd.move (fun _ h => h) (fun _ h => h.elim) (fun b hbm => ?_) h1, fun p hp => ?_⟩
  · cases π with
    | none => simp [blks] at hbm
    | some p =>
      obtain ⟨h3, h4, h5⟩ := h2 p rfl
      have hfl : p.inn = [] := by
        simp only [OwnRd, if_true] at h1
        obtain ⟨_, _, _, h6, _, _, h7⟩ := h1
        cases h6
        exact h7 p rfl
      have hbm : b = p.b := by simpa [blks, Pl.bs, Pl.ibs, hfl] using hbm
      rw [hbm]
      exact hb p.b h4 h5
  · obtain ⟨h3, h4, h5⟩ := h2 p hp
    exact ⟨h3, Nat.lt_of_lt_of_le h4 hs, fun h => h5 (hS _ h4 h)⟩
/-- A call that the evaluator answers by a number. -/
theorem call_int {C : Cfg} {callF : FuncId → (t : Ty) → List Arg → Option t.den} (htab : C.tabs = []) (ok : CallOk C callF) {g : FuncId} {fn : Func} (hg : C.P.funcs[g]? = some fn) (hmk : (C.sig g).isMk = false) (hr : fn.resultTypes.size = 1)
    {args : List Arg} {n : Int} (hrun : callF g (.int .i64) args = some n) (hio : ∀ a ∈ args, a.isIo = false) (w : World) (vals : List Value) (hargs : ArgsRel (fun b => b < w.heap.size) (fun b => b < w.heap.size) w.heap args vals) :
    Calls C.P g vals.toArray w fun e w' => e = .returned (.int .i64 n) ∧ Below w.heap.size w w' := by
  obtain ⟨hb, H⟩ := ok g fn _ _ _ hg hrun hmk
  refine (H w (fun b => b < w.heap.size) (fun b => b < w.heap.size) vals (fun b h => h) (fun b h => h) (fun x hx => by rw [htab] at hx; simp at hx) (fun i j a b h1 h2 h3 h4 => by rw [hio a (List.mem_of_getElem? h1)] at h3; cases h3) hargs).mono fun e w' hh => ?_
  obtain ⟨v, G', ps, he, hsize, hstr, hsame, _, _, ⟨cs, ho, hv⟩, _, _⟩ := hh
  rw [hr] at hv
  have hv : ValIs false cs v := hv
  have ho : ps = [] ∧ cs = [.int .i64 n] := ho
  obtain ⟨_, rfl⟩ := ho
  have hv : [Value.int .i64 n] = [v] := hv
  obtain rfl : Value.int .i64 n = v := by simpa using hv
  exact ⟨he, hstr.1, hstr.2.1, hstr.2.2.1, hsize, hsame⟩
/-- A call that the evaluator answers by a row of numbers of its own. -/
theorem call_nums {C : Cfg} {callF : FuncId → (t : Ty) → List Arg → Option t.den} (htab : C.tabs = []) (ok : CallOk C callF) {g : FuncId} {fn : Func} (hg : C.P.funcs[g]? = some fn) (hmk : (C.sig g).isMk = false) (hown : (C.sig g).own = true) (hr : fn.resultTypes.size = 1)
    {args : List Arg} {xs : List Int} (hrun : callF g (.list (.int .i64)) args = some xs) (hio : ∀ a ∈ args, a.isIo = false) (w : World) (vals : List Value) (hargs : ArgsRel (fun b => b < w.heap.size) (fun b => b < w.heap.size) w.heap args vals) :
    Calls C.P g vals.toArray w fun e w' => ∃ v, e = .returned v ∧ Below w.heap.size w w' ∧ NumRow w' v xs w.heap.size (fun b => b < w.heap.size) := by
  obtain ⟨hb, H⟩ := ok g fn _ _ _ hg hrun hmk
  refine (H w (fun b => b < w.heap.size) (fun b => b < w.heap.size) vals (fun b h => h) (fun b h => h) (fun x hx => by rw [htab] at hx; simp at hx) (fun i j a b h1 h2 h3 h4 => by rw [hio a (List.mem_of_getElem? h1)] at h3; cases h3) hargs).mono fun e w' hh => ?_
  obtain ⟨v, G', ps, he, hsize, hstr, hsame, _, _, ⟨cs, ho, hv⟩, hbl, _⟩ := hh
  rw [hr] at hv
  rw [hown] at ho
  have hv : ValIs false cs v := hv
  have hv : cs = [v] := hv
  subst hv
  have ho' := ho
  simp only [OwnRd, if_true] at ho
  obtain ⟨v', π, h1, rfl, h3, h4, h5⟩ := ho
  cases h1
  refine ⟨v, he, ⟨hstr.1, hstr.2.1, hstr.2.2.1, hsize, hsame⟩, π, ?_, fun p hp => ?_⟩
  · simp only [OwnRd, if_true]
    refine ⟨v, π, rfl, rfl, h3, ?_, h5⟩
    cases π with
    | none => exact h4
    | some p =>
      obtain ⟨c, e0, fz, k1, k2, k3, k4, k5⟩ := h4
      exact ⟨c, e0, fz, k1, k2, k3, k4, fun i x hi => by obtain ⟨es, k6, k7⟩ := k5 i x hi; exact ⟨es, k6, k7⟩⟩
  · subst hp
    obtain ⟨k1, _, k3⟩ := hbl p.b (by simp [blks, Pl.bs])
    exact ⟨Nat.le_of_not_lt k1, k3, k1⟩

section
variable {C : Cfg} {f : FuncId} {fn : Func} {aw : List workT.den → Bool} {cost : List workT.den → List Int → Int}
theorem best_ok (hm : C.mono = false) (hf : C.P.funcs[f]? = some fn) (hb : fn.body.isSome = true) (hr : fn.resultTypes.size = 1) (hown : (C.sig f).own = true) (hw : BestWalk aw cost C.P f) :
    Calls3 C fun g t args => if g = f then primBest aw cost t args else none := by
  refine prim_ok hf hb (fun t args r T x h => by obtain ⟨l, rfl, _⟩ := primBest_spec aw cost h; simp) fun t args r hp w A G vals hA hGA htab hargs => ?_
  obtain ⟨l, rfl, hok, he, hre⟩ := primBest_spec aw cost hp
  subst he
  obtain ⟨u1, rfl, h1⟩ := args_one hargs
  obtain ⟨es, h1, hv1⟩ := h1
  have hv1 : es = [u1] := hv1
  subst hv1
  refine (hw l w A G u1 hok hA hGA h1).mono fun e w' hh => ?_
  obtain ⟨v, hbel, he, π, h2, h3⟩ := hh
  refine ⟨v, G, [π], he, hbel.size, ⟨hbel.os, hbel.tape, hbel.output, fun h => by rw [hm] at h; cases h⟩, fun k hk => hbel.block k (hA k hk), fun _ h => h, fun _ h => .inl h, ?_, ?_, ?_⟩
  · rw [hown, hr]
    refine ⟨[v], ?_, (rfl : [v] = [v])⟩
    rw [← hre]
    exact OwnRd.move (fun _ h => h.elim) (fun _ h => h.elim) (fun _ _ => rfl) h2
  · intro b hb
    cases π with
    | none => simp [blks] at hb
    | some p =>
      obtain ⟨k1, k2, _⟩ := h3 p rfl
      have hfl : p.inn = [] := by
        simp only [OwnRd, if_true] at h2
        obtain ⟨_, _, _, h6, _, _, h7⟩ := h2
        cases h6
        exact h7 p rfl
      have hbm : b = p.b := by simpa [blks, Pl.bs, Pl.ibs, hfl] using hb
      rw [hbm]
      exact ⟨fun h => by have := hA _ h; omega, fun h => by have := hA _ (hGA _ h); omega, k2⟩
  · cases π with
    | none => simp [blks]
    | some p =>
      have hfl : p.inn = [] := by
        simp only [OwnRd, if_true] at h2
        obtain ⟨_, _, _, h6, _, _, h7⟩ := h2
        cases h6
        exact h7 p rfl
      simp [blks, Pl.bs, Pl.ibs, hfl]
end
end Go.Flat
