/- Functions of Go's library whose answers are told by their contracts. No condition. -/
import Derived.Test.YtejaegogaaiblaaDraw4
import Derived.Lib.Join
import Derived.Lib.ItoaNum
import Derived.Lib.Repeat
import Derived.Lib.LaidTab
import Derived.Sort.Grow
import Derived.Deep.Draws
import Derived.Below
set_option linter.unusedVariables false
set_option linter.unusedSimpArgs false
namespace Go.Flat
open Go.RowKit

def joinB (l : List ByteArray) (sep : ByteArray) : ByteArray := ⟨(Lib.join (l.map (·.data.toList)) sep.data.toList).toArray⟩
def itoaB (n : Int) : ByteArray := ⟨(Lib.itoa n).toArray⟩
def repB (s : ByteArray) (c : Nat) : ByteArray := ⟨(Lib.repeatL s.data.toList c).toArray⟩

def primJoin : (t : Ty) → List Arg → Option t.den
  | .str, [.val (.list .str) l, .val .str sep] => if l.length ≤ 140737488355328 ∧ (Lib.join (l.map (·.data.toList)) sep.data.toList).length ≤ 140737488355328 then some (joinB l sep) else none
  | _, _ => none
def primItoa : (t : Ty) → List Arg → Option t.den
  | .str, [.val (.int .i64) n] => if -9223372036854775808 ≤ n ∧ n ≤ 9223372036854775807 then some (itoaB n) else none
  | _, _ => none
def primRepeat : (t : Ty) → List Arg → Option t.den
  | .str, [.val .str s, .val (.int .i64) c] => if 0 ≤ c ∧ c ≤ 9223372036854775807 ∧ s.size * c.toNat ≤ 140737488355328 then some (repB s c.toNat) else none
  | _, _ => none
def halvesT : List Int := [0, 2, 4, 5, 7, 9, 11]
def primHalves : (t : Ty) → List Arg → Option t.den
  | .int .i64, [.val (.int .i64) n] => if 0 ≤ n ∧ n < 7 then some (halvesT.getD n.toNat 0) else none
  | _, _ => none

section
variable {C : Cfg} {f : FuncId} {fn : Func}

/-- A call that hands back one value without rows, and writes nothing that was there. -/
theorem flat_post (hm : C.mono = false) (hr : fn.resultTypes.size = 1) {t : Ty} {x : t.den} {u : Value} (hu : ∀ (own : Bool) (G : Nat → Prop) (h : Array Obj), OwnRd own G h t x [u] []) (ha : t.isAgg = false) {w : World} {A G : Nat → Prop} (hA : ∀ b, A b → b < w.heap.size) (hGA : ∀ b, G b → A b) {vals : Array Value}
    (h : Calls C.P f vals w fun e w' => e = .returned u ∧ Below w.heap.size w w') :
    Calls C.P f vals w fun e w' => ∃ v G' ps, e = .returned v ∧ w.heap.size ≤ w'.heap.size ∧ Str C.mono w w' ∧ (∀ b, A b → w'.heap[b]? = w.heap[b]?) ∧ (∀ b, G b → G' b) ∧ (∀ b, G' b → G b ∨ (¬ A b ∧ b < w'.heap.size)) ∧
        ResIs (C.sig f).own (Nat.beq fn.resultTypes.size 1) t G' w'.heap x v ps ∧ (∀ b ∈ blks ps, ¬ A b ∧ ¬ G' b ∧ b < w'.heap.size) ∧ (blks ps).Nodup := by
  refine h.mono fun e w' hh => ?_
  obtain ⟨he, b⟩ := hh
  refine ⟨u, G, [], he, b.size, ⟨b.os, b.tape, b.output, fun h => by rw [hm] at h; cases h⟩, fun k hk => b.block k (hA k hk), fun _ h => h, fun _ h => .inl h, ⟨[u], hu _ _ _, ?_⟩, fun b hb => (by simp [blks] at hb), by simp [blks]⟩
  rw [hr]
  show (if Nat.beq 1 1 = true then ValIs t.isAgg [u] u else _)
  rw [if_pos (show Nat.beq 1 1 = true from rfl), ha]
  exact (rfl : [u] = [u])

theorem str_own (x : ByteArray) (own : Bool) (G : Nat → Prop) (h : Array Obj) : OwnRd own G h .str x [.string x] [] := ⟨rfl, rfl⟩
theorem int_own (k : IntKind) (x : Int) (own : Bool) (G : Nat → Prop) (h : Array Obj) : OwnRd own G h (.int k) x [.int k x] [] := ⟨rfl, rfl⟩

theorem arg_str {A G : Nat → Prop} {h : Array Obj} {s : ByteArray} {v : Value} (ha : ArgRel A G h (.val .str s) v) : v = .string s := by
  obtain ⟨es, hes, hv⟩ := ha
  have hes : es = [.string s] := hes
  subst hes
  have hv : [Value.string s] = [v] := hv
  simpa using hv.symm
theorem arg_int {A G : Nat → Prop} {h : Array Obj} {k : IntKind} {n : Int} {v : Value} (ha : ArgRel A G h (.val (.int k) n) v) : v = .int k n := by
  obtain ⟨es, hes, hv⟩ := ha
  have hes : es = [.int k n] := hes
  subst hes
  have hv : [Value.int k n] = [v] := hv
  simpa using hv.symm
theorem args_one {A G : Nat → Prop} {h : Array Obj} {a : Arg} {vals : List Value} (hh : ArgsRel A G h [a] vals) : ∃ v, vals = [v] ∧ ArgRel A G h a v := by
  obtain ⟨hl, ha⟩ := hh
  obtain ⟨v, rfl⟩ := List.length_eq_one_iff.1 hl
  exact ⟨v, rfl, ha 0 a v rfl rfl⟩
theorem args_two {A G : Nat → Prop} {h : Array Obj} {a b : Arg} {vals : List Value} (hh : ArgsRel A G h [a, b] vals) : ∃ u v, vals = [u, v] ∧ ArgRel A G h a u ∧ ArgRel A G h b v := by
  obtain ⟨hl, ha⟩ := hh
  match vals, hl with
  | [u, v], _ => exact ⟨u, v, rfl, ha 0 a u rfl rfl, ha 1 b v rfl rfl⟩

theorem prim_ok {p : (t : Ty) → List Arg → Option t.den} (hf : C.P.funcs[f]? = some fn) (hb : fn.body.isSome = true) (hno : ∀ (t : Ty) (args : List Arg) (r : t.den) (T : Ty) (x : T.den), p t args = some r → Arg.lend T x ∉ args ∧ Arg.ioBox T x ∉ args)
    (h : ∀ (t : Ty) (args : List Arg) (r : t.den), p t args = some r → ∀ (w : World) (A G : Nat → Prop) (vals : List Value), (∀ b, A b → b < w.heap.size) → (∀ b, G b → A b) → Tab C w A → ArgsRel A G w.heap args vals →
      Calls C.P f vals.toArray w fun e w' => ∃ v G' ps, e = .returned v ∧ w.heap.size ≤ w'.heap.size ∧ Str C.mono w w' ∧ (∀ b, A b → w'.heap[b]? = w.heap[b]?) ∧ (∀ b, G b → G' b) ∧ (∀ b, G' b → G b ∨ (¬ A b ∧ b < w'.heap.size)) ∧
        ResIs (C.sig f).own (Nat.beq fn.resultTypes.size 1) t G' w'.heap r v ps ∧ (∀ b ∈ blks ps, ¬ A b ∧ ¬ G' b ∧ b < w'.heap.size) ∧ (blks ps).Nodup) :
    Calls3 C fun g t args => if g = f then p t args else none := by
  refine ⟨?_, fun g fn' rt T x i args r hg hrun hai => (by
    by_cases hgf : g = f
    · exact absurd (List.mem_of_getElem? hai) (hno _ args r T x (by simpa [hgf] using hrun)).1
    · simp [hgf] at hrun), fun g fn' rt T x i args r hg hrun hai => (by
    by_cases hgf : g = f
    · exact absurd (List.mem_of_getElem? hai) (hno _ args r T x (by simpa [hgf] using hrun)).2
    · simp [hgf] at hrun)⟩
  intro g fn' t args r hg hrun
  by_cases hgf : g = f
  · subst hgf
    rw [hf] at hg
    cases hg
    exact fun _ => ⟨hb, fun w A G vals hA hGA htab _ hargs => h t args r (by simpa using hrun) w A G vals hA hGA htab hargs⟩
  · simp [hgf] at hrun

theorem join_ok (hm : C.mono = false) (hf : C.P.funcs[f]? = some fn) (hb : fn.body.isSome = true) (hr : fn.resultTypes.size = 1)
    (h0 : ∀ (a : Option Addr) (c : Nat) (sep : ByteArray) (w : World), Calls C.P f #[.slice a 0 c, .string sep] w fun e w' => e = .returned (.string ⟨#[]⟩) ∧ w' = w)
    (h1 : ∀ (bk o c : Nat) (xs : List ByteArray) (sep : ByteArray) (w : World), (∀ (j : Nat) x, xs[j]? = some x → w.cell? ⟨bk, o + j, none⟩ = some (.string x)) → bk < w.heap.size → xs.length ≤ 140737488355328 → xs.length ≤ c →
      (Lib.join (xs.map (·.data.toList)) sep.data.toList).length ≤ 140737488355328 → Calls C.P f #[.slice (some ⟨bk, o, none⟩) xs.length c, .string sep] w fun e w' => e = .returned (.string ⟨(Lib.join (xs.map (·.data.toList)) sep.data.toList).toArray⟩) ∧ Below w.heap.size w w') :
    Calls3 C fun g t args => if g = f then primJoin t args else none := by
  refine prim_ok hf hb (fun t args r T x h => by unfold primJoin at h; split at h <;> first | (cases h; done) | simp) fun t args r hp w A G vals hA hGA htab hargs => ?_
  unfold primJoin at hp
  split at hp
  · rename_i l sep
    split at hp
    · rename_i hlen
      cases hp
      obtain ⟨u, v, rfl, hu, hv⟩ := args_two hargs
      obtain rfl := arg_str hv
      obtain ⟨es, hes, hvi⟩ := hu
      obtain ⟨a, cap, rfl, hcap, hx⟩ := hes
      have hvi : [Value.slice a l.length cap] = [u] := hvi
      obtain rfl : u = .slice a l.length cap := by simpa using hvi.symm
      refine flat_post hm hr (x := joinB l sep) (str_own _) rfl hA hGA ?_
      by_cases hl : l = []
      · subst hl
        refine (h0 a cap sep w).mono fun e w' hh => ?_
        obtain ⟨he, rfl⟩ := hh
        exact ⟨he, Below.refl _ _⟩
      · obtain ⟨b, o, rfl, hb', hc⟩ := hx hl
        refine h1 b o cap l sep w (fun j x hj => ?_) (hA b hb') hlen.1 hcap hlen.2
        obtain ⟨es, hes, hj'⟩ := hc j x hj
        have hes : es = [.string x] := hes
        subst hes
        have := hj' 0 _ rfl
        rw [cell_eq]
        simpa [Ty.sz] using this
    · cases hp
  · cases hp

theorem itoa_ok (hm : C.mono = false) (hf : C.P.funcs[f]? = some fn) (hb : fn.body.isSome = true) (hr : fn.resultTypes.size = 1) (htb : ("internal/strconv.uint64pow10", Lib.pow10Tab) ∈ C.tabs)
    (h1 : ∀ (n : Int), -9223372036854775808 ≤ n → n ≤ 9223372036854775807 → ∀ (w : World), Lib.TabIs C.P w "internal/strconv.uint64pow10" .u64 Lib.pow10Tab → Calls C.P f #[.int .i64 n] w fun e w' => e = .returned (.string ⟨(Lib.itoa n).toArray⟩) ∧ ∃ k os, w' = Go.Sort.grow (w.drewN k) os) :
    Calls3 C fun g t args => if g = f then primItoa t args else none := by
  refine prim_ok hf hb (fun t args r T x h => by unfold primItoa at h; split at h <;> first | (cases h; done) | simp) fun t args r hp w A G vals hA hGA htab hargs => ?_
  unfold primItoa at hp
  split at hp
  · rename_i n
    split at hp
    · rename_i hn
      cases hp
      obtain ⟨v, rfl, hv⟩ := args_one hargs
      obtain rfl := arg_int hv
      refine flat_post hm hr (x := itoaB n) (str_own _) rfl hA hGA ?_
      refine (h1 n hn.1 hn.2 w (htab _ htb).1).mono fun e w' hh => ?_
      obtain ⟨he, k, os, rfl⟩ := hh
      refine ⟨he, rfl, rfl, rfl, ?_, fun k hk => ?_⟩
      · show w.heap.size ≤ (w.heap ++ os).size
        rw [Array.size_append]; exact Nat.le_add_right _ _
      · show (w.heap ++ os)[k]? = w.heap[k]?
        rw [Array.getElem?_append_left hk]
    · cases hp
  · cases hp

theorem repeat_ok (hm : C.mono = false) (hf : C.P.funcs[f]? = some fn) (hb : fn.body.isSome = true) (hr : fn.resultTypes.size = 1)
    (h1 : ∀ (s : ByteArray) (c : Nat) (w : World), c ≤ 9223372036854775807 → s.size * c ≤ 140737488355328 → Calls C.P f #[.string s, .int .i64 c] w fun e w' => e = .returned (.string ⟨(Lib.repeatL s.data.toList c).toArray⟩) ∧ Below w.heap.size w w') :
    Calls3 C fun g t args => if g = f then primRepeat t args else none := by
  refine prim_ok hf hb (fun t args r T x h => by unfold primRepeat at h; split at h <;> first | (cases h; done) | simp) fun t args r hp w A G vals hA hGA htab hargs => ?_
  unfold primRepeat at hp
  split at hp
  · rename_i s c
    split at hp
    · rename_i hn
      cases hp
      obtain ⟨u, v, rfl, hu, hv⟩ := args_two hargs
      obtain rfl := arg_str hu
      obtain rfl := arg_int hv
      refine flat_post hm hr (x := repB s c.toNat) (str_own _) rfl hA hGA ?_
      have := h1 s c.toNat w (Int.toNat_le.2 hn.2.1) hn.2.2
      rw [Int.toNat_of_nonneg hn.1] at this
      exact this
    · cases hp
  · cases hp

theorem halves_ok (hm : C.mono = false) (hf : C.P.funcs[f]? = some fn) (hb : fn.body.isSome = true) (hr : fn.resultTypes.size = 1)
    (h1 : ∀ (n : Int), 0 ≤ n → n < 7 → ∀ (w : World), Calls C.P f #[.int .i64 n] w fun e w' => e = .returned (.int .i64 (halvesT.getD n.toNat 0)) ∧ Below w.heap.size w w') :
    Calls3 C fun g t args => if g = f then primHalves t args else none := by
  refine prim_ok hf hb (fun t args r T x h => by unfold primHalves at h; split at h <;> first | (cases h; done) | simp) fun t args r hp w A G vals hA hGA htab hargs => ?_
  unfold primHalves at hp
  split at hp
  · rename_i n
    split at hp
    · rename_i hn
      cases hp
      obtain ⟨v, rfl, hv⟩ := args_one hargs
      obtain rfl := arg_int hv
      exact flat_post hm hr (int_own _ _) rfl hA hGA (h1 n hn.1 hn.2 w)
    · cases hp
  · cases hp
end

end Go.Flat
