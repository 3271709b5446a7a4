/- Operations that make memory. No condition. -/
import Derived.Test.YtmocpfgfjeaelaaGreatInv2
import Derived.Great.FillDense
import Derived.Great.BuildSlice
set_option linter.unusedVariables false
set_option linter.unusedSimpArgs false
namespace Go.Flat

theorem zero_rel {M : Mem} : ∀ T : Ty, CellsRel M (zeroCells T) (zeroVals T)
  | .bool => CellsRel.mk_cons rfl rfl CellsRel.nil
  | .int _ => CellsRel.mk_cons rfl rfl CellsRel.nil
  | .str => CellsRel.mk_cons rfl rfl CellsRel.nil
  | .list _ => CellsRel.mk_cons rfl rfl CellsRel.nil
  | .dlist _ => CellsRel.mk_cons rfl rfl CellsRel.nil
  | .unit => CellsRel.nil
  | .pair a b => (zero_rel a).append (zero_rel b)

theorem rd_zero {G : Nat → Prop} {h : Array Obj} : ∀ {t : Ty} {F : Nat → Prop}, Rd G h t F t.dflt (zeroVals t)
  | .bool, _ => rfl
  | .int _, _ => rfl
  | .str, _ => rfl
  | .list _, _ => ⟨none, 0, rfl, Nat.le_refl _, fun h => absurd rfl h⟩
  | .dlist _, _ => ⟨none, 0, rfl, Nat.le_refl _, fun h => absurd rfl h⟩
  | .unit, _ => rfl
  | .pair a b, _ => ⟨_, _, rfl, rd_zero, rd_zero⟩

theorem zeroVals_len : ∀ T : Ty, (zeroVals T).length = T.sz
  | .bool => rfl
  | .int _ => rfl
  | .str => rfl
  | .list _ => rfl
  | .dlist _ => rfl
  | .unit => rfl
  | .pair a b => by simp [zeroVals, Ty.sz, zeroVals_len a, zeroVals_len b]

theorem alloc_some {R : Type} {callF : FuncId → (t : Ty) → List Arg → Option t.den} {s : St} {key : Nat} {E : Entry} {κ : St → Option R} {r : R} (h : (s.alloc key E).run callF κ = some r) :
    s.sto key = none ∧ κ { s with sto := upd s.sto key (some E) } = some r := by
  unfold St.alloc at h
  split at h
  · rename_i hn; exact ⟨hn, h⟩
  · simp at h

/-- The world behind a new block. -/
def push (w : World) (c : Array Value) (e : TypeId) : World := { w with heap := w.heap.push (.cells c e) }

theorem push_at (w : World) (c : Array Value) (e : TypeId) : (push w c e).heap[w.heap.size]? = some (.cells c e (0, 0)) := by
  show (w.heap.push _)[w.heap.size]? = _
  rw [Array.getElem?_push, if_pos rfl]
theorem push_old (w : World) (c : Array Value) (e : TypeId) (b : Nat) (h : b < w.heap.size) : (push w c e).heap[b]? = w.heap[b]? := by
  show (w.heap.push _)[b]? = _
  rw [Array.getElem?_push, if_neg (Nat.ne_of_lt h)]

/-- A new block for a new entry, which takes rows over. -/
theorem Inv.newD {F0 : Fr0} {G : Nat → Prop} {s : St} {a : Act} {w w' : World} {pl : Nat → Option Pl} (i : Inv F0 G s a w pl) {key : Nat} {E : Entry} {c : Array Value} {e : TypeId} (ii : List (List (Option Pl))) (hk : s.sto key = none)
    (hw : w'.heap = (push w c e).heap) (hii : ∀ id e p, s.sto id = some e → pl id = some p → ∀ b ∈ e.bs p, b ∉ (⟨w.heap.size, 0, c.size, ii⟩ : Pl).ibs)
    (hE : Inv F0 G s a w' pl → EntryRel (mem F0 G w'.heap s.sto pl) E (some ⟨w.heap.size, 0, c.size, ii⟩)) (hstr : Str F0.mono w w' := by exact ⟨rfl, rfl, rfl, fun _ => Nat.le_refl _⟩) (hpin : ∀ t l n, E ≠ .arr t l (.pinned n) := by intro _ _ _ h; cases h) (hpinD : ∀ t l n, E ≠ .deep t l (some n) := by intro _ _ _ h; cases h) :
    Inv F0 G { s with sto := upd s.sto key (some E) } a w' (upd pl key (some ⟨w.heap.size, 0, c.size, ii⟩)) ∧ Fr F0 G w G w' := by
  obtain ⟨i', fr⟩ := i.grow (w' := w') (G' := G) (by rw [hw]; show _ ≤ (w.heap.push _).size; rw [Array.size_push]; exact Nat.le_succ _) hstr (fun b hb => by rw [hw]; exact push_old w c e b hb) (fun _ h => h) (fun _ h => .inl h)
  refine ⟨i'.add hk (hE i') (fun id e p q he hp hq => ?_) hpin hpinD, fr⟩
  cases hq
  intro b hb hbq
  have h1 : b ≠ w.heap.size := Nat.ne_of_lt (i.sto.lt_bs he hp b hb)
  have h2 : b = w.heap.size ∨ b ∈ (⟨w.heap.size, 0, c.size, ii⟩ : Pl).ibs := by
    cases E with
    | box _ _ => simp only [Entry.bs, List.mem_singleton] at hbq; exact .inl hbq
    | arr _ _ _ => simp only [Entry.bs, List.mem_singleton] at hbq; exact .inl hbq
    | deep _ _ _ => simpa only [Entry.bs, Pl.bs, List.mem_cons] using hbq
  exact h2.elim h1 (hii id e p he hp b hb)

/-- A new block for a new entry. -/
theorem Inv.new {F0 : Fr0} {G : Nat → Prop} {s : St} {a : Act} {w w' : World} {pl : Nat → Option Pl} (i : Inv F0 G s a w pl) {key : Nat} {E : Entry} {c : Array Value} {e : TypeId} (hk : s.sto key = none)
    (hw : w'.heap = (push w c e).heap) (hE : Inv F0 G s a w' pl → EntryRel (mem F0 G w'.heap s.sto pl) E (some ⟨w.heap.size, 0, c.size, []⟩)) (hstr : Str F0.mono w w' := by exact ⟨rfl, rfl, rfl, fun _ => Nat.le_refl _⟩) (hpin : ∀ t l n, E ≠ .arr t l (.pinned n) := by intro _ _ _ h; cases h) (hpinD : ∀ t l n, E ≠ .deep t l (some n) := by intro _ _ _ h; cases h) :
    Inv F0 G { s with sto := upd s.sto key (some E) } a w' (upd pl key (some ⟨w.heap.size, 0, c.size, []⟩)) ∧ Fr F0 G w G w' :=
  i.newD [] hk hw (fun _ _ _ _ _ _ _ h => by simp [Pl.ibs] at h) hE hstr hpin hpinD

theorem Inv.notF {F0 : Fr0} {G : Nat → Prop} {s : St} {a : Act} {w : World} {pl : Nat → Option Pl} (i : Inv F0 G s a w pl) : ¬ (F0 w.heap.size ∨ G w.heap.size) :=
  fun h => Nat.lt_irrefl _ (i.sto.lt _ h)

/-- A slice onto a whole new row. -/
theorem sliceAt_new {sz b n m : Nat} {ii : List (List (Option Pl))} (hn : n ≤ m) : SliceAt sz (some ⟨b, 0, m * sz, ii⟩) 0 n (.slice (some ⟨b, 0, none⟩) n m) :=
  ⟨⟨b, 0, none⟩, m, rfl, hn, fun _ => by simp, by simp⟩

section
variable {C : Cfg} {callF : FuncId → (t : Ty) → List Arg → Option t.den}
  {dst : Option Tmp} {type : TypeId} {pos : String} {after : Array Edge} {guard : Option (Nat × Bool)}

/-- An operation that gives a value and leaves memory changed. -/
theorem op_next {R : Type} {P : Program} {o : Oper} {F0 : Fr0} {G G' : Nat → Prop} {s : St} {a : Act} {w w' : World} {pl : Nat → Option Pl} {v : Slot} {u : Value} {κ : St → Option R} {r : R} {Q : Exit → Act → World → Prop}
    (hx : (execOp a.eval o).run P w = .ok (.value u) w') (i : Inv F0 G' s a w' pl) (fr : Fr F0 G w G' w') (hv : SlotRel (mem F0 G' w'.heap s.sto pl) v u) (h : (s.put o.dst v).run callF κ = some r) :
    o.wp P a w (Nxt F0 G w κ r) Q := by
  unfold Oper.wp
  rw [hx]
  show Nxt F0 G w κ r (a.put o.dst u) w'
  obtain ⟨s', h1, h2, h3, h4⟩ := put_ok i hv h
  exact ⟨s', G', pl, h1, h2, fr⟩

theorem op_skip {R : Type} {P : Program} {o : Oper} {F0 : Fr0} {G G' : Nat → Prop} {s : St} {a : Act} {w w' : World} {pl : Nat → Option Pl} {κ : St → Option R} {r : R} {Q : Exit → Act → World → Prop}
    (hx : (execOp a.eval o).run P w = .ok .skip w') (i : Inv F0 G' s a w' pl) (fr : Fr F0 G w G' w') (h : (s.put o.dst .undef).run callF κ = some r) :
    o.wp P a w (Nxt F0 G w κ r) Q := by
  unfold Oper.wp
  rw [hx]
  show Nxt F0 G w κ r (a.put o.dst undef) w'
  obtain ⟨s', h1, h2, h3, h4⟩ := put_ok (v := .undef) (u := undef) i trivial h
  exact ⟨s', G', pl, h1, h2, fr⟩

theorem ok_move' {asg : Bool} (x : Operand) : OpOk C callF ⟨dst, if asg then .assign x else .move x, type, pos, after, guard⟩ := by
  intro R F0 G s a w pl κ r Q i ht h
  have hx := i.slot x
  have hexec : (execOp a.eval ⟨dst, if asg then .assign x else .move x, type, pos, after, guard⟩).run C.P w = .ok (.value (a.eval x)) w := by cases asg <;> rfl
  have h : (match s.ev x with
    | .one (.cell .nil) => match C.dty type with
      | some _ => s.put dst (.cell .nil)
      | none => match (generalizing := false) C.elem type, dst with
        | some (_, t), some d => (s.alloc (siteKey d 0) (.arr t [] .open)).bind fun s => s.put dst (.cell (.ref (siteKey d 0)))
        | _, _ => s.put dst (.cell .nil)
    | v => s.put dst v).run callF κ = some r := by cases asg <;> exact h
  split at h
  · rename_i hs
    rw [hs] at hx
    have hx : a.eval x = .slice none 0 0 := hx
    split at h
    · exact op_value (v := .cell .nil) i hexec hx h
    split at h
    · rename_i t d he hd
      rw [T.run_bind] at h
      obtain ⟨hk, h⟩ := alloc_some h
      have i' := i.add (E := .arr t [] .open) (π := none) hk ⟨rfl, fun p hp => by cases hp⟩ (fun _ _ _ _ _ _ hq => by cases hq)
      refine op_next (v := .cell (.ref (siteKey d 0))) hexec i' (Fr.refl _ _ _) ?_ h
      refine ⟨t, [], .open, upd_same _ _ _, ?_⟩
      show SliceAt _ (upd pl _ _ _) _ _ _
      rw [upd_same]
      exact ⟨rfl, hx⟩
    · exact op_value (v := .cell .nil) i hexec hx h
  · exact op_value i hexec hx h

theorem ok_move (x : Operand) : OpOk C callF ⟨dst, .move x, type, pos, after, guard⟩ := ok_move' (asg := false) x
theorem ok_assign (x : Operand) : OpOk C callF ⟨dst, .assign x, type, pos, after, guard⟩ := ok_move' (asg := true) x

theorem Good.zero {C : Cfg} (good : Good C) {t : TypeId} {T : Option Ty} (h : assoc C.tt t = some T) : ∃ i z, C.P.info? t = some i ∧ i.zero = some z ∧ okZero C.P t T = true := by
  have hr := good.row h
  have hz : okZero C.P t T = true := by
    cases T with
    | none => simp only [okRow, Bool.and_eq_true] at hr; exact hr.2
    | some T => simp only [okRow, Bool.and_eq_true] at hr; exact hr.2
  have hz' := hz
  unfold okZero at hz
  cases hi : C.P.info? t with
  | none => rw [hi] at hz; cases T <;> simp at hz
  | some i =>
    cases hzz : i.zero with
    | none => rw [hi] at hz; simp only [Option.bind_some, hzz] at hz; cases T <;> simp at hz
    | some z => exact ⟨i, z, rfl, hzz, hz'⟩

theorem ok_alloc (good : Good C) (t : TypeId) : OpOk C callF ⟨dst, .alloc t, type, pos, after, guard⟩ := by
  intro R F0 G s a w pl κ r Q i ht h
  simp only [opT] at h
  split at h
  · rename_i ty d hty
    rw [T.run_bind] at h
    obtain ⟨hk, h⟩ := alloc_some h
    obtain ⟨inf, z, hi, hz, hok⟩ := good.zero hty
    have hrun : (execOp a.eval ⟨some d, .alloc t, type, pos, after, guard⟩).run C.P w = .ok (.value (.pointer (some ⟨w.heap.size, 0, none⟩))) (push w z.cells t) := by
      simp only [execOp, Instr.alloc, zeroValue, Sem.run_bind, run_typeInfo hi, Result.andThen_ok, hz, Sem.run_pure, newVar, newRow, run_newObj]
      rfl
    have hrel : ∀ M : Mem, CellsRel M (zeroBox ty) z.cells.toList := by
      intro M
      unfold okZero at hok
      rw [hi] at hok
      simp only [Option.bind_some, hz] at hok
      cases ty with
      | some T =>
        simp only [zeroBox] at hok ⊢
        rw [eqVals_eq hok]
        exact zero_rel T
      | none =>
        simp only [zeroBox] at hok ⊢
        have hcs : z.cells = #[z] := by cases z <;> simp [one] at hok <;> rfl
        rw [hcs]
        exact CellsRel.mk_cons trivial hok CellsRel.nil
    obtain ⟨i', fr⟩ := i.new (key := siteKey d 0) (E := .box ty (zeroBox ty)) (c := z.cells) (e := t) (w' := push w z.cells t) hk rfl (fun _ =>
      ⟨⟨w.heap.size, 0, z.cells.size, []⟩, z.cells, t, (0, 0), rfl, rfl, push_at w _ _, Free.zero _, rfl, by simpa using (hrel (mem F0 G w.heap s.sto pl)).1, fun u hu => by
        subst hu
        have h1 := (hrel (mem F0 G w.heap s.sto pl)).1
        unfold okZero at hok
        rw [hi] at hok
        simp only [Option.bind_some, hz] at hok
        have h2 := eqVals_eq hok
        rw [← h1, h2, zeroVals_len], hrel _, i.notF⟩)
    refine op_next (v := .cell (.ptr (siteKey d 0) 0)) hrun i' fr ?_ h
    refine ⟨ty, _, ⟨w.heap.size, 0, z.cells.size, []⟩, upd_same _ _ _, upd_same _ _ _, rfl, rfl⟩
  · simp at h

theorem ok_box (t : TypeId) (x : Operand) : OpOk C callF ⟨dst, .box t x, type, pos, after, guard⟩ := by
  intro R F0 G s a w pl κ r Q i ht h
  simp only [opT] at h
  have hx := i.slot x
  split at h
  · rename_i ty d v hty hs
    rw [hs] at hx
    split at h
    · rename_i hl
      have hl : v.known = true ∧ v.cells.length = boxSz ty := by simpa using hl
      rw [T.run_bind] at h
      obtain ⟨hk, h⟩ := alloc_some h
      have hrun : (execOp a.eval ⟨some d, .box t x, type, pos, after, guard⟩).run C.P w = .ok (.value (.pointer (some ⟨w.heap.size, 0, none⟩))) (push w (a.eval x).cells t) := by
        simp only [execOp, Instr.box, newVar, newRow, Sem.run_bind, run_newObj, Result.andThen_ok, Sem.run_pure]
        rfl
      obtain ⟨i', fr⟩ := i.new (key := siteKey d 0) (E := .box ty v.cells) (c := (a.eval x).cells) (e := t) (w' := push w (a.eval x).cells t) hk rfl (fun i' => by
        have hv := i'.slot x
        rw [hs] at hv
        have hrel := cells_of_comp hl.1 hv
        refine ⟨⟨w.heap.size, 0, (a.eval x).cells.size, []⟩, (a.eval x).cells, t, (0, 0), rfl, rfl, push_at w _ _, Free.zero _, rfl, by simpa using hrel.1, fun u hu => ?_, hrel, i.notF⟩
        subst hu
        exact hl.2)
      exact op_next (v := .cell (.ptr (siteKey d 0) 0)) hrun i' fr ⟨ty, _, ⟨w.heap.size, 0, (a.eval x).cells.size, []⟩, upd_same _ _ _, upd_same _ _ _, rfl, rfl⟩ h
    · simp at h
  · simp at h
end

end Go.Flat
