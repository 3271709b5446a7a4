/- Whatever the evaluator answers, the program answers. No condition. -/
import Derived.Test.YtkfnhbdloidfmaaCall3
set_option linter.unusedVariables false
set_option linter.unusedSimpArgs false
namespace Go.Flat

theorem op_ok {C : Cfg} (good : Good C) {callF : FuncId → (t : Ty) → List Arg → Option t.den} (hcall : CallsOk C callF) (o : Oper) : OpOk C callF o := by
  obtain ⟨dst, op, type, pos, after, guard⟩ := o
  have no : (∀ s, opT C ⟨dst, op, type, pos, after, guard⟩ s = .fail) → OpOk C callF ⟨dst, op, type, pos, after, guard⟩ := by
    intro hf R F0 G s a w pl κ r Q i ht h
    rw [hf] at h
    simp at h
  cases op with
  | move x => exact ok_move x
  | assign x => exact ok_assign x
  | pick c x y => exact ok_pick c x y
  | alloc t => exact ok_alloc good t
  | box t x => exact ok_box t x
  | build t parts => exact ok_build good t parts
  | buildSlice t n parts => exact ok_buildSlice good t n parts
  | load t x => exact ok_load good t x
  | store t p x => exact ok_store good t p x
  | nilCheck x => exact ok_nilCheck x
  | binOp op t x y t' => exact ok_binOp good op t t' x y
  | unOp op t x => exact ok_unOp op t x
  | convert src dt x => exact ok_convert good src dt x
  | makeFunc fn first captured =>
    cases fn with
    | func f => exact ok_makeFunc f first captured
    | _ => exact no fun s => rfl
  | makeSlice t l c => exact ok_makeSlice good t l c
  | slice t x lo hi mx =>
    cases mx with
    | none => exact ok_slice good t x lo hi
    | some m => exact no fun s => rfl
  | fieldAddr t x ix => exact ok_fieldAddr good t x ix
  | field t x ix => exact ok_field good t x ix
  | indexAddr t x ix => exact ok_indexAddr good t x ix
  | index t x ix => exact ok_index t x ix
  | extract x ix => exact ok_extract x ix
  | call c =>
    obtain ⟨callee, args, argTypes⟩ := c
    cases callee with
    | value g => exact ok_call good hcall g args argTypes
    | invoke _ _ => exact no fun s => rfl
    | builtin b =>
      cases b with
      | len => exact ok_len args argTypes
      | append => exact ok_append good args argTypes
      | clear => exact ok_clear good args argTypes
      | min => exact ok_min args argTypes
      | max => exact ok_max args argTypes
      | _ => exact no fun s => rfl
  | _ => exact no fun s => rfl

def readVar (tmps : Array Value) : ResultVar → Sem Value
  | .tmp t => pure (tmps.getD t undef)
  | .cell x t => do loadVar t (← asAddr (tmps.getD x undef))

theorem resComps_ok {C : Cfg} (good : Good C) {F0 : Fr0} {G : Nat → Prop} {s : St} {a : Act} {w : World} {pl : Nat → Option Pl} (i : Inv F0 G s a w pl) : ∀ {rs : List ResultVar} {vs : List Comp}, resComps C s rs = some vs →
    ∃ us : List Value, (rs.mapM (readVar a.tmps)).run C.P w = .ok us w ∧ us.length = vs.length ∧ ∀ (j : Nat) c u, vs[j]? = some c → us[j]? = some u → CompRel (mem F0 G w.heap s.sto pl) c u
  | [], vs, h => by
    simp [resComps] at h
    subst h
    exact ⟨[], by simp, rfl, fun j c u hj => by simp at hj⟩
  | .tmp t :: rs, vs, h => by
    simp only [resComps] at h
    split at h
    · rename_i c r hs hr
      simp at h
      subst h
      obtain ⟨us, k1, k2, k3⟩ := resComps_ok good i hr
      have hv := i.env t
      rw [hs] at hv
      refine ⟨a.tmps.getD t undef :: us, ?_, by simp [k2], fun j c' u hj hu => ?_⟩
      · rw [List.mapM_cons]
        simp only [readVar, Sem.run_bind, Sem.run_pure, Result.andThen_ok, k1]
      · cases j with
        | succ j => exact k3 j c' u (by simpa using hj) (by simpa using hu)
        | zero => cases hj; cases hu; exact hv
    · cases h
  | .cell x t :: rs, vs, h => by
    simp only [resComps] at h
    split at h
    · rename_i n agg p r hsh hs hr
      split at h
      · rename_i c hc
        simp at h
        subst h
        obtain ⟨us, k1, k2, k3⟩ := resComps_ok good i hr
        have hv := i.env x
        rw [hs] at hv
        obtain ⟨b, o, es, u0, c0, h1, h2, h3, h4, h5, h6⟩ := cellsAt_ok (n := n) (agg := agg) (p := p) (callF := fun _ _ _ => none) (κ := some) i (fun e => by subst e; exact Cfg.shape_one hsh) hv (r := c) (by rw [hc]; rfl)
        simp at h6
        subst h6
        have hload := run_loadAt good hsh h2 h3 h4
        unfold Instr.loadAt at hload
        simp only [Instr.sureAddr, Sem.run_bind, Sem.run_pure, Result.andThen_ok] at hload
        refine ⟨u0 :: us, ?_, by simp [k2], fun j c' u hj hu => ?_⟩
        · rw [List.mapM_cons]
          simp only [readVar, Sem.run_bind, h1, asAddr, Sem.run_pure, Result.andThen_ok, hload, k1]
        · cases j with
          | succ j => exact k3 j c' u (by simpa using hj) (by simpa using hu)
          | zero => cases hj; cases hu; exact h5
      · cases h
    · cases h

/-- What is given away. -/
theorem ofCells_own {M : Mem} (hM : StoRel M) : ∀ {t : Ty} {cs : List Cell} {x : t.den} {rest : List Cell} {ids : List Nat} {vs : List Value}, ofCells M.sto .give t cs = some (x, rest, ids) → CellsRel M cs vs →
    ∃ ws us ps, vs = ws ++ us ∧ OwnRd true M.G M.h t x ws ps ∧ CellsRel M rest us ∧ (ps.filterMap id).map Pl.b = (ids.filterMap M.pl).map Pl.b := by
  intro t
  induction t with
  | bool =>
    intro cs x rest ids vs h hc
    cases cs with
    | nil => simp [ofCells] at h
    | cons c cs =>
      obtain ⟨v, us, rfl, hv, _, hs⟩ := hc.cons
      cases c <;> simp [ofCells] at h
      case bool b => obtain ⟨rfl, rfl, rfl⟩ := h; exact ⟨[v], us, [], rfl, ⟨rfl, by rw [show v = .bool b from hv]⟩, hs, rfl⟩
      case prop p d => obtain ⟨rfl, rfl, rfl⟩ := h; exact ⟨[v], us, [], rfl, ⟨rfl, by rw [show v = .bool (@decide p d) from hv]⟩, hs, rfl⟩
  | int k =>
    intro cs x rest ids vs h hc
    cases cs with
    | nil => simp [ofCells] at h
    | cons c cs =>
      obtain ⟨v, us, rfl, hv, _, hs⟩ := hc.cons
      cases c <;> simp [ofCells] at h
      case int k' n => obtain ⟨rfl, rfl, rfl, rfl⟩ := h; exact ⟨[v], us, [], rfl, ⟨rfl, by rw [show v = .int k' n from hv]⟩, hs, rfl⟩
  | str =>
    intro cs x rest ids vs h hc
    cases cs with
    | nil => simp [ofCells] at h
    | cons c cs =>
      obtain ⟨v, us, rfl, hv, _, hs⟩ := hc.cons
      cases c <;> simp [ofCells] at h
      case str b => obtain ⟨rfl, rfl, rfl⟩ := h; exact ⟨[v], us, [], rfl, ⟨rfl, by rw [show v = .string b from hv]⟩, hs, rfl⟩
  | unit =>
    intro cs x rest ids vs h hc
    have h : some ((), cs, ([] : List Nat)) = some (x, rest, ids) := by
      cases cs with
      | nil => simpa [ofCells] using h
      | cons c cs => cases c <;> simpa [ofCells] using h
    simp at h
    obtain ⟨rfl, rfl⟩ := h
    exact ⟨[], vs, [], rfl, ⟨rfl, rfl⟩, hc, rfl⟩
  | pair a b iha ihb =>
    intro cs x rest ids vs h hc
    rw [ofCells_pair] at h
    cases h1 : ofCells M.sto .give a cs with
    | none => simp [h1] at h
    | some r1 =>
      obtain ⟨x1, rest1, ids1⟩ := r1
      simp only [h1] at h
      cases h2 : ofCells M.sto .give b rest1 with
      | none => simp [h2] at h
      | some r2 =>
        obtain ⟨x2, rest2, ids2⟩ := r2
        simp [h2] at h
        obtain ⟨rfl, rfl, rfl⟩ := h
        obtain ⟨ws, us, ps, rfl, k1, k2, k3⟩ := iha h1 hc
        obtain ⟨ws', us', ps', rfl, k4, k5, k6⟩ := ihb h2 k2
        exact ⟨ws ++ ws', us', ps ++ ps', by simp, ⟨ws, ws', ps, ps', rfl, rfl, k1, k4⟩, k5, by simp [k3, k6]⟩
  | list t ih =>
    intro cs x rest ids vs h hc
    cases cs with
    | nil => simp [ofCells] at h
    | cons c cs =>
      obtain ⟨v, us, rfl, hv, hv1, hs⟩ := hc.cons
      have h : (listOf M.sto .give t c).map (fun (l, ids) => (l, cs, ids)) = some (x, rest, ids) := by cases c <;> simpa [ofCells] using h
      rw [Option.map_eq_some_iff] at h
      obtain ⟨⟨l, js⟩, hl, he⟩ := h
      simp at he
      obtain ⟨rfl, rfl, rfl⟩ := he
      have fin : ∀ {π : Option Pl}, SliceAt t.sz π 0 l.length v → ArrAt M.G M.h t l π → (π.toList).map Pl.b = (js.filterMap M.pl).map Pl.b →
          ∃ ws us' ps, v :: us = ws ++ us' ∧ OwnRd true M.G M.h (.list t) l ws ps ∧ CellsRel M cs us' ∧ (ps.filterMap id).map Pl.b = (js.filterMap M.pl).map Pl.b := by
        intro π h1 h2 h3
        refine ⟨[v], us, [π], rfl, ?_, hs, ?_⟩
        · simp only [OwnRd, if_true]
          exact ⟨v, π, rfl, rfl, h1, h2⟩
        · rw [← h3]; cases π <;> rfl
      cases c <;> simp only [listOf] at hl <;> try (cases hl; done)
      case nil =>
        simp at hl
        obtain ⟨rfl, rfl⟩ := hl
        exact fin (π := none) ⟨rfl, hv⟩ rfl rfl
      case ref id =>
        obtain ⟨u, l', o, hst, hsl⟩ := hv
        rw [hst] at hl
        cases o <;> simp at hl
        obtain ⟨y, hy, rfl, rfl⟩ := hl
        obtain ⟨rfl, rfl⟩ := castList_some hy
        refine fin (π := M.pl id) hsl (hM.ent id _ hst).1 ?_
        cases hp : M.pl id <;> simp [hp]
      case sub id off n =>
        obtain ⟨u, l', o, hst, hle, hsl⟩ := hv
        rw [hst] at hl
        cases o <;> simp at hl
        obtain ⟨y, hy, rfl, rfl⟩ := hl
        obtain ⟨rfl, rfl⟩ := castList_some hy
        have hlen : ((l'.drop off).take n).length = n := by simp; omega
        have ha := (hM.ent id _ hst).1
        cases hp : M.pl id with
        | none =>
          rw [hp] at hsl ha
          obtain ⟨rfl, hv⟩ := hsl
          exact fin (π := none) ⟨by simp, by rw [hv]⟩ (show (l'.drop off).take 0 = [] by simp) (by simp [hp])
        | some p =>
          rw [hp] at hsl ha
          obtain ⟨A, cap, hv, hnc, haddr, hroom⟩ := hsl
          obtain ⟨c, e, fz, k1, k2, k3, k4, k5⟩ := ha
          refine fin (π := some ⟨p.b, p.o + off * u.sz, p.size⟩) ⟨A, cap, by rw [hlen]; exact hv, by rw [hlen]; exact hnc, fun hc => by rw [haddr hc]; simp, ?_⟩ ⟨c, e, fz, k1, k2, k3, ?_, fun j y hj => ?_⟩ (by simp [hp])
          · show p.o + off * u.sz + (0 + cap) * u.sz ≤ p.size
            rw [Nat.add_mul] at hroom
            rw [Nat.zero_add]
            omega
          · rw [hlen]
            show p.o + off * u.sz + n * u.sz ≤ p.size
            have : n * u.sz ≤ cap * u.sz := Nat.mul_le_mul_right _ hnc
            rw [Nat.add_mul] at hroom
            omega
          · rw [List.getElem?_take] at hj
            split at hj
            · rw [List.getElem?_drop] at hj
              obtain ⟨es, h1, h2⟩ := k5 _ y hj
              refine ⟨es, h1, fun q v' hq => ?_⟩
              have := h2 q v' hq
              rw [Nat.add_mul] at this
              show c[p.o + off * u.sz + j * u.sz + q]? = some v'
              rw [show p.o + off * u.sz + j * u.sz + q = p.o + (off * u.sz + j * u.sz) + q by omega]
              exact this
            · cases hj

theorem ownRd_false {G : Nat → Prop} {h : Array Obj} : ∀ {t : Ty} {x : t.den} {cs : List Value}, Rd G h t G x cs → OwnRd false G h t x cs []
  | .bool, _, _, e => ⟨rfl, e⟩
  | .int _, _, _, e => ⟨rfl, e⟩
  | .str, _, _, e => ⟨rfl, e⟩
  | .unit, _, _, e => ⟨rfl, e⟩
  | .list t, _, _, e => by simp only [OwnRd, Bool.false_eq_true, if_false]; exact ⟨trivial, e⟩
  | .pair a b, _, _, ⟨c, d, e, h1, h2⟩ => ⟨c, d, [], [], e, rfl, ownRd_false h1, ownRd_false h2⟩

end Go.Flat
