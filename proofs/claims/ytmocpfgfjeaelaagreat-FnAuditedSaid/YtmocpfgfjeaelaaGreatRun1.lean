/- Whatever the evaluator answers, the program answers. No condition. -/
import Derived.Test.YtmocpfgfjeaelaaGreatCall3
set_option linter.unusedVariables false
set_option linter.unusedSimpArgs false
namespace Go.Flat

theorem op_ok {C : Cfg} (good : Good C) {callF : FuncId → (t : Ty) → List Arg → Option t.den} (hcall : CallsOk C callF) (o : Oper) : OpOk C callF o := by
  obtain ⟨dst, op, type, pos, after, guard⟩ := o
  have no : (∀ s, opT C ⟨dst, op, type, pos, after, guard⟩ s = .fail) → OpOk C callF ⟨dst, op, type, pos, after, guard⟩ := by
    intro hf R F0 G s a w pl κ r Q i ht h
    rw [hf] at h
    simp at h
  cases op with
  | move x => exact ok_move x
  | assign x => exact ok_assign x
  | pick c x y => exact ok_pick c x y
  | alloc t => exact ok_alloc good t
  | box t x => exact ok_box t x
  | build t parts => exact ok_build good t parts
  | buildSlice t n parts => exact ok_buildSlice good t n parts
  | load t x =>
    cases htk : C.take dst t with
    | false => exact ok_load good t x htk
    | true => exact ok_take good t x htk
  | store t p x => exact ok_store good t p x
  | nilCheck x => exact ok_nilCheck x
  | binOp op t x y t' => exact ok_binOp good op t t' x y
  | unOp op t x => exact ok_unOp op t x
  | convert src dt x => exact ok_convert good src dt x
  | makeFunc fn first captured =>
    cases fn with
    | func f => exact ok_makeFunc f first captured
    | _ => exact no fun s => rfl
  | makeSlice t l c => exact ok_makeSlice good t l c
  | slice t x lo hi mx =>
    cases mx with
    | none => exact ok_slice good t x lo hi
    | some m => exact no fun s => rfl
  | fieldAddr t x ix => exact ok_fieldAddr good t x ix
  | field t x ix => exact ok_field good t x ix
  | indexAddr t x ix => exact ok_indexAddr good t x ix
  | index t x ix => exact ok_index t x ix
  | extract x ix => exact ok_extract x ix
  | call c =>
    obtain ⟨callee, args, argTypes⟩ := c
    cases callee with
    | value g => exact ok_call good hcall g args argTypes
    | invoke _ _ => exact no fun s => rfl
    | builtin b =>
      cases b with
      | len => exact ok_len args argTypes
      | append => exact ok_append good args argTypes
      | clear => exact ok_clear good args argTypes
      | min => exact ok_min args argTypes
      | max => exact ok_max args argTypes
      | _ => exact no fun s => rfl
  | _ => exact no fun s => rfl

def readVar (tmps : Array Value) : ResultVar → Sem Value
  | .tmp t => pure (tmps.getD t undef)
  | .cell x t => do loadVar t (← asAddr (tmps.getD x undef))

theorem resComps_ok {C : Cfg} (good : Good C) {F0 : Fr0} {G : Nat → Prop} {s : St} {a : Act} {w : World} {pl : Nat → Option Pl} (i : Inv F0 G s a w pl) : ∀ {rs : List ResultVar} {vs : List Comp}, resComps C s rs = some vs →
    ∃ us : List Value, (rs.mapM (readVar a.tmps)).run C.P w = .ok us w ∧ us.length = vs.length ∧ ∀ (j : Nat) c u, vs[j]? = some c → us[j]? = some u → CompRel (mem F0 G w.heap s.sto pl) c u
  | [], vs, h => by
    simp [resComps] at h
    subst h
    exact ⟨[], by simp, rfl, fun j c u hj => by simp at hj⟩
  | .tmp t :: rs, vs, h => by
    simp only [resComps] at h
    split at h
    · rename_i c r hs hr
      simp at h
      subst h
      obtain ⟨us, k1, k2, k3⟩ := resComps_ok good i hr
      have hv := i.env t
      rw [hs] at hv
      refine ⟨a.tmps.getD t undef :: us, ?_, by simp [k2], fun j c' u hj hu => ?_⟩
      · rw [List.mapM_cons]
        simp only [readVar, Sem.run_bind, Sem.run_pure, Result.andThen_ok, k1]
      · cases j with
        | succ j => exact k3 j c' u (by simpa using hj) (by simpa using hu)
        | zero => cases hj; cases hu; exact hv
    · cases h
  | .cell x t :: rs, vs, h => by
    simp only [resComps] at h
    split at h
    · rename_i n agg p r hsh hs hr
      split at h
      · rename_i c hc
        simp at h
        subst h
        obtain ⟨us, k1, k2, k3⟩ := resComps_ok good i hr
        have hv := i.env x
        rw [hs] at hv
        obtain ⟨b, o, es, u0, c0, h1, h2, h3, h4, h5, h6⟩ := cellsAt_ok (n := n) (agg := agg) (p := p) (callF := fun _ _ _ => none) (κ := some) i (fun e => by subst e; exact Cfg.shape_one hsh) hv (r := c) (by rw [hc]; rfl)
        simp at h6
        subst h6
        have hload := run_loadAt good hsh h2 h3 h4
        unfold Instr.loadAt at hload
        simp only [Instr.sureAddr, Sem.run_bind, Sem.run_pure, Result.andThen_ok] at hload
        refine ⟨u0 :: us, ?_, by simp [k2], fun j c' u hj hu => ?_⟩
        · rw [List.mapM_cons]
          simp only [readVar, Sem.run_bind, h1, asAddr, Sem.run_pure, Result.andThen_ok, hload, k1]
        · cases j with
          | succ j => exact k3 j c' u (by simpa using hj) (by simpa using hu)
          | zero => cases hj; cases hu; exact h5
      · cases h
    · cases h

end Go.Flat
