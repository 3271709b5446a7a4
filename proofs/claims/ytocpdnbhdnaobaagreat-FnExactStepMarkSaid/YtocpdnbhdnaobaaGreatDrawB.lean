/- A pointer that is copied, beside an append. No condition. -/
import Derived.Test.YtocpdnbhdnaobaaGreatDrawA
set_option linter.unusedVariables false
set_option linter.unusedSimpArgs false
namespace Go.Flat

section
variable {C : Cfg} {callF : FuncId → (t : Ty) → List Arg → Option t.den} {ops : List Oper} {s0 : St}

theorem ptr_kill {v : Slot} (h : ptrSlot v = true) (id : Nat) : v.kill id = v := by
  unfold ptrSlot at h
  split at h
  · rfl
  · cases h

theorem commM_at {a b : Oper} (h : commM C ops s0 a b = true) : ∃ x z t y d, a.op = .move (.tmp z) ∧ a.dst = some x ∧ appOp b = some (t, y, d) ∧ flatApp C b = true ∧ ptrSlot (s0.env z) = true ∧ z ∉ dstsOf ops ∧ x ∉ readsOf ops b ∧ x ≠ d := by
  unfold commM at h
  split at h
  · rename_i z x t y d h1 h2 h3
    simp only [Bool.and_eq_true, Bool.not_eq_true'] at h
    obtain ⟨⟨⟨⟨k1, k2⟩, k3⟩, k4⟩, k5⟩ := h
    refine ⟨x, z, t, y, d, h1, h2, h3, k1, k2, by simpa using k3, by simpa using k4, fun e => ?_⟩
    subst e
    simp at k5
  · cases h

theorem mov_run (hg : ∀ o ∈ ops, o.guard = none) {i : Nat} {o : Oper} (ho : o ∈ ops) {x z : Tmp} (h1 : o.op = .move (.tmp z)) (h2 : o.dst = some x) {s : St} (hp : ptrSlot (s.env z) = true) :
    (stepT C ops i o s).run callF some = if inN x s.n = true then some ⟨s.n, upd s.env x (s.env z), s.sto⟩ else none := by
  have hgo := hg o ho
  unfold stepT
  simp only [hgo, isGuard_no hg, cond_false, T.bind_ret']
  obtain ⟨dst, op, type, pos, after, guard⟩ := o
  simp only at h1 h2
  subst h1 h2
  unfold ptrSlot at hp
  split at hp
  · rename_i q off he
    simp only [opT, St.ev, he, St.put]
    cases hb : inN x s.n <;> simp [T.run]
  · cases hp

theorem dst_mem {o : Oper} (ho : o ∈ ops) {x : Tmp} (h : o.dst = some x) : x ∈ dstsOf ops := by
  simp only [dstsOf, List.mem_filterMap]
  exact ⟨o, ho, h⟩

def MInv (ops : List Oper) (s0 s : St) : Prop := ∀ t, t ∉ dstsOf ops → ptrSlot (s0.env t) = true → s.env t = s0.env t

theorem swap_mov_app (hg : ∀ o ∈ ops, o.guard = none) {i j : Nat} {p o : Oper} (hp : p ∈ ops) (ho : o ∈ ops) {s s1 s2 : St} (l : Live s) (I : MInv ops s0 s) (hc : commM C ops s0 p o = true)
    (h1 : (stepT C ops i p s).run callF some = some s1) (h2 : (stepT C ops j o s1).run callF some = some s2) :
    ∃ s', (stepT C ops j o s).run callF some = some s' ∧ (stepT C ops i p s').run callF some = some s2 := by
  obtain ⟨x, z, t, y, d, hop, hx, hb, hfl, hpt, hz, hxo, hxd⟩ := commM_at hc
  obtain ⟨hod, hrd⟩ := appOp_dst hb
  have htx : t ≠ x := fun e => hxo (e ▸ hrd t (by simp) ops)
  have hyx : y ≠ x := fun e => hxo (e ▸ hrd y (by simp) ops)
  have hzd : z ≠ d := fun e => hz (e ▸ dst_mem ho hod)
  have hpz : ptrSlot (s.env z) = true := by rw [I z hz hpt]; exact hpt
  rw [mov_run hg hp hop hx hpz] at h1
  split at h1
  · rename_i hbx
    simp only [Option.some.injEq] at h1
    subst h1
    rw [app_run hg ho hfl hb] at h2
    have hvs : appV C o t y ⟨s.n, upd s.env x (s.env z), s.sto⟩ = appV C o t y s := appV_congr (upd_ne _ _ htx) (upd_ne _ _ hyx) (fun _ _ => rfl) (fun _ _ => rfl)
    rw [hvs] at h2
    rw [bind_some'] at h2
    obtain ⟨⟨w, E⟩, hw, h2⟩ := Option.bind_eq_some_iff.1 h2
    cases w with
    | none =>
      simp only [appTo] at h2
      split at h2
      · rename_i hk
        cases hbd : inN d s.n with
        | false => rw [hbd] at h2; cases h2
        | true =>
          rw [hbd] at h2
          simp only [cond_true, Option.some.injEq] at h2
          subst h2
          refine ⟨⟨s.n, upd s.env d (.cell (.ref (siteKey d 0))), upd s.sto (siteKey d 0) (some E)⟩, ?_, ?_⟩
          · rw [app_run hg ho hfl hb, hw]
            simp only [Option.bind_some, appTo, hk, hbd, cond_true]
          · have he : upd s.env d (.cell (.ref (siteKey d 0))) z = s.env z := upd_ne _ _ hzd
            rw [mov_run hg hp hop hx (by have hq := hpz; rw [← he] at hq; exact hq)]
            simp only [hbx, if_true, he]
            rw [upd_comm _ _ _ hxd]
      · cases h2
    | some id =>
      simp only [appTo] at h2
      cases hbd : inN d s.n with
      | false => rw [hbd] at h2; cases h2
      | true =>
        rw [hbd] at h2
        simp only [cond_true, Option.some.injEq] at h2
        subst h2
        refine ⟨⟨s.n, upd (fun t => (s.env t).kill id) d (.cell (.ref id)), appS s.sto id E⟩, ?_, ?_⟩
        · rw [app_run hg ho hfl hb, hw]
          simp only [Option.bind_some, appTo, hbd, cond_true]
        · have he : upd (fun t => (s.env t).kill id) d (.cell (.ref id)) z = s.env z := (upd_ne _ _ hzd).trans (ptr_kill hpz id)
          rw [mov_run hg hp hop hx (by have hq := hpz; rw [← he] at hq; exact hq)]
          simp only [hbx, if_true, he]
          have hkill : (fun t => (upd s.env x (s.env z) t).kill id) = upd (fun t => (s.env t).kill id) x (s.env z) := by
            funext u
            by_cases hu : u = x
            · subst hu; rw [upd_same, upd_same, ptr_kill hpz]
            · rw [upd_ne _ _ hu, upd_ne _ _ hu]
          simp only [hkill]
          rw [upd_comm _ _ _ hxd]
  · cases h1

theorem swap_app_mov (hg : ∀ o ∈ ops, o.guard = none) {i j : Nat} {p o : Oper} (hp : p ∈ ops) (ho : o ∈ ops) {s s1 s2 : St} (l : Live s) (I : MInv ops s0 s) (hc : commM C ops s0 o p = true)
    (h1 : (stepT C ops i p s).run callF some = some s1) (h2 : (stepT C ops j o s1).run callF some = some s2) :
    ∃ s', (stepT C ops j o s).run callF some = some s' ∧ (stepT C ops i p s').run callF some = some s2 := by
  obtain ⟨x, z, t, y, d, hop, hx, hb, hfl, hpt, hz, hxo, hxd⟩ := commM_at hc
  obtain ⟨hod, hrd⟩ := appOp_dst hb
  have htx : t ≠ x := fun e => hxo (e ▸ hrd t (by simp) ops)
  have hyx : y ≠ x := fun e => hxo (e ▸ hrd y (by simp) ops)
  have hzd : z ≠ d := fun e => hz (e ▸ dst_mem hp hod)
  have hpz : ptrSlot (s.env z) = true := by rw [I z hz hpt]; exact hpt
  have hvs : appV C p t y ⟨s.n, upd s.env x (s.env z), s.sto⟩ = appV C p t y s := appV_congr (upd_ne _ _ htx) (upd_ne _ _ hyx) (fun _ _ => rfl) (fun _ _ => rfl)
  rw [app_run hg hp hfl hb] at h1
  rw [bind_some'] at h1
  obtain ⟨⟨w, E⟩, hw, h1⟩ := Option.bind_eq_some_iff.1 h1
  cases w with
  | none =>
    simp only [appTo] at h1
    split at h1
    · rename_i hk
      cases hbd : inN d s.n with
      | false => rw [hbd] at h1; cases h1
      | true =>
        rw [hbd] at h1
        simp only [cond_true, Option.some.injEq] at h1
        subst h1
        have he : upd s.env d (.cell (.ref (siteKey d 0))) z = s.env z := upd_ne _ _ hzd
        rw [mov_run hg ho hop hx (by have hq := hpz; rw [← he] at hq; exact hq)] at h2
        split at h2
        · rename_i hbx
          simp only [Option.some.injEq, he] at h2
          subst h2
          refine ⟨⟨s.n, upd s.env x (s.env z), s.sto⟩, by rw [mov_run hg ho hop hx hpz, if_pos hbx], ?_⟩
          rw [app_run hg hp hfl hb, hvs, hw]
          simp only [Option.bind_some, appTo, hk, hbd, cond_true]
          rw [upd_comm _ _ _ hxd]
        · cases h2
    · cases h1
  | some id =>
    simp only [appTo] at h1
    cases hbd : inN d s.n with
    | false => rw [hbd] at h1; cases h1
    | true =>
      rw [hbd] at h1
      simp only [cond_true, Option.some.injEq] at h1
      subst h1
      have he : upd (fun t => (s.env t).kill id) d (.cell (.ref id)) z = s.env z := (upd_ne _ _ hzd).trans (ptr_kill hpz id)
      rw [mov_run hg ho hop hx (by have hq := hpz; rw [← he] at hq; exact hq)] at h2
      split at h2
      · rename_i hbx
        simp only [Option.some.injEq, he] at h2
        subst h2
        refine ⟨⟨s.n, upd s.env x (s.env z), s.sto⟩, by rw [mov_run hg ho hop hx hpz, if_pos hbx], ?_⟩
        rw [app_run hg hp hfl hb, hvs, hw]
        simp only [Option.bind_some, appTo, hbd, cond_true]
        have hkill : (fun t => (upd s.env x (s.env z) t).kill id) = upd (fun t => (s.env t).kill id) x (s.env z) := by
          funext u
          by_cases hu : u = x
          · subst hu; rw [upd_same, upd_same, ptr_kill hpz]
          · rw [upd_ne _ _ hu, upd_ne _ _ hu]
        simp only [hkill]
        rw [upd_comm _ _ _ hxd]
      · cases h2

theorem minv_go (hg : ∀ o ∈ ops, o.guard = none) {i : Nat} {o : Oper} (ho : o ∈ ops) (hq : (quietOp C o || storeOp C o || ((appOp o).isSome && flatApp C o)) = true) {s s1 : St} (I : MInv ops s0 s) (h : (stepT C ops i o s).run callF some = some s1) : MInv ops s0 s1 := by
  simp only [Bool.or_eq_true, Bool.and_eq_true] at hq
  rcases hq with hq | ⟨ha, hfl⟩
  · intro t ht hpt
    exact (step_keep ho (by simpa using hq) h t ht).trans (I t ht hpt)
  · obtain ⟨⟨t, y, d⟩, ha⟩ := Option.isSome_iff_exists.1 ha
    obtain ⟨hod, _⟩ := appOp_dst ha
    have hd := dst_mem ho hod
    rw [app_run hg ho hfl ha, bind_some'] at h
    obtain ⟨⟨w, E⟩, hw, h⟩ := Option.bind_eq_some_iff.1 h
    intro u hu hpu
    have hne : u ≠ d := fun e => hu (e ▸ hd)
    cases w with
    | none =>
      simp only [appTo] at h
      split at h
      · cases hbd : inN d s.n with
        | false => rw [hbd] at h; cases h
        | true =>
          rw [hbd] at h
          simp only [cond_true, Option.some.injEq] at h
          subst h
          exact (upd_ne _ _ hne).trans (I u hu hpu)
      · cases h
    | some id =>
      simp only [appTo] at h
      cases hbd : inN d s.n with
      | false => rw [hbd] at h; cases h
      | true =>
        rw [hbd] at h
        simp only [cond_true, Option.some.injEq] at h
        subst h
        show upd (fun t => (s.env t).kill id) d (.cell (.ref id)) u = _
        rw [upd_ne _ _ hne]
        show (s.env u).kill id = _
        rw [I u hu hpu, ptr_kill hpu]
end

/-- By the pointers that are copied. -/
def waysM {C : Cfg} {callF : FuncId → (t : Ty) → List Arg → Option t.den} (ops : Array Oper) (s0 : St) (hg : ∀ o ∈ ops.toList, o.guard = none) (hq : ∀ o ∈ ops.toList, (quietOp C o || storeOp C o || ((appOp o).isSome && flatApp C o)) = true) : Ways C callF ops :=
  have mem : ∀ {i : Nat} {o : Oper}, ops[i]? = some o → o ∈ ops.toList := fun h => Array.mem_toList_iff.2 (Array.mem_of_getElem? h)
  ⟨commZ C ops.toList s0, MInv ops.toList s0, fun _ => false, (fun h => by cases h), (fun h => by cases h), fun hI _ ho h => minv_go hg (mem ho) (hq _ (mem ho)) hI h, fun {i j p o s s1 s2} l hI hp ho hcm h1 h2 => by
    unfold commZ at hcm
    simp only [Bool.or_eq_true] at hcm
    rcases hcm with (hcm | hcm) | hcm
    · exact step_swap l hcm h1 h2
    · exact swap_mov_app hg (mem hp) (mem ho) l hI hcm h1 h2
    · exact swap_app_mov hg (mem hp) (mem ho) l hI hcm h1 h2⟩
end Go.Flat
