/- A pointer that is copied, beside an append. No condition. -/
import Derived.Test.YtmocpfgfjeaelaaGreatDrawA
set_option linter.unusedVariables false
set_option linter.unusedSimpArgs false
namespace Go.Flat

section
variable {C : Cfg} {callF : FuncId → (t : Ty) → List Arg → Option t.den} {ops : List Oper} {s0 : St}

theorem ptr_kill {v : Slot} (h : ptrSlot v = true) (id : Nat) : v.kill id = v := by
  unfold ptrSlot at h
  split at h
  · rfl
  · cases h

theorem commM_at {a b : Oper} (h : commM C ops s0 a b = true) : ∃ x z t y d, a.op = .move (.tmp z) ∧ a.dst = some x ∧ appOp b = some (t, y, d) ∧ flatApp C b = true ∧ ptrSlot (s0.env z) = true ∧ z ∉ dstsOf ops ∧ x ∉ readsOf ops b ∧ x ≠ d := by
  unfold commM at h
  split at h
  · rename_i z x t y d h1 h2 h3
    simp only [Bool.and_eq_true, Bool.not_eq_true'] at h
    obtain ⟨⟨⟨⟨k1, k2⟩, k3⟩, k4⟩, k5⟩ := h
    refine ⟨x, z, t, y, d, h1, h2, h3, k1, k2, by simpa using k3, by simpa using k4, fun e => ?_⟩
    subst e
    simp at k5
  · cases h

theorem mov_run (hg : ∀ o ∈ ops, o.guard = none) {i : Nat} {o : Oper} (ho : o ∈ ops) {x z : Tmp} (h1 : o.op = .move (.tmp z)) (h2 : o.dst = some x) {s : St} (hp : ptrSlot (s.env z) = true) :
    (stepT C ops i o s).run callF some = if inN x s.n = true then some ⟨s.n, upd s.env x (s.env z), s.sto⟩ else none := by
  have hgo := hg o ho
  unfold stepT
  simp only [hgo, isGuard_no hg, cond_false, T.bind_ret']
  obtain ⟨dst, op, type, pos, after, guard⟩ := o
  simp only at h1 h2
  subst h1 h2
  unfold ptrSlot at hp
  split at hp
  · rename_i q off he
    simp only [opT, St.ev, he, St.put]
    cases hb : inN x s.n <;> simp [T.run]
  · cases hp

theorem dst_mem {o : Oper} (ho : o ∈ ops) {x : Tmp} (h : o.dst = some x) : x ∈ dstsOf ops := by
  simp only [dstsOf, List.mem_filterMap]
  exact ⟨o, ho, h⟩

def MInv (ops : List Oper) (s0 s : St) : Prop := ∀ t, t ∉ dstsOf ops → ptrSlot (s0.env t) = true → s.env t = s0.env t

theorem swap_mov_app (hg : ∀ o ∈ ops, o.guard = none) {i j : Nat} {p o : Oper} (hp : p ∈ ops) (ho : o ∈ ops) {s s1 s2 : St} (l : Live s) (I : MInv ops s0 s) (hc : commM C ops s0 p o = true)
    (h1 : (stepT C ops i p s).run callF some = some s1) (h2 : (stepT C ops j o s1).run callF some = some s2) :
    ∃ s', (stepT C ops j o s).run callF some = some s' ∧ (stepT C ops i p s').run callF some = some s2 := by
  obtain ⟨x, z, t, y, d, hop, hx, hb, hfl, hpt, hz, hxo, hxd⟩ := commM_at hc
  obtain ⟨hod, hrd⟩ := appOp_dst hb
  have htx : t ≠ x := fun e => hxo (e ▸ hrd t (by simp) ops)
  have hyx : y ≠ x := fun e => hxo (e ▸ hrd y (by simp) ops)
  have hzd : z ≠ d := fun e => hz (e ▸ dst_mem ho hod)
  have hpz : ptrSlot (s.env z) = true := by rw [I z hz hpt]; exact hpt
  rw [mov_run hg hp hop hx hpz] at h1
  split at h1
  · rename_i hbx
    simp only [Option.some.injEq] at h1
    subst h1
    rw [app_run hg ho hfl hb] at h2
    have hvs : appV C o t y ⟨s.n, upd s.env x (s.env z), s.sto⟩ = appV C o t y s := appV_congr (upd_ne _ _ htx) (upd_ne _ _ hyx) (fun _ _ => rfl) (fun _ _ => rfl)
    rw [hvs] at h2
    rw [bind_some'] at h2
    obtain ⟨⟨w, E⟩, hw, h2⟩ := Option.bind_eq_some_iff.1 h2
    cases w with
    | none =>
      simp only [appTo] at h2
      split at h2
      · rename_i hk
        cases hbd : inN d s.n with
        | false => rw [hbd] at h2; cases h2
        | true =>
          rw [hbd] at h2
          simp only [cond_true, Option.some.injEq] at h2
          subst h2
          refine ⟨⟨s.n, upd s.env d (.cell (.ref (siteKey d 0))), upd s.sto (siteKey d 0) (some E)⟩, ?_, ?_⟩
          · rw [app_run hg ho hfl hb, hw]
            simp only [Option.bind_some, appTo, hk, hbd, cond_true]
          · have he : upd s.env d (.cell (.ref (siteKey d 0))) z = s.env z := upd_ne _ _ hzd
            rw [mov_run hg hp hop hx (by have hq := hpz; rw [← he] at hq; exact hq)]
            simp only [hbx, if_true, he]
            rw [upd_comm _ _ _ hxd]
      · cases h2
    | some id =>
      simp only [appTo] at h2
      cases hbd : inN d s.n with
      | false => rw [hbd] at h2; cases h2
      | true =>
        rw [hbd] at h2
        simp only [cond_true, Option.some.injEq] at h2
        subst h2
        refine ⟨⟨s.n, upd (fun t => (s.env t).kill id) d (.cell (.ref id)), appS s.sto id E⟩, ?_, ?_⟩
        · rw [app_run hg ho hfl hb, hw]
          simp only [Option.bind_some, appTo, hbd, cond_true]
        · have he : upd (fun t => (s.env t).kill id) d (.cell (.ref id)) z = s.env z := (upd_ne _ _ hzd).trans (ptr_kill hpz id)
          rw [mov_run hg hp hop hx (by have hq := hpz; rw [← he] at hq; exact hq)]
          simp only [hbx, if_true, he]
          have hkill : (fun t => (upd s.env x (s.env z) t).kill id) = upd (fun t => (s.env t).kill id) x (s.env z) := by
            funext u
            by_cases hu : u = x
            · subst hu; rw [upd_same, upd_same, ptr_kill hpz]
            · rw [upd_ne _ _ hu, upd_ne _ _ hu]
          simp only [hkill]
          rw [upd_comm _ _ _ hxd]
  · cases h1

theorem swap_app_mov (hg : ∀ o ∈ ops, o.guard = none) {i j : Nat} {p o : Oper} (hp : p ∈ ops) (ho : o ∈ ops) {s s1 s2 : St} (l : Live s) (I : MInv ops s0 s) (hc : commM C ops s0 o p = true)
    (h1 : (stepT C ops i p s).run callF some = some s1) (h2 : (stepT C ops j o s1).run callF some = some s2) :
    ∃ s', (stepT C ops j o s).run callF some = some s' ∧ (stepT C ops i p s').run callF some = some s2 := by
  obtain ⟨x, z, t, y, d, hop, hx, hb, hfl, hpt, hz, hxo, hxd⟩ := commM_at hc
  obtain ⟨hod, hrd⟩ := appOp_dst hb
  have htx : t ≠ x := fun e => hxo (e ▸ hrd t (by simp) ops)
  have hyx : y ≠ x := fun e => hxo (e ▸ hrd y (by simp) ops)
  have hzd : z ≠ d := fun e => hz (e ▸ dst_mem hp hod)
  have hpz : ptrSlot (s.env z) = true := by rw [I z hz hpt]; exact hpt
  have hvs : appV C p t y ⟨s.n, upd s.env x (s.env z), s.sto⟩ = appV C p t y s := appV_congr (upd_ne _ _ htx) (upd_ne _ _ hyx) (fun _ _ => rfl) (fun _ _ => rfl)
  rw [app_run hg hp hfl hb] at h1
  rw [bind_some'] at h1
  obtain ⟨⟨w, E⟩, hw, h1⟩ := Option.bind_eq_some_iff.1 h1
  cases w with
  | none =>
    simp only [appTo] at h1
    split at h1
    · rename_i hk
      cases hbd : inN d s.n with
      | false => rw [hbd] at h1; cases h1
      | true =>
        rw [hbd] at h1
        simp only [cond_true, Option.some.injEq] at h1
        subst h1
        have he : upd s.env d (.cell (.ref (siteKey d 0))) z = s.env z := upd_ne _ _ hzd
        rw [mov_run hg ho hop hx (by have hq := hpz; rw [← he] at hq; exact hq)] at h2
        split at h2
        · rename_i hbx
          simp only [Option.some.injEq, he] at h2
          subst h2
          refine ⟨⟨s.n, upd s.env x (s.env z), s.sto⟩, by rw [mov_run hg ho hop hx hpz, if_pos hbx], ?_⟩
          rw [app_run hg hp hfl hb, hvs, hw]
          simp only [Option.bind_some, appTo, hk, hbd, cond_true]
          rw [upd_comm _ _ _ hxd]
        · cases h2
    · cases h1
  | some id =>
    simp only [appTo] at h1
    cases hbd : inN d s.n with
    | false => rw [hbd] at h1; cases h1
    | true =>
      rw [hbd] at h1
      simp only [cond_true, Option.some.injEq] at h1
      subst h1
      have he : upd (fun t => (s.env t).kill id) d (.cell (.ref id)) z = s.env z := (upd_ne _ _ hzd).trans (ptr_kill hpz id)
      rw [mov_run hg ho hop hx (by have hq := hpz; rw [← he] at hq; exact hq)] at h2
      split at h2
      · rename_i hbx
        simp only [Option.some.injEq, he] at h2
        subst h2
        refine ⟨⟨s.n, upd s.env x (s.env z), s.sto⟩, by rw [mov_run hg ho hop hx hpz, if_pos hbx], ?_⟩
        rw [app_run hg hp hfl hb, hvs, hw]
        simp only [Option.bind_some, appTo, hbd, cond_true]
        have hkill : (fun t => (upd s.env x (s.env z) t).kill id) = upd (fun t => (s.env t).kill id) x (s.env z) := by
          funext u
          by_cases hu : u = x
          · subst hu; rw [upd_same, upd_same, ptr_kill hpz]
          · rw [upd_ne _ _ hu, upd_ne _ _ hu]
        simp only [hkill]
        rw [upd_comm _ _ _ hxd]
      · cases h2

theorem minv_go (hg : ∀ o ∈ ops, o.guard = none) {i : Nat} {o : Oper} (ho : o ∈ ops) (hq : (quietOp C o || storeOp C o || ((appOp o).isSome && flatApp C o)) = true) {s s1 : St} (I : MInv ops s0 s) (h : (stepT C ops i o s).run callF some = some s1) : MInv ops s0 s1 := by
  simp only [Bool.or_eq_true, Bool.and_eq_true] at hq
  rcases hq with hq | ⟨ha, hfl⟩
  · intro t ht hpt
    exact (step_keep ho (by simpa using hq) h t ht).trans (I t ht hpt)
  · obtain ⟨⟨t, y, d⟩, ha⟩ := Option.isSome_iff_exists.1 ha
    obtain ⟨hod, _⟩ := appOp_dst ha
    have hd := dst_mem ho hod
    rw [app_run hg ho hfl ha, bind_some'] at h
    obtain ⟨⟨w, E⟩, hw, h⟩ := Option.bind_eq_some_iff.1 h
    intro u hu hpu
    have hne : u ≠ d := fun e => hu (e ▸ hd)
    cases w with
    | none =>
      simp only [appTo] at h
      split at h
      · cases hbd : inN d s.n with
        | false => rw [hbd] at h; cases h
        | true =>
          rw [hbd] at h
          simp only [cond_true, Option.some.injEq] at h
          subst h
          exact (upd_ne _ _ hne).trans (I u hu hpu)
      · cases h
    | some id =>
      simp only [appTo] at h
      cases hbd : inN d s.n with
      | false => rw [hbd] at h; cases h
      | true =>
        rw [hbd] at h
        simp only [cond_true, Option.some.injEq] at h
        subst h
        show upd (fun t => (s.env t).kill id) d (.cell (.ref id)) u = _
        rw [upd_ne _ _ hne]
        show (s.env u).kill id = _
        rw [I u hu hpu, ptr_kill hpu]
end

/-! ### Beside a call to which a value is given away -/
section
variable {C : Cfg}
theorem capRo_sto (s : St) (c : Cap) : capRo s c = capRo ⟨0, fun _ => .undef, s.sto⟩ c := by cases c <;> rfl
theorem capsRo_sto (s : St) : ∀ cs : List Cap, capsRo s cs = capsRo ⟨0, fun _ => .undef, s.sto⟩ cs
  | [] => rfl
  | c :: cs => by simp only [capsRo]; rw [capRo_sto s c, capsRo_sto s cs]
theorem toArgVal_sto (s : St) (t : TypeId) (v : Comp) : toArgVal C s t v = toArgVal C ⟨0, fun _ => .undef, s.sto⟩ t v := by
  unfold toArgVal
  split
  · rfl
  · split
    · rename_i f caps
      show (capsRo s caps).map _ = (capsRo _ caps).map _
      rw [capsRo_sto s caps]
    · rfl
    · rfl
    · rfl
theorem toArgsL_sto (s : St) (i : Nat) (a : Arg) : ∀ (n : Nat) (ts : List TypeId) (vs : List Comp), toArgsL C s i a n ts vs = toArgsL C ⟨0, fun _ => .undef, s.sto⟩ i a n ts vs
  | _, _, [] => by simp [toArgsL]
  | _, [], v :: vs => by simp [toArgsL]
  | n, t :: ts, v :: vs => by simp only [toArgsL]; rw [toArgVal_sto s t v, toArgsL_sto s i a (n + 1) ts vs]
theorem argDeep_sto (s : St) (vs : List Comp) (caps : List Cap) : argDeep s vs caps = argDeep ⟨0, fun _ => .undef, s.sto⟩ vs caps := by
  have hc : ∀ c, capDeep s c = capDeep ⟨0, fun _ => .undef, s.sto⟩ c := fun c => by cases c <;> rfl
  have hcc : ∀ cs : List Cap, cs.any (capDeep s) = cs.any (capDeep ⟨0, fun _ => .undef, s.sto⟩) := fun cs => by rw [show capDeep s = capDeep ⟨0, fun _ => .undef, s.sto⟩ from funext hc]
  have hd : ∀ c, cellDeep s c = cellDeep ⟨0, fun _ => .undef, s.sto⟩ c := fun c => by
    cases c <;> first | rfl | exact hc _ | exact hcc _
  unfold argDeep
  rw [hcc caps]
  have hv : ∀ v : Comp, v.cells.any (cellDeep s) = v.cells.any (cellDeep ⟨0, fun _ => .undef, s.sto⟩) := fun v => by rw [show cellDeep s = cellDeep ⟨0, fun _ => .undef, s.sto⟩ from funext hd]
  simp only [hv]

theorem kill_up {s : St} {x : Tmp} {v : Slot} (hv : ptrSlot v = true) (id : Nat) : (fun t => (upd s.env x v t).kill id) = upd (fun t => (s.env t).kill id) x v := by
  funext u
  by_cases hu : u = x
  · subst hu; rw [upd_same, upd_same, ptr_kill hv]
  · rw [upd_ne _ _ hu, upd_ne _ _ hu]
theorem dropAll_up {x : Tmp} {v : Slot} (hv : ptrSlot v = true) : ∀ {ids : List Nat} {s : St}, (⟨s.n, upd s.env x v, s.sto⟩ : St).dropAll ids = ⟨(s.dropAll ids).n, upd (s.dropAll ids).env x v, (s.dropAll ids).sto⟩
  | [], s => rfl
  | id :: ids, s => by
    have e : (⟨s.n, upd s.env x v, s.sto⟩ : St).drop id = ⟨(s.drop id).n, upd (s.drop id).env x v, (s.drop id).sto⟩ := by
      show (⟨s.n, fun t => (upd s.env x v t).kill id, _⟩ : St) = ⟨s.n, upd (fun t => (s.env t).kill id) x v, _⟩
      rw [kill_up hv]
      rfl
    show St.dropAll (St.drop ⟨s.n, upd s.env x v, s.sto⟩ id) ids = _
    rw [e]
    exact dropAll_up hv (s := s.drop id)
theorem dropAll_ptr {z : Tmp} : ∀ {ids : List Nat} {s : St}, ptrSlot (s.env z) = true → (s.dropAll ids).env z = s.env z
  | [], s, _ => rfl
  | id :: ids, s, h => by
    have e : (s.drop id).env z = s.env z := ptr_kill h id
    show ((s.drop id).dropAll ids).env z = _
    rw [dropAll_ptr (by rw [e]; exact h), e]
theorem compsOf_up {s : St} {x : Tmp} {v : Slot} : ∀ {xs : List Operand}, (∀ t, Operand.tmp t ∈ xs → t ≠ x) → compsOf ⟨s.n, upd s.env x v, s.sto⟩ xs = compsOf s xs
  | [], _ => rfl
  | y :: ys, h => by
    have hy : St.ev ⟨s.n, upd s.env x v, s.sto⟩ y = s.ev y := by
      cases y with
      | tmp t => exact upd_ne _ _ (h t (by simp))
      | _ => rfl
    simp only [compsOf, hy]
    rw [compsOf_up (fun t ht => h t (by simp [ht]))]

variable {callF : FuncId → (t : Ty) → List Arg → Option t.den}
theorem callGive_up {s : St} {o : Oper} {f : FuncId} {vs : List Comp} {i : Nat} {x d : Tmp} {v : Slot} (hv : ptrSlot v = true) (hd : o.dst = some d) (hxd : x ≠ d) :
    (callGive C ⟨s.n, upd s.env x v, s.sto⟩ o f vs [] i).run callF some = ((callGive C s o f vs [] i).run callF some).map fun t => ⟨t.n, upd t.env x v, t.sto⟩ := by
  unfold callGive
  cases C.P.funcs[f]? with
  | none => rfl
  | some fn =>
    cases vs[i]? with
    | none => rfl
    | some w =>
      simp only
      cases (fn.params.toList[i]?).bind C.ty with
      | none => rfl
      | some T0 =>
        simp only
        split
        · cases ofCellsAll s.sto .give T0 w.cells with
          | none => rfl
          | some y =>
            obtain ⟨y, ids⟩ := y
            simp only
            cases nodup ids with
            | false => rfl
            | true =>
              simp only [cond_true]
              rw [dropAll_up hv]
              rw [toArgsL_sto ⟨_, upd _ x v, _⟩, toArgsL_sto (s.dropAll ids), argDeep_sto ⟨_, upd _ x v, _⟩, argDeep_sto (s.dropAll ids)]
              simp only [capsRo]
              cases toArgsL C ⟨0, fun _ => .undef, (s.dropAll ids).sto⟩ i (.give T0 y) 0 fn.params.toList (vs.map (killAll · ids)) with
              | none => rfl
              | some args =>
                cases ((some [] : Option (List Cap)).bind (·.mapM capArg)) with
                | none => rfl
                | some cargs =>
                  cases resTy C fn.resultTypes.toList with
                  | none => rfl
                  | some rt =>
                    simp only
                    split
                    · rfl
                    · simp only [T.run]
                      cases callF f rt (args ++ cargs) with
                      | none => rfl
                      | some r =>
                        simp only [Option.bind_some]
                        generalize regSlot (C.sig f).own (Nat.beq fn.resultTypes.size 1) (siteKey (o.dst.getD 0)) rt r = rs
                        obtain ⟨u, es⟩ := rs
                        simp only [T.run_bind, allocAll_run, hd]
                        cases allocO (s.dropAll ids).sto es with
                        | none => rfl
                        | some σ =>
                          simp only [Option.bind_some, St.put]
                          cases inN d (s.dropAll ids).n with
                          | false => rfl
                          | true =>
                            simp only [cond_true, T.run_ret, Option.map_some]
                            rw [upd_comm _ _ _ hxd]
        · rfl
theorem callGive_ptr {s t : St} {o : Oper} {f : FuncId} {vs : List Comp} {i : Nat} {d : Tmp} (hd : o.dst = some d) (h : (callGive C s o f vs [] i).run callF some = some t) : t.n = s.n ∧ ∀ z, z ≠ d → ptrSlot (s.env z) = true → t.env z = s.env z := by
  unfold callGive at h
  split at h
  · split at h
    · split at h
      · split at h
        · rename_i y ids hof
          cases hnd : nodup ids with
          | false => rw [hnd] at h; cases h
          | true =>
            rw [hnd] at h
            simp only [cond_true] at h
            split at h
            · split at h
              · cases h
              · simp only [T.run] at h
                rw [Option.bind_eq_some_iff] at h
                obtain ⟨r, _, h⟩ := h
                generalize regSlot _ _ _ _ r = rs at h
                obtain ⟨u, es⟩ := rs
                simp only [T.run_bind, allocAll_run, hd] at h
                rw [Option.bind_eq_some_iff] at h
                obtain ⟨σ, _, h⟩ := h
                simp only [St.put] at h
                cases hb : inN d (s.dropAll ids).n with
                | false => rw [hb] at h; cases h
                | true =>
                  rw [hb] at h
                  simp only [cond_true, T.run_ret, Option.some.injEq] at h
                  subst h
                  exact ⟨dropAll_n, fun z hz hp => (upd_ne _ _ hz).trans (dropAll_ptr hp)⟩
            · cases h
        · cases h
      · cases h
    · cases h
  · cases h

variable {ops : List Oper} {s0 : St}
theorem give_run (hg : ∀ o ∈ ops, o.guard = none) {j : Nat} {o : Oper} (ho : o ∈ ops) {d : Tmp} (hgo : giveOp C o = some d) : ∃ (f : FuncId) (args : List Operand) (i : Nat), o.dst = some d ∧ (∀ t, Operand.tmp t ∈ args → ∀ ops : List Oper, t ∈ readsOf ops o) ∧
    ∀ s : St, stepT C ops j o s = match compsOf s args with
      | some vs => callGive C s o f vs [] i
      | none => .fail := by
  unfold giveOp at hgo
  split at hgo
  · rename_i f args ats dd h1 h2
    split at hgo
    · rename_i hc
      simp only [Option.some.injEq] at hgo
      subst hgo
      simp only [Bool.and_eq_true] at hc
      cases hio : (C.sig f).io with
      | nil => rw [hio] at hc; simp at hc
      | cons i r =>
        refine ⟨f, args.toList, i, h2, fun t ht ops' => ?_, fun s => ?_⟩
        · unfold readsOf
          refine List.mem_append_left _ (List.mem_filterMap.2 ⟨.tmp t, ?_, rfl⟩)
          rw [h1]
          simp only [Op.operands]
          simp [Call.operands, ht]
        · have hgu := hg o ho
          unfold stepT
          simp only [hgu, isGuard_no hg, cond_false, T.bind_ret']
          obtain ⟨dst, op, type, pos, after, guard⟩ := o
          simp only at h1 h2
          subst h1 h2
          have hl : (C.sig f).lend = none := by simpa using hc.1
          simp only [opT, St.ev]
          cases compsOf s args.toList with
          | none => rfl
          | some vs => simp only [callOp, hl, hio]
    · cases hgo
  · cases hgo
theorem give_up (hg : ∀ o ∈ ops, o.guard = none) {j : Nat} {o : Oper} (ho : o ∈ ops) {d : Tmp} (hgo : giveOp C o = some d) {s : St} {x : Tmp} {v : Slot} (hv : ptrSlot v = true) (hx : x ∉ readsOf ops o) (hxd : x ≠ d) :
    (stepT C ops j o ⟨s.n, upd s.env x v, s.sto⟩).run callF some = ((stepT C ops j o s).run callF some).map fun t => ⟨t.n, upd t.env x v, t.sto⟩ := by
  obtain ⟨f, args, i, hd, hr, hs⟩ := give_run hg ho hgo (j := j)
  rw [hs, hs, compsOf_up (fun t ht (e : t = x) => hx (by rw [← e]; exact hr t ht ops))]
  cases compsOf s args with
  | none => rfl
  | some vs => exact callGive_up hv hd hxd
theorem give_ptr (hg : ∀ o ∈ ops, o.guard = none) {j : Nat} {o : Oper} (ho : o ∈ ops) {d : Tmp} (hgo : giveOp C o = some d) {s t : St} (h : (stepT C ops j o s).run callF some = some t) : o.dst = some d ∧ t.n = s.n ∧ ∀ z, z ≠ d → ptrSlot (s.env z) = true → t.env z = s.env z := by
  obtain ⟨f, args, i, hd, hr, hs⟩ := give_run hg ho hgo (j := j)
  rw [hs] at h
  cases hc : compsOf s args with
  | none => rw [hc] at h; cases h
  | some vs => rw [hc] at h; exact ⟨hd, callGive_ptr hd h⟩

theorem commG_at {a b : Oper} (h : commG C ops s0 a b = true) : ∃ x z d, a.op = .move (.tmp z) ∧ a.dst = some x ∧ giveOp C b = some d ∧ ptrSlot (s0.env z) = true ∧ z ∉ dstsOf ops ∧ x ∉ readsOf ops b ∧ x ≠ d := by
  unfold commG at h
  split at h
  · rename_i z x d h1 h2 h3
    simp only [Bool.and_eq_true, Bool.not_eq_true'] at h
    obtain ⟨⟨⟨k2, k3⟩, k4⟩, k5⟩ := h
    refine ⟨x, z, d, h1, h2, h3, k2, by simpa using k3, by simpa using k4, fun e => ?_⟩
    subst e
    simp at k5
  · cases h
theorem giveOp_dst {o : Oper} {d : Tmp} (h : giveOp C o = some d) : o.dst = some d := by
  unfold giveOp at h
  split at h
  · split at h
    · simp only [Option.some.injEq] at h
      subst h
      assumption
    · cases h
  · cases h

theorem swap_mov_give (hg : ∀ o ∈ ops, o.guard = none) {i j : Nat} {p o : Oper} (hp : p ∈ ops) (ho : o ∈ ops) {s s1 s2 : St} (I : MInv ops s0 s) (hc : commG C ops s0 p o = true)
    (h1 : (stepT C ops i p s).run callF some = some s1) (h2 : (stepT C ops j o s1).run callF some = some s2) :
    ∃ s', (stepT C ops j o s).run callF some = some s' ∧ (stepT C ops i p s').run callF some = some s2 := by
  obtain ⟨x, z, d, hop, hx, hb, hpt, hz, hxo, hxd⟩ := commG_at hc
  have hzd : z ≠ d := fun e => hz (e ▸ dst_mem ho (giveOp_dst hb))
  have hpz : ptrSlot (s.env z) = true := by rw [I z hz hpt]; exact hpt
  rw [mov_run hg hp hop hx hpz] at h1
  split at h1
  · rename_i hbx
    simp only [Option.some.injEq] at h1
    subst h1
    rw [give_up hg ho hb hpz hxo hxd] at h2
    obtain ⟨t, ht, rfl⟩ := Option.map_eq_some_iff.1 h2
    obtain ⟨_, hn, hk⟩ := give_ptr hg ho hb ht
    refine ⟨t, ht, ?_⟩
    have he := hk z hzd hpz
    rw [mov_run hg hp hop hx (by rw [he]; exact hpz), if_pos (by rw [hn]; exact hbx), he]
  · cases h1
theorem swap_give_mov (hg : ∀ o ∈ ops, o.guard = none) {i j : Nat} {p o : Oper} (hp : p ∈ ops) (ho : o ∈ ops) {s s1 s2 : St} (I : MInv ops s0 s) (hc : commG C ops s0 o p = true)
    (h1 : (stepT C ops i p s).run callF some = some s1) (h2 : (stepT C ops j o s1).run callF some = some s2) :
    ∃ s', (stepT C ops j o s).run callF some = some s' ∧ (stepT C ops i p s').run callF some = some s2 := by
  obtain ⟨x, z, d, hop, hx, hb, hpt, hz, hxo, hxd⟩ := commG_at hc
  have hzd : z ≠ d := fun e => hz (e ▸ dst_mem hp (giveOp_dst hb))
  have hpz : ptrSlot (s.env z) = true := by rw [I z hz hpt]; exact hpt
  obtain ⟨_, hn, hk⟩ := give_ptr hg hp hb h1
  have he := hk z hzd hpz
  rw [mov_run hg ho hop hx (by rw [he]; exact hpz)] at h2
  split at h2
  · rename_i hbx
    simp only [Option.some.injEq, he] at h2
    refine ⟨⟨s.n, upd s.env x (s.env z), s.sto⟩, by rw [mov_run hg ho hop hx hpz, if_pos (by rw [← hn]; exact hbx)], ?_⟩
    rw [give_up hg hp hb hpz hxo hxd, h1, Option.map_some, h2]
  · cases h2
end

/-- By the pointers that are copied. -/
def waysM {C : Cfg} {callF : FuncId → (t : Ty) → List Arg → Option t.den} (ops : Array Oper) (s0 : St) (hg : ∀ o ∈ ops.toList, o.guard = none) (hq : ∀ o ∈ ops.toList, (quietOp C o || storeOp C o || ((appOp o).isSome && flatApp C o) || (giveOp C o).isSome) = true) : Ways C callF ops :=
  have mem : ∀ {i : Nat} {o : Oper}, ops[i]? = some o → o ∈ ops.toList := fun h => Array.mem_toList_iff.2 (Array.mem_of_getElem? h)
  ⟨commZ C ops.toList s0, MInv ops.toList s0, fun _ => false, (fun h => by cases h), (fun h => by cases h), fun {s s1 o j} hI _ ho h => by
    cases hgv : giveOp C o with
    | none =>
      have := hq _ (mem ho)
      rw [hgv] at this
      exact minv_go hg (mem ho) (by simpa using this) hI h
    | some d =>
      obtain ⟨hd, _, hk⟩ := give_ptr hg (mem ho) hgv h
      intro u hu hpu
      have hne : u ≠ d := fun e => hu (e ▸ dst_mem (mem ho) hd)
      rw [hk u hne (by rw [hI u hu hpu]; exact hpu)]
      exact hI u hu hpu, fun {i j p o s s1 s2} l hI hp ho hcm h1 h2 => by
    unfold commZ at hcm
    simp only [Bool.or_eq_true] at hcm
    rcases hcm with (((hcm | hcm) | hcm) | hcm) | hcm
    · exact step_swap l hcm h1 h2
    · exact swap_mov_app hg (mem hp) (mem ho) l hI hcm h1 h2
    · exact swap_app_mov hg (mem hp) (mem ho) l hI hcm h1 h2
    · exact swap_mov_give hg (mem hp) (mem ho) hI hcm h1 h2
    · exact swap_give_mov hg (mem hp) (mem ho) hI hcm h1 h2⟩
end Go.Flat
