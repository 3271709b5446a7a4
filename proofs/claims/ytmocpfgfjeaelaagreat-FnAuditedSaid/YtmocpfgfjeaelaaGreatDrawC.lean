/- What copies a slot or looks into a box, beside a call that is lent another box. No condition. -/
import Derived.Test.YtmocpfgfjeaelaaGreatDrawB
set_option linter.unusedVariables false
set_option linter.unusedSimpArgs false
namespace Go.Flat

section
variable {C : Cfg} {callF : FuncId → (t : Ty) → List Arg → Option t.den}

theorem callBox_up {s : St} {o : Oper} {f : FuncId} {vs : List Comp} {i id : Nat} {x d : Tmp} {v : Slot} {U : Ty} {cs : List Cell} (hs : s.sto id = some (.box (some U) cs)) (hob : U.ob = false) (hd : o.dst = some d) (hxd : x ≠ d) :
    (callBox C ⟨s.n, upd s.env x v, s.sto⟩ o f vs [] i id).run callF some = ((callBox C s o f vs [] i id).run callF some).map fun t => ⟨t.n, upd t.env x v, t.sto⟩ := by
  unfold callBox
  cases C.P.funcs[f]? with
  | none => rfl
  | some fn =>
    simp only [hs]
    cases hof : ofCellsAll s.sto (bif U.ob then .give else .keep) U cs with
    | none => rfl
    | some y =>
      obtain ⟨y, ids⟩ := y
      simp only
      cases hb : (nodup ids && (U.ob || ids.isEmpty)) with
      | false => rfl
      | true =>
        simp only [Bool.and_eq_true, hob, Bool.false_or] at hb
        obtain rfl : ids = [] := by simpa using hb.2
        simp only [cond_true]
        have hT : ∀ a ts ws, toArgsL C ((St.dropAll ⟨s.n, upd s.env x v, s.sto⟩ []).forget id) i a 0 ts ws = toArgsL C ((s.dropAll []).forget id) i a 0 ts ws := fun a ts ws => (toArgsL_sto ((St.dropAll ⟨s.n, upd s.env x v, s.sto⟩ []).forget id) i a 0 ts ws).trans (toArgsL_sto ((s.dropAll []).forget id) i a 0 ts ws).symm
        have hD : ∀ ws, argDeep ((St.dropAll ⟨s.n, upd s.env x v, s.sto⟩ []).forget id) ws [] = argDeep ((s.dropAll []).forget id) ws [] := fun ws => (argDeep_sto ((St.dropAll ⟨s.n, upd s.env x v, s.sto⟩ []).forget id) ws []).trans (argDeep_sto ((s.dropAll []).forget id) ws []).symm
        rw [hT]
        simp only [capsRo]
        cases toArgsL C ((s.dropAll []).forget id) i (.ioBox U y) 0 fn.params.toList (vs.map fun v => (killAll v []).forget id) with
        | none => rfl
        | some args =>
          cases ((some [] : Option (List Cap)).bind (·.mapM capArg)) with
          | none => rfl
          | some cargs =>
            cases resTy C fn.resultTypes.toList with
            | none => rfl
            | some rt =>
              simp only
              by_cases hA : argDeep ((s.dropAll []).forget id) (vs.map fun v => (killAll v []).forget id) [] = true
              · rw [if_pos hA, if_pos ((hD _).trans hA)]
                rfl
              · rw [if_neg hA, if_neg (fun h => hA ((hD _).symm.trans h))]
                simp only [T.run]
                cases callF f (.pair rt U) (args ++ cargs) with
                | none => rfl
                | some r =>
                  simp only [Option.bind_some]
                  generalize regCells U.ob (ioKey id) U r.2 0 = rc
                  obtain ⟨bc, es2, jj⟩ := rc
                  generalize regSlot true (Nat.beq fn.resultTypes.size 1) (siteKey (o.dst.getD 0)) rt r.1 = rs
                  obtain ⟨u, es⟩ := rs
                  simp only [T.run_bind, allocAll_run, hd, St.dropAll]
                  cases allocO (upd s.sto id (some (.box none (List.replicate U.sz .undef)))) (es2 ++ es) with
                  | none => rfl
                  | some σ =>
                    simp only [Option.bind_some, St.put]
                    cases inN d s.n with
                    | false => rfl
                    | true =>
                      simp only [cond_true, T.run_ret, Option.map_some]
                      rw [upd_comm _ _ _ hxd]
theorem callBox_env {s t : St} {o : Oper} {f : FuncId} {vs : List Comp} {i id : Nat} {d : Tmp} {U : Ty} {cs : List Cell} (hs : s.sto id = some (.box (some U) cs)) (hob : U.ob = false) (hd : o.dst = some d) (h : (callBox C s o f vs [] i id).run callF some = some t) :
    t.n = s.n ∧ (∀ z, z ≠ d → t.env z = s.env z) ∧ (∀ j e, j ≠ id → s.sto j = some e → t.sto j = some e) ∧ ∃ cs', t.sto id = some (.box (some U) cs') := by
  unfold callBox at h
  split at h
  · rename_i fn U0 cs0 hfn hsto
    rw [hs] at hsto
    cases hsto
    split at h
    · rename_i y ids hof
      cases hb : (nodup ids && (U.ob || ids.isEmpty)) with
      | false => rw [hb] at h; cases h
      | true =>
        rw [hb] at h
        simp only [Bool.and_eq_true, hob, Bool.false_or] at hb
        obtain rfl : ids = [] := by simpa using hb.2
        simp only [cond_true] at h
        split at h
        · split at h
          · cases h
          · simp only [T.run] at h
            rw [Option.bind_eq_some_iff] at h
            obtain ⟨r, _, h⟩ := h
            generalize regCells U.ob (ioKey id) U r.2 0 = rc at h
            obtain ⟨bc, es2, jj⟩ := rc
            generalize regSlot true _ _ _ r.1 = rs at h
            obtain ⟨u, es⟩ := rs
            simp only [T.run_bind, allocAll_run, hd, St.dropAll] at h
            rw [Option.bind_eq_some_iff] at h
            obtain ⟨σ, hσ, h⟩ := h
            simp only [St.put] at h
            cases hbd : inN d s.n with
            | false => rw [hbd] at h; cases h
            | true =>
              rw [hbd] at h
              simp only [cond_true, T.run_ret, Option.some.injEq] at h
              subst h
              refine ⟨rfl, fun z hz => upd_ne _ _ hz, fun j e hj he => ?_, bc, upd_same _ _ _⟩
              show upd σ id _ j = _
              rw [upd_ne _ _ hj]
              exact allocO_mono hσ j e ((upd_ne _ _ hj).trans he)
        · cases h
    · cases h
  · cases h
end

section
variable {C : Cfg} {callF : FuncId → (t : Ty) → List Arg → Option t.den} {ops : List Oper} {s0 : St}

theorem compsOf_get {s : St} {t : Tmp} : ∀ {xs : List Operand} {vs : List Comp} {i : Nat}, compsOf s xs = some vs → xs[i]? = some (.tmp t) → ∃ c, vs[i]? = some c ∧ s.env t = .one c
  | [], vs, i, h, hi => by simp at hi
  | x :: xs, vs, i, h, hi => by
    simp only [compsOf] at h
    split at h
    · rename_i c r hc hr
      simp only [Option.some.injEq] at h
      subst h
      cases i with
      | zero => simp at hi; subst hi; exact ⟨c, rfl, hc⟩
      | succ i => exact compsOf_get (i := i) hr (by simpa using hi)
    · cases h

theorem box_run (hg : ∀ o ∈ ops, o.guard = none) {j : Nat} {o : Oper} (ho : o ∈ ops) {d t : Tmp} (hb : boxOp C o = some (d, t)) : ∃ (f : FuncId) (fn : Func) (args : List Operand) (i : Nat), o.dst = some d ∧ (∀ u, Operand.tmp u ∈ args → ∀ ops : List Oper, u ∈ readsOf ops o) ∧ args[i]? = some (.tmp t) ∧ C.P.funcs[f]? = some fn ∧ (fn.params.toList[i]?).bind C.ty = none ∧
    ∀ s : St, stepT C ops j o s = match compsOf s args with
      | some vs => (match vs[i]? with
        | some (.cell (.ptr id 0)) => callBox C s o f vs [] i id
        | some (.cell (.inn id j off)) => callInn C s o f vs i id j off
        | _ => callLend C s o f vs [] i)
      | none => .fail := by
  unfold boxOp at hb
  split at hb
  · rename_i f args ats dd h1 h2
    split at hb
    · rename_i i fn hl hfn
      split at hb
      · rename_i u hu
        cases hc : ((C.sig f).isMk || ((fn.params.toList[i]?).bind C.ty).isSome) with
        | true => rw [hc] at hb; cases hb
        | false =>
          rw [hc] at hb
          simp only [cond_false, Option.some.injEq, Prod.mk.injEq] at hb
          obtain ⟨rfl, rfl⟩ := hb
          simp only [Bool.or_eq_false_iff] at hc
          refine ⟨f, fn, args.toList, i, h2, fun t ht ops' => ?_, hu, hfn, by simpa using hc.2, fun s => ?_⟩
          · unfold readsOf
            refine List.mem_append_left _ (List.mem_filterMap.2 ⟨.tmp t, ?_, rfl⟩)
            rw [h1]
            simp only [Op.operands]
            simp [Call.operands, ht]
          · have hgu := hg o ho
            unfold stepT
            simp only [hgu, isGuard_no hg, cond_false, T.bind_ret']
            obtain ⟨dst, op, type, pos, after, guard⟩ := o
            simp only at h1 h2
            subst h1 h2
            simp only [opT, St.ev]
            cases compsOf s args.toList with
            | none => rfl
            | some vs =>
              simp only [callOp, hl, hc.1, cond_false]
              cases vs[i]? with
              | none => rfl
              | some c => cases c with
                | agg _ => rfl
                | cell c =>
                  cases c <;> first | rfl | (rename_i id off; cases off <;> rfl)
      · cases hb
    · cases hb
  · cases hb

/-- What holds in the region: the slots that it does not write; those that it copies pointers to; the kinds of its boxes. -/
def WInv (ops : List Oper) (s0 s : St) : Prop :=
  (∀ t, t ∉ dstsOf ops → s.env t = s0.env t) ∧
  (∀ t, s.env t = s0.env t ∨ ∃ o ∈ ops, o.dst = some t ∧ ∀ z, o.op = .move (.tmp z) → z ∉ dstsOf ops → ptrSlot (s0.env z) = true → s.env t = s0.env z) ∧
  (∀ j T cs, s0.sto j = some (.box (some T) cs) → ∃ cs', s.sto j = some (.box (some T) cs'))

theorem slotOk_at {v : Slot} {bad : Option Nat} (h : slotOk s0 bad v = true) : v = .one (.cell .undef) ∨ ∃ id T cs, v = .one (.cell (.ptr id 0)) ∧ s0.sto id = some (.box (some T) cs) ∧ T.ob = false ∧ bad ≠ some id := by
  unfold slotOk at h
  split at h
  · rename_i id
    simp only [Bool.and_eq_true, Bool.not_eq_true'] at h
    obtain ⟨h1, h2⟩ := h
    split at h1
    · rename_i T cs hs
      exact .inr ⟨id, T, cs, rfl, hs, by simpa using h1, by simpa using h2⟩
    · cases h1
  · exact .inl rfl
  · cases h

theorem cand_at {s : St} (I : WInv ops s0 s) {bad : Option Nat} {t : Tmp} (h : candOk ops s0 bad t = true) : slotOk s0 bad (s.env t) = true := by
  unfold candOk at h
  simp only [Bool.and_eq_true] at h
  rcases I.2.1 t with e | ⟨o, ho, hd, hm⟩
  · rw [e]; exact h.1
  · have := List.all_eq_true.1 h.2 o ho
    simp only [hd, beq_self_eq_true, Bool.not_true, Bool.false_or] at this
    split at this
    · rename_i z hz
      simp only [Bool.and_eq_true, Bool.not_eq_true'] at this
      obtain ⟨⟨k1, k2⟩, k3⟩ := this
      rw [hm z hz (by simpa using k1) k2]
      exact k3
    · cases this

/-- A call that is lent a box, where its slot leads to such a box. -/
theorem box_step (hg : ∀ o ∈ ops, o.guard = none) {j : Nat} {o : Oper} (ho : o ∈ ops) {d t : Tmp} (hb : boxOp C o = some (d, t)) {bad : Option Nat} (hc : candOk ops s0 bad t = true) {s s1 : St} (I : WInv ops s0 s) (h : (stepT C ops j o s).run callF some = some s1) :
    o.dst = some d ∧ ∃ (f : FuncId) (args : List Operand) (vs : List Comp) (i id : Nat) (T : Ty) (cs : List Cell), (∀ u, Operand.tmp u ∈ args → ∀ ops : List Oper, u ∈ readsOf ops o) ∧ compsOf s args = some vs ∧ s.sto id = some (.box (some T) cs) ∧ T.ob = false ∧ bad ≠ some id ∧ s.env t = .one (.cell (.ptr id 0)) ∧
      (callBox C s o f vs [] i id).run callF some = some s1 ∧ ∀ s' : St, compsOf s' args = some vs → (stepT C ops j o s').run callF some = (callBox C s' o f vs [] i id).run callF some := by
  obtain ⟨f, fn, args, i, hd, hr, ha, hfn, hpt, hs⟩ := box_run hg ho hb (j := j)
  refine ⟨hd, ?_⟩
  have h' := h
  rw [hs] at h'
  cases hvs : compsOf s args with
  | none => rw [hvs] at h'; cases h'
  | some vs =>
    rw [hvs] at h'
    simp only at h'
    obtain ⟨c, hc1, hc2⟩ := compsOf_get hvs ha
    have hok := cand_at I hc
    rw [hc2] at hok
    rcases slotOk_at hok with e | ⟨id, T, cs, e, h0, h1, h2⟩
    · exfalso
      cases e
      rw [hc1] at h'
      simp only [callLend, hfn, hc1, hpt] at h'
      cases h'
    · cases e
      rw [hc1] at h'
      obtain ⟨cs', hcs'⟩ := I.2.2 id T cs h0
      refine ⟨f, args, vs, i, id, T, cs', hr, hvs, hcs', h1, h2, hc2, h', fun s' hs' => ?_⟩
      rw [hs, hs']
      simp only [hc1]

theorem load_run (hg : ∀ o ∈ ops, o.guard = none) {i : Nat} {o : Oper} (ho : o ∈ ops) {ty : TypeId} {x z : Tmp} (h1 : o.op = .load ty (.tmp z)) (h2 : o.dst = some x) {s s1 : St} {id off : Nat} (hp : s.env z = .one (.cell (.ptr id off))) (h : (stepT C ops i o s).run callF some = some s1) :
    ∃ v e, s.sto id = some e ∧ inN x s.n = true ∧ s1 = ⟨s.n, upd s.env x v, s.sto⟩ ∧ ∀ s' : St, s'.env z = .one (.cell (.ptr id off)) → s'.sto id = some e → inN x s'.n = true → (stepT C ops i o s').run callF some = some ⟨s'.n, upd s'.env x v, s'.sto⟩ := by
  have hgo := hg o ho
  have hst : ∀ s : St, stepT C ops i o s = opT C o s := fun s => by
    unfold stepT
    simp only [hgo, isGuard_no hg, cond_false, T.bind_ret']
  rw [hst] at h
  obtain ⟨dst, op, type, pos, after, guard⟩ := o
  simp only at h1 h2
  subst h1 h2
  have htk : C.take (some x) ty = false := by
    cases htk : C.take (some x) ty with
    | false => rfl
    | true =>
      simp only [opT, St.ev, hp, htk, cond_true, takeT] at h
      split at h
      · rename_i hcc _; cases hcc
      · cases h
  simp only [opT, St.ev, hp, htk, cond_false] at h
  split at h
  · rename_i n agg p hsh hx
    cases hx
    simp only [St.cellsAt] at h
    cases hse : s.sto id with
    | none => rw [hse] at h; cases h
    | some e =>
      rw [hse] at h
      cases e with
      | box t cs =>
        simp only at h
        split at h
        · rename_i hle
          simp only [T.bind, T.run, St.put, T.run_bind, T.run_ret] at h
          cases hin : inN x s.n with
          | false => rw [hin] at h; cases h
          | true =>
            rw [hin] at h
            simp only [cond_true, T.run, Option.some.injEq] at h
            refine ⟨_, .box t cs, rfl, rfl, h.symm, fun s' hz hs' hin' => ?_⟩
            rw [hst]
            simp only [opT, St.ev, hz, hsh, htk, cond_false, St.cellsAt, hs', if_pos hle]
            simp only [T.bind, T.run, St.put, T.run_bind, T.run_ret, hin', cond_true]
        · cases h
      | arr _ _ _ => cases h
      | deep _ _ _ => cases h
  · cases h

theorem commW_at {a b : Oper} (h : commW C ops s0 a b = true) : ∃ x z d t, boxOp C b = some (d, t) ∧ a.dst = some x ∧ z ∉ dstsOf ops ∧ x ∉ readsOf ops b ∧ x ≠ d ∧
    ((a.op = .move (.tmp z) ∧ ptrSlot (s0.env z) = true ∧ candOk ops s0 none t = true) ∨ ∃ ty id off, a.op = .load ty (.tmp z) ∧ s0.env z = .one (.cell (.ptr id off)) ∧ candOk ops s0 (some id) t = true) := by
  unfold commW at h
  split at h
  · rename_i z x d t h1 h2 h3
    simp only [Bool.and_eq_true, Bool.not_eq_true'] at h
    obtain ⟨⟨⟨⟨k2, k3⟩, k4⟩, k5⟩, k6⟩ := h
    exact ⟨x, z, d, t, h3, h2, by simpa using k3, by simpa using k4, fun e => by subst e; simp at k5, .inl ⟨h1, k2, k6⟩⟩
  · rename_i ty z x d t h1 h2 h3
    simp only [Bool.and_eq_true, Bool.not_eq_true'] at h
    obtain ⟨⟨⟨⟨k1, k3⟩, k4⟩, k5⟩, k2⟩ := h
    split at k2
    · rename_i id off hz
      exact ⟨x, z, d, t, h3, h2, by simpa using k3, by simpa using k4, fun e => by subst e; simp at k5, .inr ⟨ty, id, off, h1, hz, k2⟩⟩
    · cases k2
  · cases h

/-- What such an operation does: a slot gets a value, whatever a call does with another box. -/
theorem look_run (hg : ∀ o ∈ ops, o.guard = none) {i : Nat} {p : Oper} (hp : p ∈ ops) {x z : Tmp} (hx : p.dst = some x) {s s1 : St} (I : WInv ops s0 s) (hz : z ∉ dstsOf ops) {bad : Option Nat}
    (hk : (p.op = .move (.tmp z) ∧ ptrSlot (s0.env z) = true) ∨ ∃ ty id off, p.op = .load ty (.tmp z) ∧ s0.env z = .one (.cell (.ptr id off)) ∧ bad = some id) (h : (stepT C ops i p s).run callF some = some s1) :
    ∃ v, s1 = ⟨s.n, upd s.env x v, s.sto⟩ ∧ inN x s.n = true ∧ ∀ s' : St, s'.env z = s.env z → (∀ j e, bad = some j → s.sto j = some e → s'.sto j = some e) → s'.n = s.n → (stepT C ops i p s').run callF some = some ⟨s'.n, upd s'.env x v, s'.sto⟩ := by
  have hez : s.env z = s0.env z := I.1 z hz
  rcases hk with ⟨hop, hpt⟩ | ⟨ty, id, off, hop, hsz, hbad⟩
  · rw [mov_run hg hp hop hx (by rw [hez]; exact hpt)] at h
    split at h
    · rename_i hin
      simp only [Option.some.injEq] at h
      refine ⟨s.env z, h.symm, hin, fun s' h1 _ h3 => ?_⟩
      rw [mov_run hg hp hop hx (by rw [h1, hez]; exact hpt), if_pos (by rw [h3]; exact hin), h1]
    · cases h
  · obtain ⟨v, e, k1, k2, k3, k4⟩ := load_run hg hp hop hx (hez.trans hsz) h
    exact ⟨v, k3, k2, fun s' h1 h2 h3 => k4 s' (h1.trans (hez.trans hsz)) (h2 id e hbad k1) (by rw [h3]; exact k2)⟩

/-- .. and back: run behind the call, it would have run ahead of it. -/
theorem look_back (hg : ∀ o ∈ ops, o.guard = none) {i : Nat} {p : Oper} (hp : p ∈ ops) {x z : Tmp} (hx : p.dst = some x) {s s' s2 : St} (hz : s'.env z = s.env z) (hez : s.env z = s0.env z) {bad : Option Nat}
    (hk : (p.op = .move (.tmp z) ∧ ptrSlot (s0.env z) = true) ∨ ∃ ty id off, p.op = .load ty (.tmp z) ∧ s0.env z = .one (.cell (.ptr id off)) ∧ bad = some id) (hsto : ∀ j e, bad = some j → s'.sto j = some e → s.sto j = some e) (hn : s'.n = s.n) (h : (stepT C ops i p s').run callF some = some s2) :
    ∃ v, s2 = ⟨s'.n, upd s'.env x v, s'.sto⟩ ∧ (stepT C ops i p s).run callF some = some ⟨s.n, upd s.env x v, s.sto⟩ := by
  rcases hk with ⟨hop, hpt⟩ | ⟨ty, id, off, hop, hsz, hbad⟩
  · rw [mov_run hg hp hop hx (by rw [hz, hez]; exact hpt)] at h
    split at h
    · rename_i hin
      simp only [Option.some.injEq] at h
      refine ⟨s'.env z, h.symm, ?_⟩
      rw [mov_run hg hp hop hx (by rw [hez]; exact hpt), if_pos (by rw [← hn]; exact hin), hz]
    · cases h
  · obtain ⟨v, e, k1, k2, k3, k4⟩ := load_run hg hp hop hx (hz.trans (hez.trans hsz)) h
    exact ⟨v, k3, k4 s (hez.trans hsz) (hsto id e hbad k1) (by rw [← hn]; exact k2)⟩

theorem swap_look_box (hg : ∀ o ∈ ops, o.guard = none) {i j : Nat} {p o : Oper} (hp : p ∈ ops) (ho : o ∈ ops) {s s1 s2 : St} (I : WInv ops s0 s) (hc : commW C ops s0 p o = true) (hI1 : WInv ops s0 s1)
    (h1 : (stepT C ops i p s).run callF some = some s1) (h2 : (stepT C ops j o s1).run callF some = some s2) :
    ∃ s', (stepT C ops j o s).run callF some = some s' ∧ (stepT C ops i p s').run callF some = some s2 := by
  obtain ⟨x, z, d, t, hb, hx, hz, hxo, hxd, hk⟩ := commW_at hc
  obtain ⟨bad, hcb, hk'⟩ : ∃ bad : Option Nat, candOk ops s0 bad t = true ∧ ((p.op = .move (.tmp z) ∧ ptrSlot (s0.env z) = true) ∨ ∃ ty id off, p.op = .load ty (.tmp z) ∧ s0.env z = .one (.cell (.ptr id off)) ∧ bad = some id) := by
    rcases hk with hk | ⟨ty, id, off, k1, k2, k3⟩
    · exact ⟨none, hk.2.2, .inl ⟨hk.1, hk.2.1⟩⟩
    · exact ⟨some id, k3, .inr ⟨ty, id, off, k1, k2, rfl⟩⟩
  obtain ⟨v, rfl, hin, hrun⟩ := look_run hg hp hx I hz hk' h1
  obtain ⟨hd, f, args, vs, i0, id, T, cs, hr, hvs, hs, hob, hne, henv, hcall, hagain⟩ := box_step hg ho hb hcb hI1 h2
  have hvs' : compsOf s args = some vs := by
    rw [← hvs]
    exact (compsOf_up (fun u hu (e : u = x) => hxo (by rw [← e]; exact hr u hu ops))).symm
  have hs' : s.sto id = some (.box (some T) cs) := hs
  rw [callBox_up hs' hob hd hxd] at hcall
  obtain ⟨s', hs2, rfl⟩ := Option.map_eq_some_iff.1 hcall
  obtain ⟨hn, hkeep, hsto, _⟩ := callBox_env hs' hob hd hs2
  have hzd : z ≠ d := fun e => hz (e ▸ dst_mem ho hd)
  refine ⟨s', by rw [hagain s hvs']; exact hs2, ?_⟩
  exact hrun s' (hkeep z hzd) (fun j e hj he => hsto j e (fun ee => hne (ee ▸ hj)) he) hn
theorem swap_box_look (hg : ∀ o ∈ ops, o.guard = none) {i j : Nat} {p o : Oper} (hp : p ∈ ops) (ho : o ∈ ops) {s s1 s2 : St} (l : Live s) (I : WInv ops s0 s) (hc : commW C ops s0 o p = true)
    (h1 : (stepT C ops i p s).run callF some = some s1) (h2 : (stepT C ops j o s1).run callF some = some s2) :
    ∃ s', (stepT C ops j o s).run callF some = some s' ∧ (stepT C ops i p s').run callF some = some s2 := by
  obtain ⟨x, z, d, t, hb, hx, hz, hxo, hxd, hk⟩ := commW_at hc
  obtain ⟨bad, hcb, hk', hbz⟩ : ∃ bad : Option Nat, candOk ops s0 bad t = true ∧ ((o.op = .move (.tmp z) ∧ ptrSlot (s0.env z) = true) ∨ ∃ ty id off, o.op = .load ty (.tmp z) ∧ s0.env z = .one (.cell (.ptr id off)) ∧ bad = some id) ∧ ∀ j, bad = some j → ∃ off, s0.env z = .one (.cell (.ptr j off)) := by
    rcases hk with hk | ⟨ty, id, off, k1, k2, k3⟩
    · exact ⟨none, hk.2.2, .inl ⟨hk.1, hk.2.1⟩, fun j h => by cases h⟩
    · exact ⟨some id, k3, .inr ⟨ty, id, off, k1, k2, rfl⟩, fun j h => by cases h; exact ⟨off, k2⟩⟩
  obtain ⟨hd, f, args, vs, i0, id, T, cs, hr, hvs, hs, hob, hne, henv, hcall, hagain⟩ := box_step hg hp hb hcb I h1
  obtain ⟨hn, hkeep, hsto, _⟩ := callBox_env hs hob hd hcall
  have hzd : z ≠ d := fun e => hz (e ▸ dst_mem hp hd)
  have hback : ∀ j e, bad = some j → s1.sto j = some e → s.sto j = some e := fun j e hj he => by
    obtain ⟨off, hsz⟩ := hbz j hj
    obtain ⟨e0, hold⟩ := l.env z j (by rw [I.1 z hz, hsz]; simp [Slot.ids, Comp.ids, Comp.cells, Cell.ids])
    have := hsto j e0 (fun ee => hne (ee ▸ hj)) hold
    rw [he] at this
    cases this
    exact hold
  obtain ⟨v, rfl, hrun⟩ := look_back hg ho hx (hkeep z hzd) (I.1 z hz) hk' hback hn h2
  refine ⟨_, hrun, ?_⟩
  have hvs' : compsOf ⟨s.n, upd s.env x v, s.sto⟩ args = some vs := by
    rw [← hvs]
    exact compsOf_up (fun u hu (e : u = x) => hxo (by rw [← e]; exact hr u hu ops))
  rw [hagain _ hvs', callBox_up hs hob hd hxd, hcall]
  rfl

theorem winv_quiet (hg : ∀ o ∈ ops, o.guard = none) {i : Nat} {o : Oper} (ho : o ∈ ops) (hq : quietOp C o = true) {s s1 : St} (I : WInv ops s0 s) (h : (stepT C ops i o s).run callF some = some s1) : WInv ops s0 s1 := by
  obtain ⟨d, hd⟩ : ∃ d, o.dst = some d := Option.isSome_iff_exists.1 (by simp only [quietOp, Bool.and_eq_true] at hq; exact hq.1)
  have hdm := dst_mem ho hd
  have h' := h
  rw [step_gv hq, hd, T.run_bind] at h
  obtain ⟨⟨v, es⟩, hv, h⟩ := T.run_some h
  rw [commit_run] at h
  obtain ⟨σ, hσ, h⟩ := Option.bind_eq_some_iff.1 h
  cases hb : inN d s.n with
  | false => rw [hb] at h; cases h
  | true =>
    rw [hb] at h
    simp only [cond_true, Option.some.injEq] at h
    have he : ∀ t, t ≠ d → s1.env t = s.env t := fun t ht => by subst h; exact upd_ne _ _ ht
    have hs : s1.sto = σ := by subst h; rfl
    refine ⟨fun t ht => (he t (fun e => ht (e ▸ hdm))).trans (I.1 t ht), fun t => ?_, fun j U cs hj => ?_⟩
    · by_cases ht : t = d
      · subst ht
        refine .inr ⟨o, ho, hd, fun z hz hzn hpt => ?_⟩
        have hez := I.1 z hzn
        rw [mov_run hg ho hz hd (by rw [hez]; exact hpt), if_pos hb] at h'
        simp only [Option.some.injEq] at h'
        rw [← h', ← hez]
        exact upd_same _ _ _
      · rw [he t ht]
        exact I.2.1 t
    · obtain ⟨cs', hc⟩ := I.2.2 j U cs hj
      exact ⟨cs', by rw [hs]; exact allocO_mono hσ _ _ hc⟩
theorem winv_box (hg : ∀ o ∈ ops, o.guard = none) {i : Nat} {o : Oper} (ho : o ∈ ops) {d t : Tmp} (hb : boxOp C o = some (d, t)) (hc : candOk ops s0 none t = true) {s s1 : St} (I : WInv ops s0 s) (h : (stepT C ops i o s).run callF some = some s1) : WInv ops s0 s1 := by
  obtain ⟨hd, f, args, vs, i0, id, U, cs, hr, hvs, hs, hob, hne, henv, hcall, hagain⟩ := box_step hg ho hb hc I h
  obtain ⟨hn, hkeep, hsto, cs', hid⟩ := callBox_env hs hob hd hcall
  have hdm := dst_mem ho hd
  refine ⟨fun u hu => (hkeep u (fun e => hu (e ▸ hdm))).trans (I.1 u hu), fun u => ?_, fun j V c0 hj => ?_⟩
  · by_cases hu : u = d
    · subst hu
      refine .inr ⟨o, ho, hd, fun z hz _ _ => ?_⟩
      exfalso
      unfold boxOp at hb
      rw [hz] at hb
      cases hb
    · rw [hkeep u hu]
      exact I.2.1 u
  · obtain ⟨c1, h1⟩ := I.2.2 j V c0 hj
    by_cases hji : j = id
    · subst hji
      rw [hs] at h1
      cases h1
      exact ⟨cs', hid⟩
    · exact ⟨c1, hsto j _ hji h1⟩
theorem freezeAll_box : ∀ {ids : List Nat} {σ : Nat → Option Entry} {i : Nat} {T : Option Ty} {cs : List Cell}, σ i = some (.box T cs) → freezeAll σ ids i = some (.box T cs)
  | [], σ, i, T, cs, h => h
  | j :: r, σ, i, T, cs, h => by
    have skip : freezeAll σ (j :: r) = freezeAll σ r ∨ ∃ t l o, σ j = some (.arr t l o) ∧ freezeAll σ (j :: r) = freezeAll (upd σ j (some (.arr t l .frozen))) r := by
      simp only [freezeAll]
      split
      · rename_i t l o hj
        exact .inr ⟨t, l, o, hj, rfl⟩
      · exact .inl rfl
    rcases skip with hf | ⟨t, l, o, hj, hf⟩
    · rw [hf]; exact freezeAll_box h
    · rw [hf]
      refine freezeAll_box ?_
      have : i ≠ j := fun e => by subst e; rw [h] at hj; cases hj
      rw [upd_ne _ _ this]
      exact h
/-- A store leaves the boxes boxes. -/
theorem store_boxes (hg : ∀ o ∈ ops, o.guard = none) {i : Nat} {o : Oper} (hoo : o ∈ ops) (hst : storeOp C o = true) {s s1 : St} (hs : (stepT C ops i o s).run callF some = some s1) :
    ∀ j T cs, s.sto j = some (.box T cs) → ∃ cs', s1.sto j = some (.box T cs') := by
  have hgo := hg o hoo
  unfold stepT at hs
  simp only [hgo, isGuard_no hg, cond_false, T.bind_ret'] at hs
  obtain ⟨dst, op, type, pos, after, guard⟩ := o
  simp only [storeOp, Bool.and_eq_true] at hst
  obtain ⟨hd, hst⟩ := hst
  obtain rfl : dst = none := by cases dst with
    | none => rfl
    | some _ => cases hd
  cases op <;> simp only at hst <;> try (cases hst; done)
  case store t q x =>
    have hgv : C.gives.contains t = false := by simpa using hst
    simp only [opT, hgv] at hs
    split at hs
    · rename_i n agg p v hsh hp hv
      split at hs
      · rw [T.run_bind] at hs
        obtain ⟨s3, h3, hs⟩ := T.run_some hs
        simp only [St.put, T.run_ret] at hs
        cases hs
        intro j U cs hj
        cases p <;> simp only [St.store] at h3 <;> try (cases h3; done)
        case ptr id off =>
          split at h3
          · rename_i ty cs0 hse
            split at h3
            · cases h3
              by_cases hij : j = id
              · subst hij
                rw [hj] at hse
                cases hse
                exact ⟨_, upd_same _ _ _⟩
              · exact ⟨cs, (upd_ne _ _ hij).trans hj⟩
            · cases h3
          · cases h3
        case eptr id k off =>
          split at h3
          · rename_i ty l o hse
            split at h3
            · cases h3
            · split at h3
              · split at h3
                · split at h3
                  · cases h3
                  · cases h3
                    have hij : j ≠ id := fun e => by subst e; rw [hj] at hse; cases hse
                    exact ⟨cs, (upd_ne _ _ hij).trans (freezeAll_box hj)⟩
                · cases h3
              · cases h3
          · cases h3
        case dptr id k off =>
          simp only [storeD] at h3
          split at h3
          · rename_i t' l pin hse
            have hij : j ≠ id := fun e => by subst e; rw [hj] at hse; cases hse
            split at h3
            · cases h3
              exact ⟨cs, (upd_ne _ _ hij).trans hj⟩
            · split at h3
              · rename_i hcc
                exact absurd hcc.2.2 (by simp)
              · cases h3
          · cases h3
      · cases hs
    · cases hs
theorem winv_store (hg : ∀ o ∈ ops, o.guard = none) {i : Nat} {o : Oper} (ho : o ∈ ops) (hst : storeOp C o = true) {s s1 : St} (I : WInv ops s0 s) (h : (stepT C ops i o s).run callF some = some s1) : WInv ops s0 s1 := by
  obtain ⟨_, he, _⟩ := store_step (env' := s.env) hst (fun _ _ => rfl) h
  refine ⟨fun t ht => by rw [he]; exact I.1 t ht, fun t => by rw [he]; exact I.2.1 t, fun j T cs hj => ?_⟩
  obtain ⟨cs1, h1⟩ := I.2.2 j T cs hj
  exact store_boxes hg ho hst h j _ _ h1
theorem commW_quiet {a b : Oper} (h : commW C ops s0 a b = true) : quietOp C a = true := by
  unfold commW at h
  split at h
  · rename_i z x d t h1 h2 h3
    unfold quietOp
    rw [h1, h2]
    rfl
  · simp only [Bool.and_eq_true] at h
    exact h.1.1.1.1
  · cases h
end

/-- By the boxes that are lent. -/
def waysW {C : Cfg} {callF : FuncId → (t : Ty) → List Arg → Option t.den} (ops : Array Oper) (s0 : St) (hg : ∀ o ∈ ops.toList, o.guard = none) (tail : Nat → Bool)
    (tailUp : ∀ {i j : Nat}, tail i = true → i ≤ j → tail j = true) (tailOk : ∀ {j : Nat} {o : Oper}, tail j = true → ops[j]? = some o → ∀ k, k < j → ∃ m, (ancList ops.toList [])[j]? = some m ∧ m.testBit k = true)
    (hq : ∀ (j : Nat) (o : Oper), ops[j]? = some o → tail j = false → quietOp C o = true ∨ storeOp C o = true ∨ ∃ d t, boxOp C o = some (d, t) ∧ candOk ops.toList s0 none t = true) : Ways C callF ops :=
  have mem : ∀ {i : Nat} {o : Oper}, ops[i]? = some o → o ∈ ops.toList := fun h => Array.mem_toList_iff.2 (Array.mem_of_getElem? h)
  ⟨commV C ops.toList s0, WInv ops.toList s0, tail, tailUp, (fun h1 h2 k hk => .inl (tailOk h1 h2 k hk)), fun {s s1 o j} hI htl ho h => by
    rcases hq j o ho htl with hq | hq | ⟨d, t, hb, hc⟩
    · exact winv_quiet hg (mem ho) hq hI h
    · exact winv_store hg (mem ho) hq hI h
    · exact winv_box hg (mem ho) hb hc hI h, fun {i j p o s s1 s2} l hI hp ho hcm h1 h2 => by
    unfold commV at hcm
    simp only [Bool.or_eq_true] at hcm
    rcases hcm with (hcm | hcm) | hcm
    · exact step_swap l hcm h1 h2
    · exact swap_look_box hg (mem hp) (mem ho) hI hcm (winv_quiet hg (mem hp) (commW_quiet hcm) hI h1) h1 h2
    · exact swap_box_look hg (mem hp) (mem ho) l hI hcm h1 h2⟩
end Go.Flat
