/- A pointer that is copied, beside an append. No condition. -/
import Derived.Test.YtmocpfgfjeaelaaGreatDrawA
set_option linter.unusedVariables false
set_option linter.unusedSimpArgs false
namespace Go.Flat
section
variable {C : dA} {ah : FuncId -> (t : Ty) -> List Arg -> Option t.den} {ops : List Oper} {s0 : St}
theorem vH {v : Slot} (h : fD v = true) (id : Nat) : v.kill id = v := by
 unfold fD at h
 split at h
 ·rfl
 ·cases h
theorem NM {a b : Oper} (h : Kr C ops s0 a b = true) : ∃ x z t y d, a.op = .move (.tmp z) /\ a.dst = some x /\ nE b = some (t, y, d) /\ oP C b = true /\ fD (s0.env z) = true /\ z ∉ dstsOf ops /\ x ∉ readsOf ops b /\ x ≠ d := by
 unfold Kr at h
 split at h
 ·rename_i z x t y d h1 h2 h3
  simp only [Bool.and_eq_true, Bool.not_eq_true'] at h
  obtain ⟨⟨⟨⟨k1, k2⟩, k3⟩, k4⟩, k5⟩ := h
  refine ⟨x, z, t, y, d, h1, h2, h3, k1, k2, by simpa using k3, by simpa using k4, fun e => ?_⟩
  subst e
  simp at k5
 ·cases h
theorem lq (hg : ∀ o ∈ ops, o.guard = none) {i : Nat} {o : Oper} (ho : o ∈ ops) {x z : Tmp} (h1 : o.op = .move (.tmp z)) (h2 : o.dst = some x) {s : St} (hp : fD (s.env z) = true) :
  (stepT C ops i o s).run ah some = if uF x s.n = true then some ⟨s.n, upd s.env x (s.env z), s.ak⟩ else none := by
 have hgo := hg o ho
 unfold stepT
 simp only [hgo, lW hg, cond_false, T.nV]
 obtain ⟨dst, op, type, pos, after, guard⟩ := o
 simp only at h1 h2
 subst h1 h2
 unfold fD at hp
 split at hp
 ·rename_i q off he
  simp only [lN, St.ev, he, St.put]
  cases hb : uF x s.n <;> simp [T.run]
 ·cases hp
theorem sI {o : Oper} (ho : o ∈ ops) {x : Tmp} (h : o.dst = some x) : x ∈ dstsOf ops := by
 simp only [dstsOf, List.mem_filterMap]
 exact ⟨o, ho, h⟩
def MInv (ops : List Oper) (s0 s : St) : Prop := ∀ t, t ∉ dstsOf ops -> fD (s0.env t) = true -> s.env t = s0.env t
theorem Md (hg : ∀ o ∈ ops, o.guard = none) {i j : Nat} {p o : Oper} (hp : p ∈ ops) (ho : o ∈ ops) {s s1 s2 : St} (l : Live s) (I : MInv ops s0 s) (hc : Kr C ops s0 p o = true)
  (h1 : (stepT C ops i p s).run ah some = some s1) (h2 : (stepT C ops j o s1).run ah some = some s2) :
  ∃ s', (stepT C ops j o s).run ah some = some s' /\ (stepT C ops i p s').run ah some = some s2 := by
 obtain ⟨x, z, t, y, d, hop, hx, hb, hfl, hpt, hz, hxo, hxd⟩ := NM hc
 obtain ⟨hod, hrd⟩ := rM hb
 have htx : t ≠ x := fun e => hxo (e ▸ hrd t (by simp) ops)
 have hyx : y ≠ x := fun e => hxo (e ▸ hrd y (by simp) ops)
 have hzd : z ≠ d := fun e => hz (e ▸ sI ho hod)
 have hpz : fD (s.env z) = true := by rw [I z hz hpt]; exact hpt
 rw [lq hg hp hop hx hpz] at h1
 split at h1
 ·rename_i hbx
  simp only [Option.some.injEq] at h1
  subst h1
  rw [mY hg ho hfl hb] at h2
  have hvs : zN C o t y ⟨s.n, upd s.env x (s.env z), s.ak⟩ = zN C o t y s := vF (upd_ne _ _ htx) (upd_ne _ _ hyx) (fun _ _ => rfl) (fun _ _ => rfl)
  rw [hvs] at h2
  rw [rJ] at h2
  obtain ⟨⟨w, E⟩, hw, h2⟩ := Option.bind_eq_some_iff.1 h2
  cases w with
  | none =>
   simp only [mq] at h2
   split at h2
   ·rename_i hk
    cases hbd : uF d s.n with
    | false => rw [hbd] at h2; cases h2
    | true =>
     rw [hbd] at h2
     simp only [cond_true, Option.some.injEq] at h2
     subst h2
     refine ⟨⟨s.n, upd s.env d (.cell (.ref (aJ d 0))), upd s.ak (aJ d 0) (some E)⟩, ?_, ?_⟩
     ·rw [mY hg ho hfl hb, hw]
      simp only [Option.bind_some, mq, hk, hbd, cond_true]
     ·have he : upd s.env d (.cell (.ref (aJ d 0))) z = s.env z := upd_ne _ _ hzd
      rw [lq hg hp hop hx (by have hq := hpz; rw [<- he] at hq; exact hq)]
      simp only [hbx, if_true, he]
      rw [oK _ _ _ hxd]
   ·cases h2
  | some id =>
   simp only [mq] at h2
   cases hbd : uF d s.n with
   | false => rw [hbd] at h2; cases h2
   | true =>
    rw [hbd] at h2
    simp only [cond_true, Option.some.injEq] at h2
    subst h2
    refine ⟨⟨s.n, upd (fun t => (s.env t).kill id) d (.cell (.ref id)), BR s.ak id E⟩, ?_, ?_⟩
    ·rw [mY hg ho hfl hb, hw]
     simp only [Option.bind_some, mq, hbd, cond_true]
    ·have he : upd (fun t => (s.env t).kill id) d (.cell (.ref id)) z = s.env z := (upd_ne _ _ hzd).trans (vH hpz id)
     rw [lq hg hp hop hx (by have hq := hpz; rw [<- he] at hq; exact hq)]
     simp only [hbx, if_true, he]
     have Vi : (fun t => (upd s.env x (s.env z) t).kill id) = upd (fun t => (s.env t).kill id) x (s.env z) := by
      funext u
      by_cases hu : u = x
      ·subst hu; rw [upd_same, upd_same, vH hpz]
      ·rw [upd_ne _ _ hu, upd_ne _ _ hu]
     simp only [Vi]
     rw [oK _ _ _ hxd]
 ·cases h1
theorem Me (hg : ∀ o ∈ ops, o.guard = none) {i j : Nat} {p o : Oper} (hp : p ∈ ops) (ho : o ∈ ops) {s s1 s2 : St} (l : Live s) (I : MInv ops s0 s) (hc : Kr C ops s0 o p = true)
  (h1 : (stepT C ops i p s).run ah some = some s1) (h2 : (stepT C ops j o s1).run ah some = some s2) :
  ∃ s', (stepT C ops j o s).run ah some = some s' /\ (stepT C ops i p s').run ah some = some s2 := by
 obtain ⟨x, z, t, y, d, hop, hx, hb, hfl, hpt, hz, hxo, hxd⟩ := NM hc
 obtain ⟨hod, hrd⟩ := rM hb
 have htx : t ≠ x := fun e => hxo (e ▸ hrd t (by simp) ops)
 have hyx : y ≠ x := fun e => hxo (e ▸ hrd y (by simp) ops)
 have hzd : z ≠ d := fun e => hz (e ▸ sI hp hod)
 have hpz : fD (s.env z) = true := by rw [I z hz hpt]; exact hpt
 have hvs : zN C p t y ⟨s.n, upd s.env x (s.env z), s.ak⟩ = zN C p t y s := vF (upd_ne _ _ htx) (upd_ne _ _ hyx) (fun _ _ => rfl) (fun _ _ => rfl)
 rw [mY hg hp hfl hb] at h1
 rw [rJ] at h1
 obtain ⟨⟨w, E⟩, hw, h1⟩ := Option.bind_eq_some_iff.1 h1
 cases w with
 | none =>
  simp only [mq] at h1
  split at h1
  ·rename_i hk
   cases hbd : uF d s.n with
   | false => rw [hbd] at h1; cases h1
   | true =>
    rw [hbd] at h1
    simp only [cond_true, Option.some.injEq] at h1
    subst h1
    have he : upd s.env d (.cell (.ref (aJ d 0))) z = s.env z := upd_ne _ _ hzd
    rw [lq hg ho hop hx (by have hq := hpz; rw [<- he] at hq; exact hq)] at h2
    split at h2
    ·rename_i hbx
     simp only [Option.some.injEq, he] at h2
     subst h2
     refine ⟨⟨s.n, upd s.env x (s.env z), s.ak⟩, by rw [lq hg ho hop hx hpz, if_pos hbx], ?_⟩
     rw [mY hg hp hfl hb, hvs, hw]
     simp only [Option.bind_some, mq, hk, hbd, cond_true]
     rw [oK _ _ _ hxd]
    ·cases h2
  ·cases h1
 | some id =>
  simp only [mq] at h1
  cases hbd : uF d s.n with
  | false => rw [hbd] at h1; cases h1
  | true =>
   rw [hbd] at h1
   simp only [cond_true, Option.some.injEq] at h1
   subst h1
   have he : upd (fun t => (s.env t).kill id) d (.cell (.ref id)) z = s.env z := (upd_ne _ _ hzd).trans (vH hpz id)
   rw [lq hg ho hop hx (by have hq := hpz; rw [<- he] at hq; exact hq)] at h2
   split at h2
   ·rename_i hbx
    simp only [Option.some.injEq, he] at h2
    subst h2
    refine ⟨⟨s.n, upd s.env x (s.env z), s.ak⟩, by rw [lq hg ho hop hx hpz, if_pos hbx], ?_⟩
    rw [mY hg hp hfl hb, hvs, hw]
    simp only [Option.bind_some, mq, hbd, cond_true]
    have Vi : (fun t => (upd s.env x (s.env z) t).kill id) = upd (fun t => (s.env t).kill id) x (s.env z) := by
     funext u
     by_cases hu : u = x
     ·subst hu; rw [upd_same, upd_same, vH hpz]
     ·rw [upd_ne _ _ hu, upd_ne _ _ hu]
    simp only [Vi]
    rw [oK _ _ _ hxd]
   ·cases h2
theorem WY (hg : ∀ o ∈ ops, o.guard = none) {i : Nat} {o : Oper} (ho : o ∈ ops) (hq : (dI C o || jl C o || ((nE o).isSome && oP C o)) = true) {s s1 : St} (I : MInv ops s0 s) (h : (stepT C ops i o s).run ah some = some s1) : MInv ops s0 s1 := by
 simp only [Bool.or_eq_true, Bool.and_eq_true] at hq
 rcases hq with hq | ⟨ha, hfl⟩
 ·intro t ht hpt
  exact (KO ho (by simpa using hq) h t ht).trans (I t ht hpt)
 ·obtain ⟨⟨t, y, d⟩, ha⟩ := Option.isSome_iff_exists.1 ha
  obtain ⟨hod, _⟩ := rM ha
  have hd := sI ho hod
  rw [mY hg ho hfl ha, rJ] at h
  obtain ⟨⟨w, E⟩, hw, h⟩ := Option.bind_eq_some_iff.1 h
  intro u hu Zi
  have hne : u ≠ d := fun e => hu (e ▸ hd)
  cases w with
  | none =>
   simp only [mq] at h
   split at h
   ·cases hbd : uF d s.n with
    | false => rw [hbd] at h; cases h
    | true =>
     rw [hbd] at h
     simp only [cond_true, Option.some.injEq] at h
     subst h
     exact (upd_ne _ _ hne).trans (I u hu Zi)
   ·cases h
  | some id =>
   simp only [mq] at h
   cases hbd : uF d s.n with
   | false => rw [hbd] at h; cases h
   | true =>
    rw [hbd] at h
    simp only [cond_true, Option.some.injEq] at h
    subst h
    show upd (fun t => (s.env t).kill id) d (.cell (.ref id)) u = _
    rw [upd_ne _ _ hne]
    show (s.env u).kill id = _
    rw [I u hu Zi, vH Zi]
end
section
variable {C : dA}
theorem Tc (s : St) (c : Cap) : xu s c = xu ⟨0, fun _ => .undef, s.ak⟩ c := by cases c <;> rfl
theorem Il (s : St) : ∀ cs : List Cap, kF s cs = kF ⟨0, fun _ => .undef, s.ak⟩ cs
 | [] => rfl
 | c :: cs => by simp only [kF]; rw [Tc s c, Il s cs]
theorem Mf (s : St) (t : TypeId) (v : aH) : nA C s t v = nA C ⟨0, fun _ => .undef, s.ak⟩ t v := by
 unfold nA
 split
 ·rfl
 ·split
  ·rename_i f caps
   show (kF s caps).map _ = (kF _ caps).map _
   rw [Il s caps]
  ·rfl
  ·rfl
  ·rfl
theorem tu (s : St) (i : Nat) (a : Arg) : ∀ (n : Nat) (ts : List TypeId) (vs : List aH), lg C s i a n ts vs = lg C ⟨0, fun _ => .undef, s.ak⟩ i a n ts vs
 | _, _, [] => by simp [lg]
 | _, [], v :: vs => by simp [lg]
 | n, t :: ts, v :: vs => by simp only [lg]; rw [Mf s t v, tu s i a (n + 1) ts vs]
theorem wD (s : St) (vs : List aH) (caps : List Cap) : jO s vs caps = jO ⟨0, fun _ => .undef, s.ak⟩ vs caps := by
 have hc : ∀ c, kJ s c = kJ ⟨0, fun _ => .undef, s.ak⟩ c := fun c => by cases c <;> rfl
 have hcc : ∀ cs : List Cap, cs.any (kJ s) = cs.any (kJ ⟨0, fun _ => .undef, s.ak⟩) := fun cs => by rw [show kJ s = kJ ⟨0, fun _ => .undef, s.ak⟩ from funext hc]
 have hd : ∀ c, kK s c = kK ⟨0, fun _ => .undef, s.ak⟩ c := fun c => by
  cases c <;> first | rfl | exact hc _ | exact hcc _
 unfold jO
 rw [hcc caps]
 have hv : ∀ v : aH, v.cells.any (kK s) = v.cells.any (kK ⟨0, fun _ => .undef, s.ak⟩) := fun v => by rw [show kK s = kK ⟨0, fun _ => .undef, s.ak⟩ from funext hd]
 simp only [hv]
theorem WZ {s : St} {x : Tmp} {v : Slot} (hv : fD v = true) (id : Nat) : (fun t => (upd s.env x v t).kill id) = upd (fun t => (s.env t).kill id) x v := by
 funext u
 by_cases hu : u = x
 ·subst hu; rw [upd_same, upd_same, vH hv]
 ·rw [upd_ne _ _ hu, upd_ne _ _ hu]
theorem Im {x : Tmp} {v : Slot} (hv : fD v = true) : ∀ {ids : List Nat} {s : St}, (⟨s.n, upd s.env x v, s.ak⟩ : St).bW ids = ⟨(s.bW ids).n, upd (s.bW ids).env x v, (s.bW ids).ak⟩
 | [], s => rfl
 | id :: ids, s => by
  have e : (⟨s.n, upd s.env x v, s.ak⟩ : St).drop id = ⟨(s.drop id).n, upd (s.drop id).env x v, (s.drop id).ak⟩ := by
   show (⟨s.n, fun t => (upd s.env x v t).kill id, _⟩ : St) = ⟨s.n, upd (fun t => (s.env t).kill id) x v, _⟩
   rw [WZ hv]
   rfl
  show St.bW (St.drop ⟨s.n, upd s.env x v, s.ak⟩ id) ids = _
  rw [e]
  exact Im hv (s := s.drop id)
theorem Fa {z : Tmp} : ∀ {ids : List Nat} {s : St}, fD (s.env z) = true -> (s.bW ids).env z = s.env z
 | [], s, _ => rfl
 | id :: ids, s, h => by
  have e : (s.drop id).env z = s.env z := vH h id
  show ((s.drop id).bW ids).env z = _
  rw [Fa (by rw [e]; exact h), e]
theorem vI {s : St} {x : Tmp} {v : Slot} : ∀ {xs : List Operand}, (∀ t, Operand.tmp t ∈ xs -> t ≠ x) -> dS ⟨s.n, upd s.env x v, s.ak⟩ xs = dS s xs
 | [], _ => rfl
 | y :: ys, h => by
  have hy : St.ev ⟨s.n, upd s.env x v, s.ak⟩ y = s.ev y := by
   cases y with
   | tmp t => exact upd_ne _ _ (h t (by simp))
   | _ => rfl
  simp only [dS, hy]
  rw [vI (fun t ht => h t (by simp [ht]))]
variable {ah : FuncId -> (t : Ty) -> List Arg -> Option t.den}
theorem NP {s : St} {o : Oper} {f : FuncId} {vs : List aH} {i : Nat} {x d : Tmp} {v : Slot} (hv : fD v = true) (hd : o.dst = some d) (hxd : x ≠ d) :
  (qo C ⟨s.n, upd s.env x v, s.ak⟩ o f vs [] i).run ah some = ((qo C s o f vs [] i).run ah some).map fun t => ⟨t.n, upd t.env x v, t.ak⟩ := by
 unfold qo
 cases C.P.funcs[f]? with
 | none => rfl
 | some fn =>
  cases vs[i]? with
  | none => rfl
  | some w =>
   simp only
   cases (fn.params.toList[i]?).bind C.ty with
   | none => rfl
   | some T0 =>
    simp only
    split
    ·cases bH s.ak .give T0 w.cells with
     | none => rfl
     | some y =>
      obtain ⟨y, ids⟩ := y
      simp only
      cases nodup ids with
      | false => rfl
      | true =>
       simp only [cond_true]
       rw [Im hv]
       rw [tu ⟨_, upd _ x v, _⟩, tu (s.bW ids), wD ⟨_, upd _ x v, _⟩, wD (s.bW ids)]
       simp only [kF]
       cases lg C ⟨0, fun _ => .undef, (s.bW ids).ak⟩ i (.give T0 y) 0 fn.params.toList (vs.map (sD · ids)) with
       | none => rfl
       | some args =>
        cases ((some [] : Option (List Cap)).bind (·.mapM tT)) with
        | none => rfl
        | some xw =>
         cases resTy C fn.resultTypes.toList with
         | none => rfl
         | some rt =>
          simp only
          split
          ·rfl
          ·simp only [T.run]
           cases ah f rt (args ++ xw) with
           | none => rfl
           | some r =>
            simp only [Option.bind_some]
            generalize jc (C.sig f).own (Nat.beq fn.resultTypes.size 1) (aJ (o.dst.getD 0)) rt r = rs
            obtain ⟨u, es⟩ := rs
            simp only [T.run_bind, lU, hd]
            cases dM (s.bW ids).ak es with
            | none => rfl
            | some σ =>
             simp only [Option.bind_some, St.put]
             cases uF d (s.bW ids).n with
             | false => rfl
             | true =>
              simp only [cond_true, T.gu, Option.map_some]
              rw [oK _ _ _ hxd]
    ·rfl
theorem Mg {s t : St} {o : Oper} {f : FuncId} {vs : List aH} {i : Nat} {d : Tmp} (hd : o.dst = some d) (h : (qo C s o f vs [] i).run ah some = some t) : t.n = s.n /\ ∀ z, z ≠ d -> fD (s.env z) = true -> t.env z = s.env z := by
 unfold qo at h
 split at h
 ·split at h
  ·split at h
   ·split at h
    ·rename_i y ids hof
     cases hnd : nodup ids with
     | false => rw [hnd] at h; cases h
     | true =>
      rw [hnd] at h
      simp only [cond_true] at h
      split at h
      ·split at h
       ·cases h
       ·simp only [T.run] at h
        rw [Option.bind_eq_some_iff] at h
        obtain ⟨r, _, h⟩ := h
        generalize jc _ _ _ _ r = rs at h
        obtain ⟨u, es⟩ := rs
        simp only [T.run_bind, lU, hd] at h
        rw [Option.bind_eq_some_iff] at h
        obtain ⟨σ, _, h⟩ := h
        simp only [St.put] at h
        cases hb : uF d (s.bW ids).n with
        | false => rw [hb] at h; cases h
        | true =>
         rw [hb] at h
         simp only [cond_true, T.gu, Option.some.injEq] at h
         subst h
         exact ⟨KD, fun z hz hp => (upd_ne _ _ hz).trans (Fa hp)⟩
      ·cases h
    ·cases h
   ·cases h
  ·cases h
 ·cases h
variable {ops : List Oper} {s0 : St}
theorem NQ (hg : ∀ o ∈ ops, o.guard = none) {j : Nat} {o : Oper} (ho : o ∈ ops) {d : Tmp} (hgo : tV C o = some d) : ∃ (f : FuncId) (args : List Operand) (i : Nat), o.dst = some d /\ (∀ t, Operand.tmp t ∈ args -> ∀ ops : List Oper, t ∈ readsOf ops o) /\
  ∀ s : St, stepT C ops j o s = match dS s args with
   | some vs => qo C s o f vs [] i
   | none => .fail := by
 unfold tV at hgo
 split at hgo
 ·rename_i f args ats dd h1 h2
  split at hgo
  ·rename_i hc
   simp only [Option.some.injEq] at hgo
   subst hgo
   simp only [Bool.and_eq_true] at hc
   cases BJ : (C.sig f).io with
   | nil => rw [BJ] at hc; simp at hc
   | cons i r =>
    refine ⟨f, args.toList, i, h2, fun t ht ops' => ?_, fun s => ?_⟩
    ·unfold readsOf
     refine List.mem_append_left _ (List.mem_filterMap.2 ⟨.tmp t, ?_, rfl⟩)
     rw [h1]
     simp only [Op.operands]
     simp [Call.operands, ht]
    ·have hgu := hg o ho
     unfold stepT
     simp only [hgu, lW hg, cond_false, T.nV]
     obtain ⟨dst, op, type, pos, after, guard⟩ := o
     simp only at h1 h2
     subst h1 h2
     have hl : (C.sig f).lend = none := by simpa using hc.1
     simp only [lN, St.ev]
     cases dS s args.toList with
     | none => rfl
     | some vs => simp only [DF, hl, BJ]
  ·cases hgo
 ·cases hgo
theorem QY (hg : ∀ o ∈ ops, o.guard = none) {j : Nat} {o : Oper} (ho : o ∈ ops) {d : Tmp} (hgo : tV C o = some d) {s : St} {x : Tmp} {v : Slot} (hv : fD v = true) (hx : x ∉ readsOf ops o) (hxd : x ≠ d) :
  (stepT C ops j o ⟨s.n, upd s.env x v, s.ak⟩).run ah some = ((stepT C ops j o s).run ah some).map fun t => ⟨t.n, upd t.env x v, t.ak⟩ := by
 obtain ⟨f, args, i, hd, hr, hs⟩ := NQ hg ho hgo (j := j)
 rw [hs, hs, vI (fun t ht (e : t = x) => hx (by rw [<- e]; exact hr t ht ops))]
 cases dS s args with
 | none => rfl
 | some vs => exact NP hv hd hxd
theorem Io (hg : ∀ o ∈ ops, o.guard = none) {j : Nat} {o : Oper} (ho : o ∈ ops) {d : Tmp} (hgo : tV C o = some d) {s t : St} (h : (stepT C ops j o s).run ah some = some t) : o.dst = some d /\ t.n = s.n /\ ∀ z, z ≠ d -> fD (s.env z) = true -> t.env z = s.env z := by
 obtain ⟨f, args, i, hd, hr, hs⟩ := NQ hg ho hgo (j := j)
 rw [hs] at h
 cases hc : dS s args with
 | none => rw [hc] at h; cases h
 | some vs => rw [hc] at h; exact ⟨hd, Mg hd h⟩
theorem NR {a b : Oper} (h : Kt C ops s0 a b = true) : ∃ x z d, a.op = .move (.tmp z) /\ a.dst = some x /\ tV C b = some d /\ fD (s0.env z) = true /\ z ∉ dstsOf ops /\ x ∉ readsOf ops b /\ x ≠ d := by
 unfold Kt at h
 split at h
 ·rename_i z x d h1 h2 h3
  simp only [Bool.and_eq_true, Bool.not_eq_true'] at h
  obtain ⟨⟨⟨k2, k3⟩, k4⟩, k5⟩ := h
  refine ⟨x, z, d, h1, h2, h3, k2, by simpa using k3, by simpa using k4, fun e => ?_⟩
  subst e
  simp at k5
 ·cases h
theorem Ip {o : Oper} {d : Tmp} (h : tV C o = some d) : o.dst = some d := by
 unfold tV at h
 split at h
 ·split at h
  ·simp only [Option.some.injEq] at h
   subst h
   assumption
  ·cases h
 ·cases h
theorem JM (hg : ∀ o ∈ ops, o.guard = none) {i j : Nat} {p o : Oper} (hp : p ∈ ops) (ho : o ∈ ops) {s s1 s2 : St} (I : MInv ops s0 s) (hc : Kt C ops s0 p o = true)
  (h1 : (stepT C ops i p s).run ah some = some s1) (h2 : (stepT C ops j o s1).run ah some = some s2) :
  ∃ s', (stepT C ops j o s).run ah some = some s' /\ (stepT C ops i p s').run ah some = some s2 := by
 obtain ⟨x, z, d, hop, hx, hb, hpt, hz, hxo, hxd⟩ := NR hc
 have hzd : z ≠ d := fun e => hz (e ▸ sI ho (Ip hb))
 have hpz : fD (s.env z) = true := by rw [I z hz hpt]; exact hpt
 rw [lq hg hp hop hx hpz] at h1
 split at h1
 ·rename_i hbx
  simp only [Option.some.injEq] at h1
  subst h1
  rw [QY hg ho hb hpz hxo hxd] at h2
  obtain ⟨t, ht, rfl⟩ := Option.map_eq_some_iff.1 h2
  obtain ⟨_, hn, hk⟩ := Io hg ho hb ht
  refine ⟨t, ht, ?_⟩
  have he := hk z hzd hpz
  rw [lq hg hp hop hx (by rw [he]; exact hpz), if_pos (by rw [hn]; exact hbx), he]
 ·cases h1
theorem JN (hg : ∀ o ∈ ops, o.guard = none) {i j : Nat} {p o : Oper} (hp : p ∈ ops) (ho : o ∈ ops) {s s1 s2 : St} (I : MInv ops s0 s) (hc : Kt C ops s0 o p = true)
  (h1 : (stepT C ops i p s).run ah some = some s1) (h2 : (stepT C ops j o s1).run ah some = some s2) :
  ∃ s', (stepT C ops j o s).run ah some = some s' /\ (stepT C ops i p s').run ah some = some s2 := by
 obtain ⟨x, z, d, hop, hx, hb, hpt, hz, hxo, hxd⟩ := NR hc
 have hzd : z ≠ d := fun e => hz (e ▸ sI hp (Ip hb))
 have hpz : fD (s.env z) = true := by rw [I z hz hpt]; exact hpt
 obtain ⟨_, hn, hk⟩ := Io hg hp hb h1
 have he := hk z hzd hpz
 rw [lq hg ho hop hx (by rw [he]; exact hpz)] at h2
 split at h2
 ·rename_i hbx
  simp only [Option.some.injEq, he] at h2
  refine ⟨⟨s.n, upd s.env x (s.env z), s.ak⟩, by rw [lq hg ho hop hx hpz, if_pos (by rw [<- hn]; exact hbx)], ?_⟩
  rw [QY hg hp hb hpz hxo hxd, h1, Option.map_some, h2]
 ·cases h2
end
def aaN {C : dA} {ah : FuncId -> (t : Ty) -> List Arg -> Option t.den} (ops : Array Oper) (s0 : St) (hg : ∀ o ∈ ops.toList, o.guard = none) (hq : ∀ o ∈ ops.toList, (dI C o || jl C o || ((nE o).isSome && oP C o) || (tV C o).isSome) = true) : LZ C ah ops :=
 have mem : ∀ {i : Nat} {o : Oper}, ops[i]? = some o -> o ∈ ops.toList := fun h => Array.mem_toList_iff.2 (Array.mem_of_getElem? h)
 ⟨Um C ops.toList s0, MInv ops.toList s0, fun _ => false, (fun h => by cases h), (fun h => by cases h), fun {s s1 o j} hI _ ho h => by
  cases hgv : tV C o with
  | none =>
   have := hq _ (mem ho)
   rw [hgv] at this
   exact WY hg (mem ho) (by simpa using this) hI h
  | some d =>
   obtain ⟨hd, _, hk⟩ := Io hg (mem ho) hgv h
   intro u hu Zi
   have hne : u ≠ d := fun e => hu (e ▸ sI (mem ho) hd)
   rw [hk u hne (by rw [hI u hu Zi]; exact Zi)]
   exact hI u hu Zi, fun {i j p o s s1 s2} l hI hp ho hcm h1 h2 => by
  unfold Um at hcm
  simp only [Bool.or_eq_true] at hcm
  rcases hcm with (((hcm | hcm) | hcm) | hcm) | hcm
  ·exact uZ l hcm h1 h2
  ·exact Md hg (mem hp) (mem ho) l hI hcm h1 h2
  ·exact Me hg (mem hp) (mem ho) l hI hcm h1 h2
  ·exact JM hg (mem hp) (mem ho) hI hcm h1 h2
  ·exact JN hg (mem hp) (mem ho) hI hcm h1 h2⟩
end Go.Flat
