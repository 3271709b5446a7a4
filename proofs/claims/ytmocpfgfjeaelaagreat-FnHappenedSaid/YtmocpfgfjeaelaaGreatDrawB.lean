/- A pointer that is copied, beside an append. No condition. -/
import Derived.Test.YtmocpfgfjeaelaaGreatDrawA
set_option linter.unusedVariables false
set_option linter.unusedSimpArgs false
namespace Go.Flat
section
variable {C : dn} {ah : FuncId -> (t : Ty) -> List Arg -> Option t.den} {ops : List Oper} {s0 : St}
theorem vJ {v : Slot} (h : fB v = true) (id : Nat) : v.kill id = v := by
 unfold fB at h
 split at h
 ·rfl
 ·cases h
theorem NT {a b : Oper} (h : Kr C ops s0 a b = true) : ∃ x z t y d, a.op = .move (.tmp z) /\ a.dst = some x /\ nK b = some (t, y, d) /\ pz C b = true /\ fB (s0.env z) = true /\ z ∉ dstsOf ops /\ x ∉ readsOf ops b /\ x ≠ d := by
 unfold Kr at h
 split at h
 ·rename_i z x t y d h1 h2 h3
  simp only [Bool.and_eq_true, Bool.not_eq_true'] at h
  obtain ⟨⟨⟨⟨k1, k2⟩, k3⟩, k4⟩, k5⟩ := h
  refine ⟨x, z, t, y, d, h1, h2, h3, k1, k2, by simpa using k3, by simpa using k4, fun e => ?_⟩
  subst e
  simp at k5
 ·cases h
theorem lJ (hg : ∀ o ∈ ops, o.guard = none) {i : Nat} {o : Oper} (ho : o ∈ ops) {x z : Tmp} (h1 : o.op = .move (.tmp z)) (h2 : o.dst = some x) {s : St} (hp : fB (s.env z) = true) :
  (stepT C ops i o s).run ah some = if uK x s.n = true then some ⟨s.n, upd s.env x (s.env z), s.ak⟩ else none := by
 have hgo := hg o ho
 unfold stepT
 simp only [hgo, mF hg, cond_false, T.og]
 obtain ⟨dst, op, type, pos, after, guard⟩ := o
 simp only at h1 h2
 subst h1 h2
 unfold fB at hp
 split at hp
 ·rename_i q off he
  simp only [mg, St.ev, he, St.put]
  cases hb : uK x s.n <;> simp [T.run]
 ·cases hp
theorem sK {o : Oper} (ho : o ∈ ops) {x : Tmp} (h : o.dst = some x) : x ∈ dstsOf ops := by
 simp only [dstsOf, List.mem_filterMap]
 exact ⟨o, ho, h⟩
def MInv (ops : List Oper) (s0 s : St) : Prop := ∀ t, t ∉ dstsOf ops -> fB (s0.env t) = true -> s.env t = s0.env t
theorem Md (hg : ∀ o ∈ ops, o.guard = none) {i j : Nat} {p o : Oper} (hp : p ∈ ops) (ho : o ∈ ops) {s s1 s2 : St} (l : Live s) (I : MInv ops s0 s) (hc : Kr C ops s0 p o = true)
  (h1 : (stepT C ops i p s).run ah some = some s1) (h2 : (stepT C ops j o s1).run ah some = some s2) :
  ∃ s', (stepT C ops j o s).run ah some = some s' /\ (stepT C ops i p s').run ah some = some s2 := by
 obtain ⟨x, z, t, y, d, hop, hx, hb, hfl, hpt, hz, hxo, hxd⟩ := NT hc
 obtain ⟨hod, hrd⟩ := rO hb
 have htx : t ≠ x := fun e => hxo (e ▸ hrd t (by simp) ops)
 have hyx : y ≠ x := fun e => hxo (e ▸ hrd y (by simp) ops)
 have hzd : z ≠ d := fun e => hz (e ▸ sK ho hod)
 have hpz : fB (s.env z) = true := by rw [I z hz hpt]; exact hpt
 rw [lJ hg hp hop hx hpz] at h1
 split at h1
 ·rename_i hbx
  simp only [Option.some.injEq] at h1
  subst h1
  rw [ny hg ho hfl hb] at h2
  have hvs : zX C o t y ⟨s.n, upd s.env x (s.env z), s.ak⟩ = zX C o t y s := vH (upd_ne _ _ htx) (upd_ne _ _ hyx) (fun _ _ => rfl) (fun _ _ => rfl)
  rw [hvs] at h2
  rw [rM] at h2
  obtain ⟨⟨w, E⟩, hw, h2⟩ := Option.bind_eq_some_iff.1 h2
  cases w with
  | none =>
   simp only [mO] at h2
   split at h2
   ·rename_i hk
    cases hbd : uK d s.n with
    | false => rw [hbd] at h2; cases h2
    | true =>
     rw [hbd] at h2
     simp only [cond_true, Option.some.injEq] at h2
     subst h2
     refine ⟨⟨s.n, upd s.env d (.cell (.ref (aJ d 0))), upd s.ak (aJ d 0) (some E)⟩, ?_, ?_⟩
     ·rw [ny hg ho hfl hb, hw]
      simp only [Option.bind_some, mO, hk, hbd, cond_true]
     ·have he : upd s.env d (.cell (.ref (aJ d 0))) z = s.env z := upd_ne _ _ hzd
      rw [lJ hg hp hop hx (by have hq := hpz; rw [<- he] at hq; exact hq)]
      simp only [hbx, if_true, he]
      rw [oU _ _ _ hxd]
   ·cases h2
  | some id =>
   simp only [mO] at h2
   cases hbd : uK d s.n with
   | false => rw [hbd] at h2; cases h2
   | true =>
    rw [hbd] at h2
    simp only [cond_true, Option.some.injEq] at h2
    subst h2
    refine ⟨⟨s.n, upd (fun t => (s.env t).kill id) d (.cell (.ref id)), Cb s.ak id E⟩, ?_, ?_⟩
    ·rw [ny hg ho hfl hb, hw]
     simp only [Option.bind_some, mO, hbd, cond_true]
    ·have he : upd (fun t => (s.env t).kill id) d (.cell (.ref id)) z = s.env z := (upd_ne _ _ hzd).trans (vJ hpz id)
     rw [lJ hg hp hop hx (by have hq := hpz; rw [<- he] at hq; exact hq)]
     simp only [hbx, if_true, he]
     have Ut : (fun t => (upd s.env x (s.env z) t).kill id) = upd (fun t => (s.env t).kill id) x (s.env z) := by
      funext u
      by_cases hu : u = x
      ·subst hu; rw [upd_same, upd_same, vJ hpz]
      ·rw [upd_ne _ _ hu, upd_ne _ _ hu]
     simp only [Ut]
     rw [oU _ _ _ hxd]
 ·cases h1
theorem Me (hg : ∀ o ∈ ops, o.guard = none) {i j : Nat} {p o : Oper} (hp : p ∈ ops) (ho : o ∈ ops) {s s1 s2 : St} (l : Live s) (I : MInv ops s0 s) (hc : Kr C ops s0 o p = true)
  (h1 : (stepT C ops i p s).run ah some = some s1) (h2 : (stepT C ops j o s1).run ah some = some s2) :
  ∃ s', (stepT C ops j o s).run ah some = some s' /\ (stepT C ops i p s').run ah some = some s2 := by
 obtain ⟨x, z, t, y, d, hop, hx, hb, hfl, hpt, hz, hxo, hxd⟩ := NT hc
 obtain ⟨hod, hrd⟩ := rO hb
 have htx : t ≠ x := fun e => hxo (e ▸ hrd t (by simp) ops)
 have hyx : y ≠ x := fun e => hxo (e ▸ hrd y (by simp) ops)
 have hzd : z ≠ d := fun e => hz (e ▸ sK hp hod)
 have hpz : fB (s.env z) = true := by rw [I z hz hpt]; exact hpt
 have hvs : zX C p t y ⟨s.n, upd s.env x (s.env z), s.ak⟩ = zX C p t y s := vH (upd_ne _ _ htx) (upd_ne _ _ hyx) (fun _ _ => rfl) (fun _ _ => rfl)
 rw [ny hg hp hfl hb] at h1
 rw [rM] at h1
 obtain ⟨⟨w, E⟩, hw, h1⟩ := Option.bind_eq_some_iff.1 h1
 cases w with
 | none =>
  simp only [mO] at h1
  split at h1
  ·rename_i hk
   cases hbd : uK d s.n with
   | false => rw [hbd] at h1; cases h1
   | true =>
    rw [hbd] at h1
    simp only [cond_true, Option.some.injEq] at h1
    subst h1
    have he : upd s.env d (.cell (.ref (aJ d 0))) z = s.env z := upd_ne _ _ hzd
    rw [lJ hg ho hop hx (by have hq := hpz; rw [<- he] at hq; exact hq)] at h2
    split at h2
    ·rename_i hbx
     simp only [Option.some.injEq, he] at h2
     subst h2
     refine ⟨⟨s.n, upd s.env x (s.env z), s.ak⟩, by rw [lJ hg ho hop hx hpz, if_pos hbx], ?_⟩
     rw [ny hg hp hfl hb, hvs, hw]
     simp only [Option.bind_some, mO, hk, hbd, cond_true]
     rw [oU _ _ _ hxd]
    ·cases h2
  ·cases h1
 | some id =>
  simp only [mO] at h1
  cases hbd : uK d s.n with
  | false => rw [hbd] at h1; cases h1
  | true =>
   rw [hbd] at h1
   simp only [cond_true, Option.some.injEq] at h1
   subst h1
   have he : upd (fun t => (s.env t).kill id) d (.cell (.ref id)) z = s.env z := (upd_ne _ _ hzd).trans (vJ hpz id)
   rw [lJ hg ho hop hx (by have hq := hpz; rw [<- he] at hq; exact hq)] at h2
   split at h2
   ·rename_i hbx
    simp only [Option.some.injEq, he] at h2
    subst h2
    refine ⟨⟨s.n, upd s.env x (s.env z), s.ak⟩, by rw [lJ hg ho hop hx hpz, if_pos hbx], ?_⟩
    rw [ny hg hp hfl hb, hvs, hw]
    simp only [Option.bind_some, mO, hbd, cond_true]
    have Ut : (fun t => (upd s.env x (s.env z) t).kill id) = upd (fun t => (s.env t).kill id) x (s.env z) := by
     funext u
     by_cases hu : u = x
     ·subst hu; rw [upd_same, upd_same, vJ hpz]
     ·rw [upd_ne _ _ hu, upd_ne _ _ hu]
    simp only [Ut]
    rw [oU _ _ _ hxd]
   ·cases h2
theorem Wn (hg : ∀ o ∈ ops, o.guard = none) {i : Nat} {o : Oper} (ho : o ∈ ops) (hq : (dG C o || jr C o || ((nK o).isSome && pz C o)) = true) {s s1 : St} (I : MInv ops s0 s) (h : (stepT C ops i o s).run ah some = some s1) : MInv ops s0 s1 := by
 simp only [Bool.or_eq_true, Bool.and_eq_true] at hq
 rcases hq with hq | ⟨ha, hfl⟩
 ·intro t ht hpt
  exact (KO ho (by simpa using hq) h t ht).trans (I t ht hpt)
 ·obtain ⟨⟨t, y, d⟩, ha⟩ := Option.isSome_iff_exists.1 ha
  obtain ⟨hod, _⟩ := rO ha
  have hd := sK ho hod
  rw [ny hg ho hfl ha, rM] at h
  obtain ⟨⟨w, E⟩, hw, h⟩ := Option.bind_eq_some_iff.1 h
  intro u hu XG
  have hne : u ≠ d := fun e => hu (e ▸ hd)
  cases w with
  | none =>
   simp only [mO] at h
   split at h
   ·cases hbd : uK d s.n with
    | false => rw [hbd] at h; cases h
    | true =>
     rw [hbd] at h
     simp only [cond_true, Option.some.injEq] at h
     subst h
     exact (upd_ne _ _ hne).trans (I u hu XG)
   ·cases h
  | some id =>
   simp only [mO] at h
   cases hbd : uK d s.n with
   | false => rw [hbd] at h; cases h
   | true =>
    rw [hbd] at h
    simp only [cond_true, Option.some.injEq] at h
    subst h
    show upd (fun t => (s.env t).kill id) d (.cell (.ref id)) u = _
    rw [upd_ne _ _ hne]
    show (s.env u).kill id = _
    rw [I u hu XG, vJ XG]
end
section
variable {C : dn}
theorem Sc (s : St) (c : Cap) : xC s c = xC ⟨0, fun _ => .undef, s.ak⟩ c := by cases c <;> rfl
theorem Il (s : St) : ∀ cs : List Cap, kG s cs = kG ⟨0, fun _ => .undef, s.ak⟩ cs
 | [] => rfl
 | c :: cs => by simp only [kG]; rw [Sc s c, Il s cs]
theorem Mf (s : St) (t : TypeId) (v : aH) : nH C s t v = nH C ⟨0, fun _ => .undef, s.ak⟩ t v := by
 unfold nH
 split
 ·rfl
 ·split
  ·rename_i f caps
   show (kG s caps).map _ = (kG _ caps).map _
   rw [Il s caps]
  ·rfl
  ·rfl
  ·rfl
theorem tF (s : St) (i : Nat) (a : Arg) : ∀ (n : Nat) (ts : List TypeId) (vs : List aH), lI C s i a n ts vs = lI C ⟨0, fun _ => .undef, s.ak⟩ i a n ts vs
 | _, _, [] => by simp [lI]
 | _, [], v :: vs => by simp [lI]
 | n, t :: ts, v :: vs => by simp only [lI]; rw [Mf s t v, tF s i a (n + 1) ts vs]
theorem wH (s : St) (vs : List aH) (caps : List Cap) : jQ s vs caps = jQ ⟨0, fun _ => .undef, s.ak⟩ vs caps := by
 have hc : ∀ c, kL s c = kL ⟨0, fun _ => .undef, s.ak⟩ c := fun c => by cases c <;> rfl
 have hcc : ∀ cs : List Cap, cs.any (kL s) = cs.any (kL ⟨0, fun _ => .undef, s.ak⟩) := fun cs => by rw [show kL s = kL ⟨0, fun _ => .undef, s.ak⟩ from funext hc]
 have hd : ∀ c, kM s c = kM ⟨0, fun _ => .undef, s.ak⟩ c := fun c => by
  cases c <;> first | rfl | exact hc _ | exact hcc _
 unfold jQ
 rw [hcc caps]
 have hv : ∀ v : aH, v.cells.any (kM s) = v.cells.any (kM ⟨0, fun _ => .undef, s.ak⟩) := fun v => by rw [show kM s = kM ⟨0, fun _ => .undef, s.ak⟩ from funext hd]
 simp only [hv]
theorem Wo {s : St} {x : Tmp} {v : Slot} (hv : fB v = true) (id : Nat) : (fun t => (upd s.env x v t).kill id) = upd (fun t => (s.env t).kill id) x v := by
 funext u
 by_cases hu : u = x
 ·subst hu; rw [upd_same, upd_same, vJ hv]
 ·rw [upd_ne _ _ hu, upd_ne _ _ hu]
theorem Im {x : Tmp} {v : Slot} (hv : fB v = true) : ∀ {ids : List Nat} {s : St}, (⟨s.n, upd s.env x v, s.ak⟩ : St).bO ids = ⟨(s.bO ids).n, upd (s.bO ids).env x v, (s.bO ids).ak⟩
 | [], s => rfl
 | id :: ids, s => by
  have e : (⟨s.n, upd s.env x v, s.ak⟩ : St).drop id = ⟨(s.drop id).n, upd (s.drop id).env x v, (s.drop id).ak⟩ := by
   show (⟨s.n, fun t => (upd s.env x v t).kill id, _⟩ : St) = ⟨s.n, upd (fun t => (s.env t).kill id) x v, _⟩
   rw [Wo hv]
   rfl
  show St.bO (St.drop ⟨s.n, upd s.env x v, s.ak⟩ id) ids = _
  rw [e]
  exact Im hv (s := s.drop id)
theorem EZ {z : Tmp} : ∀ {ids : List Nat} {s : St}, fB (s.env z) = true -> (s.bO ids).env z = s.env z
 | [], s, _ => rfl
 | id :: ids, s, h => by
  have e : (s.drop id).env z = s.env z := vJ h id
  show ((s.drop id).bO ids).env z = _
  rw [EZ (by rw [e]; exact h), e]
theorem vK {s : St} {x : Tmp} {v : Slot} : ∀ {xs : List Operand}, (∀ t, Operand.tmp t ∈ xs -> t ≠ x) -> dR ⟨s.n, upd s.env x v, s.ak⟩ xs = dR s xs
 | [], _ => rfl
 | y :: ys, h => by
  have hy : St.ev ⟨s.n, upd s.env x v, s.ak⟩ y = s.ev y := by
   cases y with
   | tmp t => exact upd_ne _ _ (h t (by simp))
   | _ => rfl
  simp only [dR, hy]
  rw [vK (fun t ht => h t (by simp [ht]))]
variable {ah : FuncId -> (t : Ty) -> List Arg -> Option t.den}
theorem NU {s : St} {o : Oper} {f : FuncId} {vs : List aH} {i : Nat} {x d : Tmp} {v : Slot} (hv : fB v = true) (hd : o.dst = some d) (hxd : x ≠ d) :
  (qA C ⟨s.n, upd s.env x v, s.ak⟩ o f vs [] i).run ah some = ((qA C s o f vs [] i).run ah some).map fun t => ⟨t.n, upd t.env x v, t.ak⟩ := by
 unfold qA
 cases C.P.funcs[f]? with
 | none => rfl
 | some fn =>
  cases vs[i]? with
  | none => rfl
  | some w =>
   simp only
   cases (fn.params.toList[i]?).bind C.ty with
   | none => rfl
   | some T0 =>
    simp only
    split
    ·cases bE s.ak .give T0 w.cells with
     | none => rfl
     | some y =>
      obtain ⟨y, ids⟩ := y
      simp only
      cases nodup ids with
      | false => rfl
      | true =>
       simp only [cond_true]
       rw [Im hv]
       rw [tF ⟨_, upd _ x v, _⟩, tF (s.bO ids), wH ⟨_, upd _ x v, _⟩, wH (s.bO ids)]
       simp only [kG]
       cases lI C ⟨0, fun _ => .undef, (s.bO ids).ak⟩ i (.give T0 y) 0 fn.params.toList (vs.map (sG · ids)) with
       | none => rfl
       | some args =>
        cases ((some [] : Option (List Cap)).bind (·.mapM tX)) with
        | none => rfl
        | some xD =>
         cases resTy C fn.resultTypes.toList with
         | none => rfl
         | some rt =>
          simp only
          split
          ·rfl
          ·simp only [T.run]
           cases ah f rt (args ++ xD) with
           | none => rfl
           | some r =>
            simp only [Option.bind_some]
            generalize jg (C.sig f).own (Nat.beq fn.resultTypes.size 1) (aJ (o.dst.getD 0)) rt r = rs
            obtain ⟨u, es⟩ := rs
            simp only [T.run_bind, mD, hd]
            cases dK (s.bO ids).ak es with
            | none => rfl
            | some σ =>
             simp only [Option.bind_some, St.put]
             cases uK d (s.bO ids).n with
             | false => rfl
             | true =>
              simp only [cond_true, T.gB, Option.map_some]
              rw [oU _ _ _ hxd]
    ·rfl
theorem Mg {s t : St} {o : Oper} {f : FuncId} {vs : List aH} {i : Nat} {d : Tmp} (hd : o.dst = some d) (h : (qA C s o f vs [] i).run ah some = some t) : t.n = s.n /\ ∀ z, z ≠ d -> fB (s.env z) = true -> t.env z = s.env z := by
 unfold qA at h
 split at h
 ·split at h
  ·split at h
   ·split at h
    ·rename_i y ids hof
     cases hnd : nodup ids with
     | false => rw [hnd] at h; cases h
     | true =>
      rw [hnd] at h
      simp only [cond_true] at h
      split at h
      ·split at h
       ·cases h
       ·simp only [T.run] at h
        rw [Option.bind_eq_some_iff] at h
        obtain ⟨r, _, h⟩ := h
        generalize jg _ _ _ _ r = rs at h
        obtain ⟨u, es⟩ := rs
        simp only [T.run_bind, mD, hd] at h
        rw [Option.bind_eq_some_iff] at h
        obtain ⟨σ, _, h⟩ := h
        simp only [St.put] at h
        cases hb : uK d (s.bO ids).n with
        | false => rw [hb] at h; cases h
        | true =>
         rw [hb] at h
         simp only [cond_true, T.gB, Option.some.injEq] at h
         subst h
         exact ⟨KD, fun z hz hp => (upd_ne _ _ hz).trans (EZ hp)⟩
      ·cases h
    ·cases h
   ·cases h
  ·cases h
 ·cases h
variable {ops : List Oper} {s0 : St}
theorem NV (hg : ∀ o ∈ ops, o.guard = none) {j : Nat} {o : Oper} (ho : o ∈ ops) {d : Tmp} (hgo : tY C o = some d) : ∃ (f : FuncId) (args : List Operand) (i : Nat), o.dst = some d /\ (∀ t, Operand.tmp t ∈ args -> ∀ ops : List Oper, t ∈ readsOf ops o) /\
  ∀ s : St, stepT C ops j o s = match dR s args with
   | some vs => qA C s o f vs [] i
   | none => .fail := by
 unfold tY at hgo
 split at hgo
 ·rename_i f args ats dd h1 h2
  split at hgo
  ·rename_i hc
   simp only [Option.some.injEq] at hgo
   subst hgo
   simp only [Bool.and_eq_true] at hc
   cases BP : (C.sig f).io with
   | nil => rw [BP] at hc; simp at hc
   | cons i r =>
    refine ⟨f, args.toList, i, h2, fun t ht ops' => ?_, fun s => ?_⟩
    ·unfold readsOf
     refine List.mem_append_left _ (List.mem_filterMap.2 ⟨.tmp t, ?_, rfl⟩)
     rw [h1]
     simp only [Op.operands]
     simp [Call.operands, ht]
    ·have hgu := hg o ho
     unfold stepT
     simp only [hgu, mF hg, cond_false, T.og]
     obtain ⟨dst, op, type, pos, after, guard⟩ := o
     simp only at h1 h2
     subst h1 h2
     have hl : (C.sig f).lend = none := by simpa using hc.1
     simp only [mg, St.ev]
     cases dR s args.toList with
     | none => rfl
     | some vs => simp only [DF, hl, BP]
  ·cases hgo
 ·cases hgo
theorem Rc (hg : ∀ o ∈ ops, o.guard = none) {j : Nat} {o : Oper} (ho : o ∈ ops) {d : Tmp} (hgo : tY C o = some d) {s : St} {x : Tmp} {v : Slot} (hv : fB v = true) (hx : x ∉ readsOf ops o) (hxd : x ≠ d) :
  (stepT C ops j o ⟨s.n, upd s.env x v, s.ak⟩).run ah some = ((stepT C ops j o s).run ah some).map fun t => ⟨t.n, upd t.env x v, t.ak⟩ := by
 obtain ⟨f, args, i, hd, hr, hs⟩ := NV hg ho hgo (j := j)
 rw [hs, hs, vK (fun t ht (e : t = x) => hx (by rw [<- e]; exact hr t ht ops))]
 cases dR s args with
 | none => rfl
 | some vs => exact NU hv hd hxd
theorem Io (hg : ∀ o ∈ ops, o.guard = none) {j : Nat} {o : Oper} (ho : o ∈ ops) {d : Tmp} (hgo : tY C o = some d) {s t : St} (h : (stepT C ops j o s).run ah some = some t) : o.dst = some d /\ t.n = s.n /\ ∀ z, z ≠ d -> fB (s.env z) = true -> t.env z = s.env z := by
 obtain ⟨f, args, i, hd, hr, hs⟩ := NV hg ho hgo (j := j)
 rw [hs] at h
 cases hc : dR s args with
 | none => rw [hc] at h; cases h
 | some vs => rw [hc] at h; exact ⟨hd, Mg hd h⟩
theorem NW {a b : Oper} (h : Kt C ops s0 a b = true) : ∃ x z d, a.op = .move (.tmp z) /\ a.dst = some x /\ tY C b = some d /\ fB (s0.env z) = true /\ z ∉ dstsOf ops /\ x ∉ readsOf ops b /\ x ≠ d := by
 unfold Kt at h
 split at h
 ·rename_i z x d h1 h2 h3
  simp only [Bool.and_eq_true, Bool.not_eq_true'] at h
  obtain ⟨⟨⟨k2, k3⟩, k4⟩, k5⟩ := h
  refine ⟨x, z, d, h1, h2, h3, k2, by simpa using k3, by simpa using k4, fun e => ?_⟩
  subst e
  simp at k5
 ·cases h
theorem Ip {o : Oper} {d : Tmp} (h : tY C o = some d) : o.dst = some d := by
 unfold tY at h
 split at h
 ·split at h
  ·simp only [Option.some.injEq] at h
   subst h
   assumption
  ·cases h
 ·cases h
theorem JN (hg : ∀ o ∈ ops, o.guard = none) {i j : Nat} {p o : Oper} (hp : p ∈ ops) (ho : o ∈ ops) {s s1 s2 : St} (I : MInv ops s0 s) (hc : Kt C ops s0 p o = true)
  (h1 : (stepT C ops i p s).run ah some = some s1) (h2 : (stepT C ops j o s1).run ah some = some s2) :
  ∃ s', (stepT C ops j o s).run ah some = some s' /\ (stepT C ops i p s').run ah some = some s2 := by
 obtain ⟨x, z, d, hop, hx, hb, hpt, hz, hxo, hxd⟩ := NW hc
 have hzd : z ≠ d := fun e => hz (e ▸ sK ho (Ip hb))
 have hpz : fB (s.env z) = true := by rw [I z hz hpt]; exact hpt
 rw [lJ hg hp hop hx hpz] at h1
 split at h1
 ·rename_i hbx
  simp only [Option.some.injEq] at h1
  subst h1
  rw [Rc hg ho hb hpz hxo hxd] at h2
  obtain ⟨t, ht, rfl⟩ := Option.map_eq_some_iff.1 h2
  obtain ⟨_, hn, hk⟩ := Io hg ho hb ht
  refine ⟨t, ht, ?_⟩
  have he := hk z hzd hpz
  rw [lJ hg hp hop hx (by rw [he]; exact hpz), if_pos (by rw [hn]; exact hbx), he]
 ·cases h1
theorem JO (hg : ∀ o ∈ ops, o.guard = none) {i j : Nat} {p o : Oper} (hp : p ∈ ops) (ho : o ∈ ops) {s s1 s2 : St} (I : MInv ops s0 s) (hc : Kt C ops s0 o p = true)
  (h1 : (stepT C ops i p s).run ah some = some s1) (h2 : (stepT C ops j o s1).run ah some = some s2) :
  ∃ s', (stepT C ops j o s).run ah some = some s' /\ (stepT C ops i p s').run ah some = some s2 := by
 obtain ⟨x, z, d, hop, hx, hb, hpt, hz, hxo, hxd⟩ := NW hc
 have hzd : z ≠ d := fun e => hz (e ▸ sK hp (Ip hb))
 have hpz : fB (s.env z) = true := by rw [I z hz hpt]; exact hpt
 obtain ⟨_, hn, hk⟩ := Io hg hp hb h1
 have he := hk z hzd hpz
 rw [lJ hg ho hop hx (by rw [he]; exact hpz)] at h2
 split at h2
 ·rename_i hbx
  simp only [Option.some.injEq, he] at h2
  refine ⟨⟨s.n, upd s.env x (s.env z), s.ak⟩, by rw [lJ hg ho hop hx hpz, if_pos (by rw [<- hn]; exact hbx)], ?_⟩
  rw [Rc hg hp hb hpz hxo hxd, h1, Option.map_some, h2]
 ·cases h2
end
def Zl {C : dn} {ah : FuncId -> (t : Ty) -> List Arg -> Option t.den} (ops : Array Oper) (s0 : St) (hg : ∀ o ∈ ops.toList, o.guard = none) (hq : ∀ o ∈ ops.toList, (dG C o || jr C o || ((nK o).isSome && pz C o) || (tY C o).isSome) = true) : LZ C ah ops :=
 have mem : ∀ {i : Nat} {o : Oper}, ops[i]? = some o -> o ∈ ops.toList := fun h => Array.mem_toList_iff.2 (Array.mem_of_getElem? h)
 ⟨TD C ops.toList s0, MInv ops.toList s0, fun _ => false, (fun h => by cases h), (fun h => by cases h), fun {s s1 o j} hI _ ho h => by
  cases hgv : tY C o with
  | none =>
   have := hq _ (mem ho)
   rw [hgv] at this
   exact Wn hg (mem ho) (by simpa using this) hI h
  | some d =>
   obtain ⟨hd, _, hk⟩ := Io hg (mem ho) hgv h
   intro u hu XG
   have hne : u ≠ d := fun e => hu (e ▸ sK (mem ho) hd)
   rw [hk u hne (by rw [hI u hu XG]; exact XG)]
   exact hI u hu XG, fun {i j p o s s1 s2} l hI hp ho hcm h1 h2 => by
  unfold TD at hcm
  simp only [Bool.or_eq_true] at hcm
  rcases hcm with (((hcm | hcm) | hcm) | hcm) | hcm
  ·exact vw l hcm h1 h2
  ·exact Md hg (mem hp) (mem ho) l hI hcm h1 h2
  ·exact Me hg (mem hp) (mem ho) l hI hcm h1 h2
  ·exact JN hg (mem hp) (mem ho) hI hcm h1 h2
  ·exact JO hg (mem hp) (mem ho) hI hcm h1 h2⟩
end Go.Flat
