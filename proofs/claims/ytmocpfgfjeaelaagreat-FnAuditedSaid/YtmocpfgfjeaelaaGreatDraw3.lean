/- Regions whose order is open. No condition. -/
import Derived.Test.YtmocpfgfjeaelaaGreatDraw2
import Derived.Orders
set_option linter.unusedVariables false
set_option linter.unusedSimpArgs false
namespace Go.Flat

theorem T.run_split {α R : Type} (callF : FuncId → (t : Ty) → List Arg → Option t.den) (x : T α) (κ : α → Option R) : x.run callF κ = (x.run callF some).bind κ := by
  induction x with
  | ret a => rfl
  | fail => rfl
  | br p d x y ihx ihy =>
    simp only [T.run]
    rw [ihx, ihy]
    cases d <;> rfl
  | call f t args k ih =>
    simp only [T.run]
    cases callF f t args with
    | none => rfl
    | some v => exact ih v

theorem T.run_some {α R : Type} {callF : FuncId → (t : Ty) → List Arg → Option t.den} {x : T α} {κ : α → Option R} {r : R} (h : x.run callF κ = some r) :
    ∃ a, x.run callF some = some a ∧ κ a = some r := by
  rw [T.run_split] at h
  exact Option.bind_eq_some_iff.1 h

theorem T.run_of {α R : Type} {callF : FuncId → (t : Ty) → List Arg → Option t.den} {x : T α} {κ : α → Option R} {a : α} (h : x.run callF some = some a) : x.run callF κ = κ a := by
  rw [T.run_split, h]
  rfl

/-! ### Rows laid down -/
def allocO (σ : Nat → Option Entry) : List (Nat × Entry) → Option (Nat → Option Entry)
  | [] => some σ
  | (k, e) :: r => match σ k with
    | none => allocO (upd σ k (some e)) r
    | some _ => none

theorem allocAll_run {R : Type} {callF : FuncId → (t : Ty) → List Arg → Option t.den} : ∀ {es : List (Nat × Entry)} {s : St} {κ : St → Option R}, (allocAll s es).run callF κ = (allocO s.sto es).bind fun σ => κ { s with sto := σ }
  | [], s, κ => rfl
  | (k, e) :: r, s, κ => by
    simp only [allocAll, T.run_bind, St.alloc, allocO]
    cases s.sto k with
    | none => simp only [T.run_ret]; exact allocAll_run
    | some _ => rfl

theorem commit_run {R : Type} {callF : FuncId → (t : Ty) → List Arg → Option t.den} {d : Tmp} {s : St} {x : Slot × List (Nat × Entry)} {κ : St → Option R} :
    (commitT (some d) s x).run callF κ = (allocO s.sto x.2).bind fun σ => bif inN d s.n then κ { n := s.n, env := upd s.env d x.1, sto := σ } else none := by
  unfold commitT
  rw [T.run_bind, allocAll_run]
  congr 1
  funext σ
  simp only [St.put]
  cases inN d s.n <;> rfl

theorem allocO_mono : ∀ {es : List (Nat × Entry)} {σ σ' : Nat → Option Entry}, allocO σ es = some σ' → ∀ id e, σ id = some e → σ' id = some e
  | [], σ, σ', h, id, e, he => by simp [allocO] at h; subst h; exact he
  | (k, x) :: r, σ, σ', h, id, e, he => by
    simp only [allocO] at h
    split at h
    · rename_i hk
      refine allocO_mono h id e ?_
      rw [upd_ne _ _ (fun hc => by subst hc; rw [hk] at he; cases he)]
      exact he
    · cases h

theorem upd_comm {α : Type} (f : Nat → α) {i j : Nat} (v u : α) (h : i ≠ j) : upd (upd f i v) j u = upd (upd f j u) i v := by
  funext t
  by_cases h1 : t = i
  · subst h1; rw [upd_same, upd_ne _ _ h, upd_same]
  · by_cases h2 : t = j
    · subst h2; rw [upd_same, upd_ne _ _ h1, upd_same]
    · rw [upd_ne _ _ h2, upd_ne _ _ h1, upd_ne _ _ h1, upd_ne _ _ h2]

theorem upd_upd {α : Type} (f : Nat → α) (i : Nat) (v u : α) : upd (upd f i v) i u = upd f i u := by
  funext t
  by_cases h1 : t = i
  · subst h1; rw [upd_same, upd_same]
  · rw [upd_ne _ _ h1, upd_ne _ _ h1, upd_ne _ _ h1]

theorem allocO_perm {l l' : List (Nat × Entry)} (p : l.Perm l') : ∀ {σ σ' : Nat → Option Entry}, allocO σ l = some σ' → allocO σ l' = some σ' := by
  induction p with
  | nil => exact fun h => h
  | cons x _ ih =>
    intro σ σ' h
    obtain ⟨k, e⟩ := x
    simp only [allocO] at h ⊢
    split at h
    · exact ih h
    · cases h
  | swap x y l =>
    intro σ σ' h
    obtain ⟨k, e⟩ := x
    obtain ⟨j, f⟩ := y
    simp only [allocO] at h ⊢
    split at h
    · rename_i hj
      split at h
      · rename_i hk
        have hne : k ≠ j := fun hc => by subst hc; rw [upd_same] at hk; cases hk
        rw [upd_ne _ _ hne] at hk
        rw [hk]
        simp only
        rw [upd_ne _ _ (Ne.symm hne), hj]
        simp only
        rw [upd_comm _ _ _ hne]
        exact h
      · cases h
    · cases h
  | trans _ _ ih1 ih2 => exact fun h => ih2 (ih1 h)

theorem allocO_append : ∀ {es fs : List (Nat × Entry)} {σ : Nat → Option Entry}, allocO σ (es ++ fs) = (allocO σ es).bind fun σ => allocO σ fs
  | [], fs, σ => rfl
  | (k, e) :: es, fs, σ => by
    simp only [List.cons_append, allocO]
    cases σ k with
    | none => exact allocO_append
    | some _ => rfl

theorem allocO_swap {es fs : List (Nat × Entry)} {σ σ1 σ2 : Nat → Option Entry} (h1 : allocO σ es = some σ1) (h2 : allocO σ1 fs = some σ2) :
    ∃ σ', allocO σ fs = some σ' ∧ allocO σ' es = some σ2 := by
  have h : allocO σ (es ++ fs) = some σ2 := by rw [allocO_append, h1]; exact h2
  have h := allocO_perm List.perm_append_comm h
  rw [allocO_append] at h
  exact Option.bind_eq_some_iff.1 h

/-! ### What one step of a quiet operation gives -/
def decV : Slot → T Slot
  | .one (.cell (.prop p d)) => .br p d (.ret (.cell (.bool true))) (.ret (.cell (.bool false)))
  | v => .ret v

theorem decide_run {R : Type} {callF : FuncId → (t : Ty) → List Arg → Option t.den} {d : Tmp} {s : St} {x : Slot × List (Nat × Entry)} {κ : St → Option R} :
    ((commitT (some d) s x).bind fun s => decideDst s (some d)).run callF κ = ((decV x.1).bind fun v => commitT (some d) s (v, x.2)).run callF κ := by
  obtain ⟨v, es⟩ := x
  rw [T.run_bind, commit_run]
  have other : decV v = .ret v → (∀ s' : St, s'.env d = v → decideDst s' (some d) = .ret s') → ((allocO s.sto es).bind fun σ => bif inN d s.n then (decideDst { n := s.n, env := upd s.env d v, sto := σ } (some d)).run callF κ else none) = ((decV v).bind fun v => commitT (some d) s (v, es)).run callF κ := by
    intro h1 h2
    rw [h1, T.bind_ret, commit_run]
    congr 1
    funext σ
    rw [h2 _ (upd_same _ _ _)]
    rfl
  cases v with
  | tup cs => exact other rfl (fun s' h => by simp only [decideDst, h])
  | one c =>
    cases c with
    | agg cs => exact other rfl (fun s' h => by simp only [decideDst, h])
    | cell c =>
      cases c <;> try exact other rfl (fun s' h => by simp only [decideDst, h])
      case prop p dec =>
        simp only [decV, T.bind, T.run]
        simp only [commit_run]
        have e : ∀ σ, (decideDst { n := s.n, env := upd s.env d (.one (.cell (.prop p dec))), sto := σ } (some d)).run callF κ = if p then κ { n := s.n, env := upd s.env d (.cell (.bool true)), sto := σ } else κ { n := s.n, env := upd s.env d (.cell (.bool false)), sto := σ } := fun σ => by
          simp only [decideDst, upd_same, upd_upd, T.run]
        simp only [e]
        cases dec with
        | isTrue hp => simp only [if_pos hp]
        | isFalse hp => simp only [if_neg hp]

def gv (C : Cfg) (ops : List Oper) (i : Nat) (o : Oper) (s : St) : T (Slot × List (Nat × Entry)) :=
  let go := (valT C o s).bind fun x => bif isGuard ops i then (decV x.1).bind fun v => .ret (v, x.2) else .ret x
  match o.guard with
  | none => go
  | some (j, want) => match guardDst ops j with
    | some d => match s.env d with
      | .one (.cell (.bool b)) => bif b == want then go else .ret (.cell .void, [])
      | .one (.cell .void) => .ret (.cell .void, [])
      | _ => .fail
    | none => .fail

theorem step_gv {C : Cfg} {R : Type} {callF : FuncId → (t : Ty) → List Arg → Option t.den} {ops : List Oper} {i : Nat} {o : Oper} {s : St} {κ : St → Option R} (hq : quietOp C o = true) :
    (stepT C ops i o s).run callF κ = ((gv C ops i o s).bind (commitT o.dst s)).run callF κ := by
  obtain ⟨d, hd⟩ : ∃ d, o.dst = some d := Option.isSome_iff_exists.1 (by simp only [quietOp, Bool.and_eq_true] at hq; exact hq.1)
  have go : ((opT C o s).bind fun s => bif isGuard ops i then decideDst s o.dst else .ret s).run callF κ = (((valT C o s).bind fun x => bif isGuard ops i then (decV x.1).bind fun v => .ret (v, x.2) else .ret x).bind (commitT o.dst s)).run callF κ := by
    rw [opT_val hq, T.bind_assoc, T.bind_assoc, T.run_bind, T.run_bind]
    congr 1
    funext x
    cases isGuard ops i with
    | false => simp only [cond_false, T.run_bind, T.run_ret, T.bind_ret]
    | true =>
      simp only [cond_true]
      rw [hd, decide_run, T.bind_assoc]
      rfl
  unfold stepT gv
  simp only
  cases o.guard with
  | none => exact go
  | some g =>
    obtain ⟨j, want⟩ := g
    simp only
    cases guardDst ops j with
    | none => rfl
    | some d' =>
      simp only
      cases s.env d' with
      | tup cs => rfl
      | one c =>
        cases c with
        | agg cs => rfl
        | cell c =>
          cases c <;> try rfl
          case bool b =>
            simp only
            cases b == want with
            | false => rfl
            | true => exact go

theorem gv_ext {C : Cfg} {ops : List Oper} {i : Nat} {o : Oper} {s s1 : St} (l : Live s) (hq : quietOp C o = true) (e : Ext s s1 o.op.operands.toList)
    (hg : ∀ j w d, o.guard = some (j, w) → guardDst ops j = some d → s1.env d = s.env d) : gv C ops i o s1 = gv C ops i o s := by
  unfold gv
  rw [valT_ext l hq e]
  simp only
  cases ho : o.guard with
  | none => rfl
  | some g =>
    obtain ⟨j, want⟩ := g
    simp only
    cases hd : guardDst ops j with
    | none => rfl
    | some d => simp only; rw [hg j want d ho hd]

/-- After another's value has been put. -/
theorem ext_put {C : Cfg} {ops : List Oper} {o : Oper} {s : St} {d : Tmp} {v : Slot} {es : List (Nat × Entry)} {σ : Nat → Option Entry} (hs : allocO s.sto es = some σ) (hr : (readsOf ops o).contains d = false) :
    Ext s { n := s.n, env := upd s.env d v, sto := σ } o.op.operands.toList ∧ ∀ j w d', o.guard = some (j, w) → guardDst ops j = some d' → upd s.env d v d' = s.env d' := by
  have hr : d ∉ readsOf ops o := by simpa using hr
  refine ⟨⟨allocO_mono hs, fun x hx => ?_⟩, fun j w d' hg hd => ?_⟩
  · cases x with
    | tmp t =>
      refine upd_ne _ _ fun hc => hr ?_
      subst hc
      unfold readsOf
      exact List.mem_append_left _ (List.mem_filterMap.2 ⟨_, hx, rfl⟩)
    | global g => rfl
    | func f => rfl
    | const v => rfl
  · refine upd_ne _ _ fun hc => hr ?_
    subst hc
    unfold readsOf
    rw [hg]
    exact List.mem_append_right _ (by simp [hd])

/-- Two that are apart, in the other order. -/
theorem step_swapQ {C : Cfg} {callF : FuncId → (t : Ty) → List Arg → Option t.den} {ops : List Oper} {i j : Nat} {p o : Oper} {s s1 s2 : St} (l : Live s) (hc : commQ C ops p o = true)
    (h1 : (stepT C ops i p s).run callF some = some s1) (h2 : (stepT C ops j o s1).run callF some = some s2) :
    ∃ s', (stepT C ops j o s).run callF some = some s' ∧ (stepT C ops i p s').run callF some = some s2 := by
  unfold commQ at hc
  simp only [Bool.and_eq_true] at hc
  obtain ⟨⟨hqp, hqo⟩, hc⟩ := hc
  split at hc
  · rename_i x y hx hy
    simp only [Bool.and_eq_true, Bool.not_eq_true'] at hc
    obtain ⟨⟨hxy, hox⟩, hpy⟩ := hc
    have hne : x ≠ y := fun e => by subst e; simp at hxy
    rw [step_gv hqp, hx, T.run_bind] at h1
    obtain ⟨⟨v, es⟩, hv, h1⟩ := T.run_some h1
    rw [commit_run] at h1
    obtain ⟨σ1, hσ1, h1⟩ := Option.bind_eq_some_iff.1 h1
    cases hb : inN x s.n with
    | false => rw [hb] at h1; cases h1
    | true =>
      rw [hb] at h1
      simp only [cond_true, Option.some.injEq] at h1
      subst h1
      obtain ⟨e1, g1⟩ := ext_put (C := C) (ops := ops) (o := o) (v := v) hσ1 hox
      rw [step_gv hqo, hy, T.run_bind, gv_ext l hqo e1 g1] at h2
      obtain ⟨⟨u, fs⟩, hu, h2⟩ := T.run_some h2
      rw [commit_run] at h2
      obtain ⟨σ2, hσ2, h2⟩ := Option.bind_eq_some_iff.1 h2
      simp only at h2 hσ2
      cases hb2 : inN y s.n with
      | false => rw [hb2] at h2; cases h2
      | true =>
        rw [hb2] at h2
        simp only [cond_true, Option.some.injEq] at h2
        subst h2
        obtain ⟨σ', hf, he⟩ := allocO_swap hσ1 hσ2
        obtain ⟨e2, g2⟩ := ext_put (C := C) (ops := ops) (o := p) (v := u) hf hpy
        refine ⟨{ n := s.n, env := upd s.env y u, sto := σ' }, ?_, ?_⟩
        · rw [step_gv hqo, hy, T.run_bind, T.run_of hu, commit_run, hf]
          simp only [Option.bind_some, hb2, cond_true]
        · rw [step_gv hqp, hx, T.run_bind, gv_ext l hqp e2 g2, T.run_of hv, commit_run]
          simp only
          rw [he]
          simp only [Option.bind_some, hb, cond_true]
          rw [upd_comm _ _ _ (Ne.symm hne)]
  · cases hc

/-- One that looks at slots alone gives the same whatever lies in memory, and lays nothing. -/
theorem slot_gv {C : Cfg} {ops : List Oper} {i : Nat} {o : Oper} {n : Nat} {env : Nat → Slot} {σ σ' : Nat → Option Entry} (h : slotOp o = true) : gv C ops i o ⟨n, env, σ'⟩ = gv C ops i o ⟨n, env, σ⟩ := by
  have hev : ∀ x, St.ev ⟨n, env, σ'⟩ x = St.ev ⟨n, env, σ⟩ x := fun x => by cases x <;> rfl
  have hcomp : ∀ x, St.comp ⟨n, env, σ'⟩ x = St.comp ⟨n, env, σ⟩ x := fun x => by unfold St.comp; rw [hev]
  have hbc : ∀ (t : TypeId) (ps : List (Nat × Operand)) (cs : List Cell), buildCells C ⟨n, env, σ'⟩ t ps cs = buildCells C ⟨n, env, σ⟩ t ps cs := by
    intro t ps
    induction ps with
    | nil => intro cs; rfl
    | cons p r ih => intro cs; obtain ⟨i, x⟩ := p; simp only [buildCells, hev, ih]
  have hv : valT C o ⟨n, env, σ'⟩ = valT C o ⟨n, env, σ⟩ := by
    obtain ⟨dst, op, type, pos, after, guard⟩ := o
    cases op <;> first
      | (simp only [valT, hev, hcomp, hbc]; done)
      | (simp [slotOp] at h; done)
  unfold gv
  rw [hv]

theorem slot_none {C : Cfg} {callF : FuncId → (t : Ty) → List Arg → Option t.den} {ops : List Oper} {i : Nat} {o : Oper} {s : St} {v : Slot} {es : List (Nat × Entry)} (h : slotOp o = true) (hr : (gv C ops i o s).run callF some = some (v, es)) : es = [] := by
  have hv : ∀ {v es}, (valT C o s).run callF some = some (v, es) → es = [] := by
    intro v es hr
    obtain ⟨dst, op, type, pos, after, guard⟩ := o
    cases op <;> simp only [slotOp] at h <;> try (cases h; done)
    case pick c a b =>
      simp only [valT] at hr
      split at hr
      · cases hr; rfl
      · cases hr; rfl
      · simp only [T.run, T.run_ret] at hr
        split at hr <;> (cases hr; rfl)
      · cases hr
    case nilCheck x =>
      simp only [valT] at hr
      split at hr <;> cases hr <;> rfl
    case binOp op t x y t' =>
      simp only [valT, T.run_bind] at hr
      obtain ⟨a, _, hr⟩ := T.run_some hr
      obtain ⟨b, _, hr⟩ := T.run_some hr
      obtain ⟨c, _, hr⟩ := T.run_some hr
      cases hr; rfl
    case unOp op t x =>
      simp only [valT, T.run_bind] at hr
      obtain ⟨a, _, hr⟩ := T.run_some hr
      obtain ⟨c, _, hr⟩ := T.run_some hr
      cases hr; rfl
    case build t parts =>
      simp only [valT] at hr
      split at hr
      · split at hr
        · split at hr
          · cases hr; rfl
          · cases hr
        · cases hr
      · cases hr
    case fieldAddr t x ix =>
      simp only [valT] at hr
      split at hr <;> cases hr <;> rfl
    case field t x ix =>
      simp only [valT] at hr
      split at hr
      · split at hr
        · split at hr <;> cases hr <;> rfl
        · cases hr
      · cases hr
    case extract x ix =>
      simp only [valT] at hr
      split at hr
      · split at hr <;> cases hr <;> rfl
      · cases hr
  have go : ((valT C o s).bind fun x => bif isGuard ops i then (decV x.1).bind fun v => .ret (v, x.2) else .ret x).run callF some = some (v, es) → es = [] := by
    intro hr
    rw [T.run_bind] at hr
    obtain ⟨⟨u, fs⟩, h1, h2⟩ := T.run_some hr
    have := hv h1
    subst this
    cases hg : isGuard ops i with
    | false => rw [hg] at h2; cases h2; rfl
    | true =>
      rw [hg] at h2
      simp only [cond_true, T.run_bind] at h2
      obtain ⟨c, _, h2⟩ := T.run_some h2
      cases h2; rfl
  unfold gv at hr
  simp only at hr
  split at hr
  · exact go hr
  · rename_i j want hg
    split at hr
    · rename_i d hd
      split at hr
      · rename_i b hb
        cases hbw : (b == want) with
        | true => rw [hbw] at hr; exact go hr
        | false => rw [hbw] at hr; cases hr; rfl
      · cases hr; rfl
      · cases hr
    · cases hr

/-- A store, whatever the slots that it does not look at. -/
theorem store_step {C : Cfg} {callF : FuncId → (t : Ty) → List Arg → Option t.den} {ops : List Oper} {i : Nat} {o : Oper} {s s1 : St} {env' : Nat → Slot} (h : storeOp C o = true)
    (hr : ∀ t ∈ readsOf ops o, env' t = s.env t) (hs : (stepT C ops i o s).run callF some = some s1) :
    s1.n = s.n ∧ s1.env = s.env ∧ (stepT C ops i o ⟨s.n, env', s.sto⟩).run callF some = some ⟨s.n, env', s1.sto⟩ := by
  obtain ⟨dst, op, type, pos, after, guard⟩ := o
  simp only [storeOp, Bool.and_eq_true] at h
  obtain ⟨hd, h⟩ := h
  cases dst with
  | some _ => cases hd
  | none =>
    cases op <;> simp only at h <;> try (cases h; done)
    case store t p x =>
      have hg0 : C.gives.contains t = false := by simpa using h
      have hev : ∀ y ∈ [p, x], St.ev ⟨s.n, env', s.sto⟩ y = s.ev y := by
        intro y hy
        cases y with
        | tmp u =>
          refine hr u ?_
          unfold readsOf
          refine List.mem_append_left _ (List.mem_filterMap.2 ⟨.tmp u, ?_, rfl⟩)
          simp [Op.operands] at hy ⊢
          rcases hy with hy | hy <;> simp [hy]
        | global g => rfl
        | func f => rfl
        | const v => rfl
      have hguard : ∀ j w d, guard = some (j, w) → guardDst ops j = some d → env' d = s.env d := fun j w d hg hdd => hr d (by
        unfold readsOf
        simp only [hg]
        exact List.mem_append_right _ (by simp [hdd]))
      -- the store itself
      have hst : ∀ {n : Nat} {new : List Cell} {c : Cell} {s2 : St}, (s.store false n new c).run callF some = some s2 → s2.n = s.n ∧ s2.env = s.env ∧ (St.store ⟨s.n, env', s.sto⟩ false n new c).run callF some = some ⟨s.n, env', s2.sto⟩ := by
        intro n new c s2 hh
        cases c <;> simp only [St.store] at hh ⊢ <;> try (cases hh; done)
        case ptr id off =>
          split at hh
          · rename_i t cs hse
            split at hh
            · rename_i hc
              cases hh
              first | rw [hse] | skip
              simp only [if_pos hc, T.run_ret]
              simp
            · cases hh
          · cases hh
        case eptr id j off =>
          split at hh
          · rename_i t l ow hse
            split at hh
            · cases hh
            · rename_i hf
              split at hh
              · rename_i hc
                split at hh
                · rename_i y ids hof
                  split at hh
                  · cases hh
                  · rename_i hcon
                    cases hh
                    first | rw [hse] | skip
                    simp only [if_neg hf, if_pos hc]
                    first | rw [hof] | skip
                    simp only [if_neg hcon, T.run_ret]
                    simp
                · cases hh
              · cases hh
          · cases hh
        case dptr id j off =>
          simp only [storeD] at hh ⊢
          split at hh
          · rename_i t l pin hse
            first | rw [hse] | skip
            split at hh
            · rename_i y hy
              cases hh
              simp only [hy, T.run_ret]
              simp
            · split at hh
              · rename_i hc
                exact absurd hc.2.2 (by simp)
              · cases hh
          · cases hh
      have hop : ∀ {s2 : St}, (opT C ⟨none, .store t p x, type, pos, after, guard⟩ s).run callF some = some s2 → s2.n = s.n ∧ s2.env = s.env ∧ (opT C ⟨none, .store t p x, type, pos, after, guard⟩ ⟨s.n, env', s.sto⟩).run callF some = some ⟨s.n, env', s2.sto⟩ := by
        intro s2 hh
        simp only [opT, hg0] at hh ⊢
        rw [hev p (by simp), hev x (by simp)]
        split at hh
        · split at hh
          · rename_i hk
            rw [T.run_bind] at hh
            obtain ⟨s3, h3, hh⟩ := T.run_some hh
            simp only [St.put, T.run_ret] at hh
            cases hh
            obtain ⟨e1, e2, e3⟩ := hst h3
            refine ⟨e1, e2, ?_⟩
            simp only [if_pos hk]
            rw [T.run_bind, T.run_of e3]
            rfl
          · cases hh
        · cases hh
      have hgo : ∀ {s2 : St}, ((opT C ⟨none, .store t p x, type, pos, after, guard⟩ s).bind fun s => bif isGuard ops i then decideDst s none else .ret s).run callF some = some s2 →
          s2.n = s.n ∧ s2.env = s.env ∧ ((opT C ⟨none, .store t p x, type, pos, after, guard⟩ ⟨s.n, env', s.sto⟩).bind fun s => bif isGuard ops i then decideDst s none else .ret s).run callF some = some ⟨s.n, env', s2.sto⟩ := by
        intro s2 hh
        rw [T.run_bind] at hh
        obtain ⟨s3, h3, hh⟩ := T.run_some hh
        have h4 : s3 = s2 := by
          cases hg : isGuard ops i <;> rw [hg] at hh <;> simpa [decideDst] using hh
        subst h4
        obtain ⟨e1, e2, e3⟩ := hop h3
        refine ⟨e1, e2, ?_⟩
        rw [T.run_bind, T.run_of e3]
        cases isGuard ops i <;> rfl
      unfold stepT at hs ⊢
      simp only at hs ⊢
      cases hg : guard with
      | none =>
        subst hg
        exact hgo hs
      | some g =>
        obtain ⟨j, want⟩ := g
        subst hg
        simp only at hs ⊢
        cases hd : guardDst ops j with
        | none => rw [hd] at hs; cases hs
        | some d =>
          rw [hd] at hs
          simp only at hs ⊢
          rw [hguard j want d rfl hd]
          split at hs
          · rename_i b hb
            cases hbw : (b == want) with
            | true =>
              rw [hbw] at hs
              exact hgo hs
            | false =>
              rw [hbw] at hs
              simp only [cond_false, St.put, T.run_ret] at hs ⊢
              cases hs
              exact ⟨rfl, rfl, rfl⟩
          · simp only [St.put, T.run_ret] at hs ⊢
            cases hs
            exact ⟨rfl, rfl, rfl⟩
          · cases hs

/-- A look at slots, then a store: the other way round. -/
theorem swap_slot_store {C : Cfg} {callF : FuncId → (t : Ty) → List Arg → Option t.den} {ops : List Oper} {i j : Nat} {p o : Oper} {s s1 s2 : St} (hc : commS C ops p o = true)
    (h1 : (stepT C ops i p s).run callF some = some s1) (h2 : (stepT C ops j o s1).run callF some = some s2) :
    ∃ s', (stepT C ops j o s).run callF some = some s' ∧ (stepT C ops i p s').run callF some = some s2 := by
  unfold commS at hc
  simp only [Bool.and_eq_true] at hc
  obtain ⟨⟨⟨hq, hsl⟩, hst⟩, hc⟩ := hc
  split at hc
  · rename_i x hx
    have hr : x ∉ readsOf ops o := by simpa using hc
    rw [step_gv hq, hx, T.run_bind] at h1
    obtain ⟨⟨v, es⟩, hv, h1⟩ := T.run_some h1
    have he := slot_none hsl hv
    subst he
    rw [commit_run] at h1
    simp only [allocO, Option.bind_some] at h1
    cases hb : inN x s.n with
    | false => rw [hb] at h1; cases h1
    | true =>
      rw [hb] at h1
      simp only [cond_true, Option.some.injEq] at h1
      subst h1
      obtain ⟨e1, e2, e3⟩ := store_step (env' := s.env) hst (fun t ht => by
        have hne : t ≠ x := fun hc => hr (by rw [← hc]; exact ht)
        show s.env t = upd s.env x v t
        rw [upd_ne _ _ hne]) h2
      refine ⟨_, e3, ?_⟩
      rw [step_gv hq, hx, T.run_bind, slot_gv (σ := s.sto) hsl]
      rw [T.run_of (a := (v, [])) hv, commit_run]
      simp only [allocO, Option.bind_some, hb, cond_true]
      obtain ⟨n2, env2, sto2⟩ := s2
      simp only at e1 e2
      subst e1 e2
      rfl
  · cases hc

/-- A store, then a look at slots: the other way round. -/
theorem swap_store_slot {C : Cfg} {callF : FuncId → (t : Ty) → List Arg → Option t.den} {ops : List Oper} {i j : Nat} {p o : Oper} {s s1 s2 : St} (hc : commS C ops o p = true)
    (h1 : (stepT C ops i p s).run callF some = some s1) (h2 : (stepT C ops j o s1).run callF some = some s2) :
    ∃ s', (stepT C ops j o s).run callF some = some s' ∧ (stepT C ops i p s').run callF some = some s2 := by
  unfold commS at hc
  simp only [Bool.and_eq_true] at hc
  obtain ⟨⟨⟨hq, hsl⟩, hst⟩, hc⟩ := hc
  split at hc
  · rename_i x hx
    have hr : x ∉ readsOf ops p := by simpa using hc
    obtain ⟨e1, e2, _⟩ := store_step (env' := s.env) hst (fun _ _ => rfl) h1
    obtain ⟨n1, env1, sto1⟩ := s1
    simp only at e1 e2
    subst e1 e2
    rw [step_gv hq, hx, T.run_bind] at h2
    obtain ⟨⟨v, es⟩, hv, h2⟩ := T.run_some h2
    have he := slot_none hsl hv
    subst he
    rw [commit_run] at h2
    simp only [allocO, Option.bind_some] at h2
    cases hb : inN x s.n with
    | false => rw [hb] at h2; cases h2
    | true =>
      rw [hb] at h2
      simp only [cond_true, Option.some.injEq] at h2
      subst h2
      obtain ⟨_, _, e3⟩ := store_step (env' := upd s.env x v) hst (fun t ht => upd_ne _ _ (fun hc => hr (by rw [← hc]; exact ht))) h1
      refine ⟨⟨s.n, upd s.env x v, s.sto⟩, ?_, e3⟩
      rw [step_gv hq, hx, T.run_bind]
      have hv' : (gv C ops j o s).run callF some = some (v, []) := by
        obtain ⟨n, env, sto⟩ := s
        rw [slot_gv (σ := sto1) hsl]
        exact hv
      rw [T.run_of hv', commit_run]
      simp only [allocO, Option.bind_some, hb, cond_true]
  · cases hc

theorem step_swap {C : Cfg} {callF : FuncId → (t : Ty) → List Arg → Option t.den} {ops : List Oper} {i j : Nat} {p o : Oper} {s s1 s2 : St} (l : Live s) (hc : commB C ops p o = true)
    (h1 : (stepT C ops i p s).run callF some = some s1) (h2 : (stepT C ops j o s1).run callF some = some s2) :
    ∃ s', (stepT C ops j o s).run callF some = some s' ∧ (stepT C ops i p s').run callF some = some s2 := by
  unfold commB at hc
  simp only [Bool.or_eq_true] at hc
  rcases hc with (hc | hc) | hc
  · exact step_swapQ l hc h1 h2
  · exact swap_slot_store hc h1 h2
  · exact swap_store_slot hc h1 h2

/-! ### A load beside a store into another box -/
/-- The same but for one box, to which the slot does not lead. -/
def Beside (σ σ' : Nat → Option Entry) (v : Slot) : Prop := σ' = σ ∨ ∃ id ty cs cs', σ id = some (.box ty cs) ∧ σ' = upd σ id (some (.box ty cs')) ∧ sepP (.one (.cell (.ptr id 0))) v = true

theorem cellsAt_beside {n : Nat} {agg : Bool} {m : Nat} {env env' : Nat → Slot} {σ σ' : Nat → Option Entry} {c : Cell} (h : Beside σ σ' (.one (.cell c))) : St.cellsAt ⟨m, env', σ'⟩ n agg c = St.cellsAt ⟨m, env, σ⟩ n agg c := by
  rcases h with rfl | ⟨id, ty, cs, cs', h1, rfl, h2⟩
  · cases c <;> rfl
  · cases c <;> simp only [St.cellsAt]
    case ptr j off =>
      have hne : j ≠ id := by
        intro e
        subst e
        simp [sepP] at h2
      rw [upd_ne _ _ hne]
    case eptr j i off =>
      by_cases hj : j = id
      · subst hj
        rw [upd_same, h1]
      · rw [upd_ne _ _ hj]
    case dptr j i off =>
      by_cases hj : j = id
      · subst hj
        rw [upd_same, h1]
      · rw [upd_ne _ _ hj]

theorem load_gv {C : Cfg} {ops : List Oper} {i : Nat} {o : Oper} {n : Nat} {env : Nat → Slot} {σ σ' : Nat → Option Entry} {t : TypeId} {b : Tmp} (ho : o.op = .load t (.tmp b)) (hb : Beside σ σ' (env b)) :
    gv C ops i o ⟨n, env, σ'⟩ = gv C ops i o ⟨n, env, σ⟩ := by
  have hv : valT C o ⟨n, env, σ'⟩ = valT C o ⟨n, env, σ⟩ := by
    obtain ⟨dst, op, type, pos, after, guard⟩ := o
    simp only at ho
    subst ho
    simp only [valT, St.ev]
    cases he : env b with
    | tup cs => cases C.shape t <;> rfl
    | one c =>
      cases c with
      | agg cs => cases C.shape t <;> rfl
      | cell c =>
        rw [he] at hb
        cases C.shape t with
        | none => rfl
        | some x => simp only; rw [cellsAt_beside (env := env) (env' := env) hb]
  unfold gv
  rw [hv]

theorem load_none {C : Cfg} {callF : FuncId → (t : Ty) → List Arg → Option t.den} {ops : List Oper} {i : Nat} {o : Oper} {s : St} {v : Slot} {es : List (Nat × Entry)} {t : TypeId} {b : Operand} (ho : o.op = .load t b) (hr : (gv C ops i o s).run callF some = some (v, es)) : es = [] := by
  have hv : ∀ {v es}, (valT C o s).run callF some = some (v, es) → es = [] := by
    intro v es hr
    obtain ⟨dst, op, type, pos, after, guard⟩ := o
    simp only at ho
    subst ho
    simp only [valT] at hr
    split at hr
    · rw [T.run_bind] at hr
      obtain ⟨a, _, hr⟩ := T.run_some hr
      cases hr; rfl
    · cases hr
  have go : ((valT C o s).bind fun x => bif isGuard ops i then (decV x.1).bind fun v => .ret (v, x.2) else .ret x).run callF some = some (v, es) → es = [] := by
    intro hr
    rw [T.run_bind] at hr
    obtain ⟨⟨u, fs⟩, h1, h2⟩ := T.run_some hr
    have := hv h1
    subst this
    cases hg : isGuard ops i with
    | false => rw [hg] at h2; cases h2; rfl
    | true =>
      rw [hg] at h2
      simp only [cond_true, T.run_bind] at h2
      obtain ⟨c, _, h2⟩ := T.run_some h2
      cases h2; rfl
  unfold gv at hr
  simp only at hr
  split at hr
  · exact go hr
  · rename_i j want hg
    split at hr
    · rename_i d hd
      split at hr
      · rename_i b hb
        cases hbw : (b == want) with
        | true => rw [hbw] at hr; exact go hr
        | false => rw [hbw] at hr; cases hr; rfl
      · cases hr; rfl
      · cases hr
    · cases hr

theorem store_sto {C : Cfg} {callF : FuncId → (t : Ty) → List Arg → Option t.den} {ops : List Oper} {i : Nat} {o : Oper} {s s1 : St} {t : TypeId} {q : Tmp} {x : Operand} (hd : o.dst = none) (ho : o.op = .store t (.tmp q) x) {id off : Nat} (hq : s.env q = .one (.cell (.ptr id off)))
    (hs : (stepT C ops i o s).run callF some = some s1) : s1.sto = s.sto ∨ ∃ ty cs cs', s.sto id = some (.box ty cs) ∧ s1.sto = upd s.sto id (some (.box ty cs')) := by
  obtain ⟨dst, op, type, pos, after, guard⟩ := o
  simp only at hd ho
  subst hd ho
  have hop : ∀ {s2 : St}, (opT C ⟨none, .store t (.tmp q) x, type, pos, after, guard⟩ s).run callF some = some s2 → s2.sto = s.sto ∨ ∃ ty cs cs', s.sto id = some (.box ty cs) ∧ s2.sto = upd s.sto id (some (.box ty cs')) := by
    intro s2 hh
    simp only [opT, St.ev, hq] at hh
    split at hh
    · rename_i hsh hp hv
      cases hp
      split at hh
      · rw [T.run_bind] at hh
        obtain ⟨s3, h3, hh⟩ := T.run_some hh
        simp only [St.put, T.run_ret] at hh
        cases hh
        simp only [St.store] at h3
        split at h3
        · rename_i ty cs hse
          split at h3
          · cases h3
            exact .inr ⟨ty, cs, _, hse, rfl⟩
          · cases h3
        · cases h3
      · cases hh
    · cases hh
  have hgo : ∀ {s2 : St}, ((opT C ⟨none, .store t (.tmp q) x, type, pos, after, guard⟩ s).bind fun s => bif isGuard ops i then decideDst s none else .ret s).run callF some = some s2 → s2.sto = s.sto ∨ ∃ ty cs cs', s.sto id = some (.box ty cs) ∧ s2.sto = upd s.sto id (some (.box ty cs')) := by
    intro s2 hh
    rw [T.run_bind] at hh
    obtain ⟨s3, h3, hh⟩ := T.run_some hh
    have h4 : s3 = s2 := by
      cases hg : isGuard ops i <;> rw [hg] at hh <;> simpa [decideDst] using hh
    subst h4
    exact hop h3
  unfold stepT at hs
  simp only at hs
  cases hg : guard with
  | none => subst hg; exact hgo hs
  | some g =>
    obtain ⟨j, want⟩ := g
    subst hg
    simp only at hs
    cases hdd : guardDst ops j with
    | none => rw [hdd] at hs; cases hs
    | some d =>
      rw [hdd] at hs
      simp only at hs
      split at hs
      · rename_i b hb
        cases hbw : (b == want) with
        | true => rw [hbw] at hs; exact hgo hs
        | false =>
          rw [hbw] at hs
          simp only [cond_false, St.put, T.run_ret] at hs
          cases hs
          exact .inl rfl
      · simp only [St.put, T.run_ret] at hs
        cases hs
        exact .inl rfl
      · cases hs

theorem sepP_ptr {u v : Slot} (h : sepP u v = true) : ∃ id off, u = .one (.cell (.ptr id off)) ∧ sepP (.one (.cell (.ptr id 0))) v = true := by
  unfold sepP at h
  split at h
  · exact ⟨_, _, rfl, h⟩
  · exact ⟨_, _, rfl, rfl⟩
  · exact ⟨_, _, rfl, rfl⟩
  · cases h

/-- What 'commL' says, at a state whose pointers are as they were. -/
theorem commL_at {C : Cfg} {ops : List Oper} {s0 s : St} {a b : Oper} (hI : ∀ t, t ∉ dstsOf ops → s.env t = s0.env t) (h : commL C ops s0 a b = true) :
    ∃ t p d t' q x, quietOp C a = true ∧ a.op = .load t (.tmp p) ∧ a.dst = some d ∧ b.op = .store t' (.tmp q) x ∧ b.dst = none ∧ C.gives.contains t' = false ∧ p ∉ dstsOf ops ∧ q ∉ dstsOf ops ∧ d ∉ readsOf ops b ∧ ∃ id off, s.env q = .one (.cell (.ptr id off)) ∧ sepP (.one (.cell (.ptr id 0))) (s.env p) = true := by
  unfold commL at h
  split at h
  · rename_i t p d t' q x ha hd hb hbd
    simp only [Bool.and_eq_true, Bool.not_eq_true'] at h
    obtain ⟨⟨⟨⟨⟨hqa, hg⟩, h1⟩, h2⟩, h3⟩, h4⟩ := h
    have h1 : p ∉ dstsOf ops := by simpa using h1
    have h2 : q ∉ dstsOf ops := by simpa using h2
    obtain ⟨id, off, k1, k2⟩ := sepP_ptr h4
    exact ⟨t, p, d, t', q, x, hqa, ha, hd, hb, hbd, hg, h1, h2, by simpa using h3, id, off, by rw [hI q h2]; exact k1, by rw [hI p h1]; exact k2⟩
  · cases h

theorem store_isOp {C : Cfg} {o : Oper} {t : TypeId} {p x : Operand} (ho : o.op = .store t p x) (hd : o.dst = none) (hg : C.gives.contains t = false) : storeOp C o = true := by
  unfold storeOp
  rw [ho, hd]
  simp only [hg]
  rfl

theorem swap_load_store {C : Cfg} {callF : FuncId → (t : Ty) → List Arg → Option t.den} {ops : List Oper} {i j : Nat} {p o : Oper} {s0 s s1 s2 : St} (hI : ∀ t, t ∉ dstsOf ops → s.env t = s0.env t) (hpm : p ∈ ops) (hc : commL C ops s0 p o = true)
    (h1 : (stepT C ops i p s).run callF some = some s1) (h2 : (stepT C ops j o s1).run callF some = some s2) :
    ∃ s', (stepT C ops j o s).run callF some = some s' ∧ (stepT C ops i p s').run callF some = some s2 := by
  obtain ⟨t, b, x, t', q, y, hqa, hp, hx, ho, hod, hgv, hb1, hq1, hr, id, off, hq, hsep⟩ := commL_at (C := C) hI hc
  have hqt := hqa
  have hst := store_isOp (C := C) ho hod hgv
  have hxd : x ∈ dstsOf ops := List.mem_filterMap.2 ⟨p, hpm, hx⟩
  rw [step_gv hqt, hx, T.run_bind] at h1
  obtain ⟨⟨v, es⟩, hv, h1⟩ := T.run_some h1
  have he := load_none hp hv
  subst he
  rw [commit_run] at h1
  simp only [allocO, Option.bind_some] at h1
  cases hb : inN x s.n with
  | false => rw [hb] at h1; cases h1
  | true =>
    rw [hb] at h1
    simp only [cond_true, Option.some.injEq] at h1
    subst h1
    have hne : ∀ u, u ∉ dstsOf ops → upd s.env x v u = s.env u := fun u hu => upd_ne _ _ (fun e => hu (e ▸ hxd))
    have hso := store_sto (id := id) (off := off) hod ho (by show upd s.env x v q = _; rw [hne q hq1]; exact hq) h2
    obtain ⟨e1, e2, e3⟩ := store_step (env' := s.env) hst (fun u hu => by
      have hnu : u ≠ x := fun hc => hr (by rw [← hc]; exact hu)
      show s.env u = upd s.env x v u
      rw [upd_ne _ _ hnu]) h2
    refine ⟨_, e3, ?_⟩
    have hbe : Beside s.sto s2.sto (s.env b) := by
      rcases hso with h | ⟨ty, cs, cs', k1, k2⟩
      · exact .inl h
      · exact .inr ⟨id, ty, cs, cs', k1, k2, hsep⟩
    rw [step_gv hqt, hx, T.run_bind, load_gv (σ := s.sto) hp hbe]
    rw [T.run_of (a := (v, [])) hv, commit_run]
    simp only [allocO, Option.bind_some, hb, cond_true]
    obtain ⟨n2, env2, sto2⟩ := s2
    simp only at e1 e2
    subst e1 e2
    rfl

theorem swap_store_load {C : Cfg} {callF : FuncId → (t : Ty) → List Arg → Option t.den} {ops : List Oper} {i j : Nat} {p o : Oper} {s0 s s1 s2 : St} (hI : ∀ t, t ∉ dstsOf ops → s.env t = s0.env t) (hc : commL C ops s0 o p = true)
    (h1 : (stepT C ops i p s).run callF some = some s1) (h2 : (stepT C ops j o s1).run callF some = some s2) :
    ∃ s', (stepT C ops j o s).run callF some = some s' ∧ (stepT C ops i p s').run callF some = some s2 := by
  obtain ⟨t, b, x, t', q, y, hqa, hp, hx, ho, hod, hgv, hb1, hq1, hr, id, off, hq, hsep⟩ := commL_at (C := C) hI hc
  have hqt := hqa
  have hst := store_isOp (C := C) ho hod hgv
  have hso := store_sto (id := id) (off := off) hod ho hq h1
  obtain ⟨e1, e2, _⟩ := store_step (env' := s.env) hst (fun _ _ => rfl) h1
  obtain ⟨n1, env1, sto1⟩ := s1
  simp only at e1 e2 hso
  subst e1 e2
  have hbe : Beside s.sto sto1 (s.env b) := by
    rcases hso with h | ⟨ty, cs, cs', k1, k2⟩
    · exact .inl h
    · exact .inr ⟨id, ty, cs, cs', k1, k2, hsep⟩
  rw [step_gv hqt, hx, T.run_bind, load_gv (σ := s.sto) hp hbe] at h2
  obtain ⟨⟨v, es⟩, hv, h2⟩ := T.run_some h2
  have he := load_none hp hv
  subst he
  rw [commit_run] at h2
  simp only [allocO, Option.bind_some] at h2
  cases hb : inN x s.n with
  | false => rw [hb] at h2; cases h2
  | true =>
    rw [hb] at h2
    simp only [cond_true, Option.some.injEq] at h2
    subst h2
    obtain ⟨_, _, e3⟩ := store_step (env' := upd s.env x v) hst (fun u hu => upd_ne _ _ (fun hc => hr (by rw [← hc]; exact hu))) h1
    refine ⟨⟨s.n, upd s.env x v, s.sto⟩, ?_, e3⟩
    rw [step_gv hqt, hx, T.run_bind]
    rw [T.run_of (a := (v, [])) hv, commit_run]
    simp only [allocO, Option.bind_some, hb, cond_true]

/-- Slots that no operation of the region writes stay. -/
theorem step_keep {C : Cfg} {callF : FuncId → (t : Ty) → List Arg → Option t.den} {ops : List Oper} {i : Nat} {o : Oper} {s s1 : St} (ho : o ∈ ops) (hq : (quietOp C o || storeOp C o) = true) (h : (stepT C ops i o s).run callF some = some s1) : ∀ t, t ∉ dstsOf ops → s1.env t = s.env t := by
  intro t ht
  simp only [Bool.or_eq_true] at hq
  rcases hq with hq | hq
  · obtain ⟨d, hd⟩ : ∃ d, o.dst = some d := Option.isSome_iff_exists.1 (by simp only [quietOp, Bool.and_eq_true] at hq; exact hq.1)
    have hdm : d ∈ dstsOf ops := List.mem_filterMap.2 ⟨o, ho, hd⟩
    rw [step_gv hq, hd, T.run_bind] at h
    obtain ⟨⟨v, es⟩, hv, h⟩ := T.run_some h
    rw [commit_run] at h
    obtain ⟨σ, _, h⟩ := Option.bind_eq_some_iff.1 h
    cases hb : inN d s.n with
    | false => rw [hb] at h; cases h
    | true =>
      rw [hb] at h
      simp only [cond_true, Option.some.injEq] at h
      subst h
      exact upd_ne _ _ (fun e => ht (e ▸ hdm))
  · obtain ⟨_, e2, _⟩ := store_step (env' := s.env) hq (fun _ _ => rfl) h
    rw [e2]

theorem step_swapY {C : Cfg} {callF : FuncId → (t : Ty) → List Arg → Option t.den} {ops : List Oper} {i j : Nat} {p o : Oper} {s0 s s1 s2 : St} (l : Live s) (hI : ∀ t, t ∉ dstsOf ops → s.env t = s0.env t) (hpm : p ∈ ops) (hc : commY C ops s0 p o = true)
    (h1 : (stepT C ops i p s).run callF some = some s1) (h2 : (stepT C ops j o s1).run callF some = some s2) :
    ∃ s', (stepT C ops j o s).run callF some = some s' ∧ (stepT C ops i p s').run callF some = some s2 := by
  unfold commY at hc
  simp only [Bool.or_eq_true] at hc
  rcases hc with (hc | hc) | hc
  · exact step_swap l hc h1 h2
  · exact swap_load_store hI hpm hc h1 h2
  · exact swap_store_load hI hc h1 h2

/-! ### The state goes on standing for a frame -/
def Held (C : Cfg) (s : St) : Prop := ∃ F0 G a w pl, Inv F0 G s a w pl ∧ TabF C w F0
theorem Held.live {C : Cfg} {s : St} (h : Held C s) : Live s := let ⟨_, _, _, _, _, i, _⟩ := h; i.live

theorem wpOp_some {P : Program} {ops : Array Oper} {i : Nat} {K : Act → World → Prop} {a : Act} {w : World} (h : wpOp P ops (fun _ _ _ => False) i K a w) : ∃ a' w', K a' w' := by
  unfold wpOp at h
  split at h
  · exact ⟨_, _, h⟩
  · rename_i o ho
    split at h
    · rcases h with h | ⟨_, _, _, h⟩
      · unfold Oper.wp at h
        generalize (execOp a.eval o).run P w = r at h
        cases r with
        | ok n w' =>
          cases n <;> simp only [Oper.upon] at h <;> first
            | exact ⟨_, _, h⟩
            | (obtain ⟨e, w'', fr, hr, _⟩ := h []
               cases e with
               | returned v => exact ⟨_, _, hr⟩
               | panicked c => exact hr.elim
               | outgrown => obtain ⟨_, _, hx⟩ := hr; exact hx.elim)
            | (obtain ⟨v, w'', hr, _⟩ := h (Frame.enter P 0 #[] .normal) []
               exact ⟨_, _, hr⟩)
        | halt x w' => cases x <;> simp only [Oper.upon] at h
      · exact h.elim
    · exact ⟨_, _, h⟩

section
variable {C : Cfg} {callF : FuncId → (t : Ty) → List Arg → Option t.den}

theorem Held.step (hop : ∀ o, OpOk C callF o) {s s1 : St} (hh : Held C s) {ops : Array Oper} {o : Oper} {j : Nat} (ho : ops[j]? = some o) (h : (stepT C ops.toList j o s).run callF some = some s1) : Held C s1 := by
  obtain ⟨F0, G, a, w, pl, i, ht⟩ := hh
  obtain ⟨a', w', s', G', pl', hk, i', fr'⟩ := wpOp_some (step_ok (Q := fun _ _ _ => False) ho (hop o) i ht h)
  cases hk
  exact ⟨F0, G', a', w', pl', i', ht.fr fr'⟩

/-- What the ways of a region share: how two operations are told apart, and what holds all along. -/
structure Ways (C : Cfg) (callF : FuncId → (t : Ty) → List Arg → Option t.den) (ops : Array Oper) where
  cm : Oper → Oper → Bool
  I : St → Prop
  tail : Nat → Bool
  tailUp : ∀ {i j : Nat}, tail i = true → i ≤ j → tail j = true
  tailOk : ∀ {j : Nat} {o : Oper}, tail j = true → ops[j]? = some o → ∀ k, k < j → (∃ m, (ancList ops.toList [])[j]? = some m ∧ m.testBit k = true) ∨ (tail k = true ∧ ∃ p, ops[k]? = some p ∧ commB C ops.toList p o = true)
  go : ∀ {s s1 : St} {o : Oper} {j : Nat}, I s → tail j = false → ops[j]? = some o → (stepT C ops.toList j o s).run callF some = some s1 → I s1
  swap : ∀ {i j : Nat} {p o : Oper} {s s1 s2 : St}, Live s → I s → ops[i]? = some p → ops[j]? = some o → cm p o = true → (stepT C ops.toList i p s).run callF some = some s1 → (stepT C ops.toList j o s1).run callF some = some s2 →
    ∃ s', (stepT C ops.toList j o s).run callF some = some s' ∧ (stepT C ops.toList i p s').run callF some = some s2

/-- One that is apart from all ahead of it may come first. -/
theorem bubble {R : Type} (hop : ∀ o, OpOk C callF o) {ops : Array Oper} (W : Ways C callF ops) {o : Oper} {j : Nat} (hoj : ops[j]? = some o) {post : List (Oper × Nat)} {κ : St → Option R} {r : R} :
    ∀ {pre : List (Oper × Nat)} {s : St}, Held C s → W.I s → (∀ p i, (p, i) ∈ pre → ops[i]? = some p ∧ W.cm p o = true ∧ W.tail i = false) → (opsT C ops.toList (pre ++ (o, j) :: post) s).run callF κ = some r →
      ∃ s', (stepT C ops.toList j o s).run callF some = some s' ∧ (opsT C ops.toList (pre ++ post) s').run callF κ = some r
  | [], s, hh, hI, hp, h => by
    simp only [List.nil_append, opsT, T.run_bind] at h
    exact T.run_some h
  | (p, i) :: pre, s, hh, hI, hp, h => by
    simp only [List.cons_append, opsT, T.run_bind] at h
    obtain ⟨s1, h1, h⟩ := T.run_some h
    obtain ⟨ho, hc, ht⟩ := hp p i (by simp)
    obtain ⟨s2, h2, h⟩ := bubble hop W hoj (hh.step hop ho h1) (W.go hI ht ho h1) (fun p i hm => hp p i (by simp [hm])) h
    obtain ⟨s', h3, h4⟩ := W.swap hh.live hI ho hoj hc h1 h2
    refine ⟨s', h3, ?_⟩
    simp only [List.cons_append, opsT, T.run_bind]
    rw [T.run_of h4]
    exact h
end

end Go.Flat
