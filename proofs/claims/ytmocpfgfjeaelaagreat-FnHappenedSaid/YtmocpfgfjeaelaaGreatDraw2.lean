/- What an operation's value leans on. No condition. -/
import Derived.Test.YtmocpfgfjeaelaaGreatDraw1
set_option linter.unusedVariables false
set_option linter.unusedSimpArgs false
namespace Go.Flat
structure Live (s : St) : Prop where
 env : ∀ t, ∀ id ∈ (s.env t).ids, ∃ e, s.ak id = some e
 box : ∀ k t cs, s.ak k = some (.box t cs) -> ∀ c ∈ cs, ∀ id ∈ c.ids, ∃ e, s.ak id = some e
theorem CV {M : Mem} {c : Cell} {v : Value} (h : fC M c v) : ∀ id ∈ c.ids, ∃ e, M.ak id = some e := by
 intro id hid
 cases c <;> simp only [Cell.ids] at hid <;> try (simp at hid; done)
 case ref j => simp at hid; subst hid; obtain ⟨t, l, o, hs, _⟩ := h; exact ⟨_, hs⟩
 case sub j off n => simp at hid; subst hid; obtain ⟨t, l, o, hs, _⟩ := h; exact ⟨_, hs⟩
 case ptr j off => simp at hid; subst hid; obtain ⟨t, l, o, hs, _⟩ := h; exact ⟨_, hs⟩
 case lN j i off => simp at hid; subst hid; obtain ⟨t, l, o, p, hs, _⟩ := h; exact ⟨_, hs⟩
 case nE j => simp at hid; subst hid; obtain ⟨t, l, o, hs, _⟩ := h; exact ⟨_, hs⟩
 case nG j i off => simp at hid; subst hid; obtain ⟨t, l, o, p, hs, _⟩ := h; exact ⟨_, hs⟩
 case inn j i off => simp at hid; subst hid; obtain ⟨t, l, n, hs, _⟩ := h; exact ⟨_, hs⟩
 case oF f caps =>
  obtain ⟨cp, hcp, he⟩ := List.mem_filterMap.1 hid
  obtain ⟨vs, _, hl, hc⟩ := h
  obtain ⟨i, hi⟩ := List.mem_iff_getElem?.1 hcp
  have hlt : i < vs.length := by rw [hl]; exact (List.getElem?_eq_some_iff.1 hi).1
  have := hc i cp vs[i] hi (List.getElem?_eq_getElem hlt)
  cases cp with
  | ro t x => simp at he
  | ptr j =>
   simp at he
   subst he
   obtain ⟨t, cs, p, hs, _⟩ := this
   exact ⟨_, hs⟩
theorem Bo {M : Mem} {cs : List Cell} {vs : List Value} (h : aD M cs vs) : ∀ c ∈ cs, ∀ id ∈ c.ids, ∃ e, M.ak id = some e := by
 intro c hc
 obtain ⟨i, hi⟩ := List.mem_iff_getElem?.1 hc
 have hlt : i < vs.length := by rw [h.1]; exact (List.getElem?_eq_some_iff.1 hi).1
 exact CV (h.2 i c vs[i] hi (List.getElem?_eq_getElem hlt)).1
theorem CW {M : Mem} {c : aH} {v : Value} (h : eO M c v) : ∀ id ∈ c.ids, ∃ e, M.ak id = some e := by
 intro id hid
 cases c with
 | cell c => exact CV h id (by simpa [aH.ids, aH.cells] using hid)
 | agg cs =>
  obtain ⟨vs, _, hc⟩ := h
  simp only [aH.ids, aH.cells, List.mem_flatMap] at hid
  obtain ⟨c, hcm, hid⟩ := hid
  exact Bo hc c hcm id hid
theorem LX {M : Mem} {s : Slot} {v : Value} (h : gJ M s v) : ∀ id ∈ s.ids, ∃ e, M.ak id = some e := by
 intro id hid
 cases s with
 | one c => exact CW h id hid
 | Cx cs =>
  obtain ⟨vs, _, hl, hc⟩ := h
  simp only [Slot.ids, List.mem_flatMap] at hid
  obtain ⟨c, hcm, hid⟩ := hid
  obtain ⟨i, hi⟩ := List.mem_iff_getElem?.1 hcm
  have hlt : i < vs.length := by rw [hl]; exact (List.getElem?_eq_some_iff.1 hi).1
  exact CW (hc i c vs[i] hi (List.getElem?_eq_getElem hlt)) id hid
theorem Inv.live {F0 : mo} {G : Nat -> Prop} {s : St} {a : Act} {w : World} {pl : Nat -> Option Pl} (i : Inv F0 G s a w pl) : Live s :=
 ⟨fun t => LX (i.env t), fun k t cs hs => by
  obtain ⟨p, c, e, fz, h1, h2, h3, h4, h5, h6, h7, h8, h9⟩ := i.ak.ent k _ hs
  exact Bo h8⟩
theorem Live.ev {s : St} (l : Live s) (x : Operand) : ∀ id ∈ (s.ev x).ids, ∃ e, s.ak id = some e := by
 intro id hid
 cases x with
 | tmp t => exact l.env t id hid
 | global g => simp [St.ev, Slot.ids, aH.ids, aH.cells, Cell.ids] at hid
 | func f => simp [St.ev, Slot.ids, aH.ids, aH.cells, Cell.ids] at hid
 | const v =>
  exfalso
  simp only [St.ev] at hid
  unfold ofConst at hid
  split at hid <;> simp [Slot.ids, aH.ids, aH.cells, Cell.ids] at hid
structure Ext (s s1 : St) (xs : List Operand) : Prop where
 ak : ∀ id e, s.ak id = some e -> s1.ak id = some e
 ev : ∀ x ∈ xs, s1.ev x = s.ev x
section
variable {s s1 : St} (hs : ∀ id e, s.ak id = some e -> s1.ak id = some e)
include hs
theorem mq {id : Nat} (h : ∃ e, s.ak id = some e) : s1.ak id = s.ak id := by
 obtain ⟨e, he⟩ := h
 rw [he, hs id e he]
theorem ND {n : Nat} {agg : Bool} {p : Cell} (h : ∀ id ∈ p.ids, ∃ e, s.ak id = some e) : s1.jP n agg p = s.jP n agg p := by
 cases p <;> try rfl
 case ptr id off => simp only [St.jP]; rw [mq hs (h id (by simp [Cell.ids]))]
 case lN id i off => simp only [St.jP]; rw [mq hs (h id (by simp [Cell.ids]))]
 case nG id i off => simp only [St.jP]; rw [mq hs (h id (by simp [Cell.ids]))]
theorem Wl {d : TypeDesc} {c : Cell} (h : ∀ id ∈ c.ids, ∃ e, s.ak id = some e) : s1.len d c = s.len d c := by
 cases d <;> cases c <;> try rfl
 case slice.ref e id => simp only [St.len]; rw [mq hs (h id (by simp [Cell.ids]))]
 case slice.nE e id => simp only [St.len]; rw [mq hs (h id (by simp [Cell.ids]))]
theorem JJ {u : Ty} {lo hi : Option Int} {c : Cell} (h : ∀ id ∈ c.ids, ∃ e, s.ak id = some e) : kg s1 u lo hi c = kg s u lo hi c := by
 cases c <;> try rfl
 case ref id => simp only [kg]; rw [mq hs (h id (by simp [Cell.ids]))]
 case sub id off n => simp only [kg]; rw [mq hs (h id (by simp [Cell.ids]))]
theorem JK {u : Ty} {i : Int} {c : Cell} (h : ∀ id ∈ c.ids, ∃ e, s.ak id = some e) : lQ s1 u i c = lQ s u i c := by
 cases c <;> try rfl
 case ref id => simp only [lQ]; rw [mq hs (h id (by simp [Cell.ids]))]
 case sub id off n => simp only [lQ]; rw [mq hs (h id (by simp [Cell.ids]))]
 case nE id => simp only [lQ]; rw [mq hs (h id (by simp [Cell.ids]))]
theorem Ia {m : Mode} {t : Ty} {c : Cell} (h : ∀ id ∈ c.ids, ∃ e, s.ak id = some e) : jf s1.ak m t c = jf s.ak m t c := by
 cases c <;> try rfl
 case ref id => simp only [jf]; rw [mq hs (h id (by simp [Cell.ids]))]
 case sub id off n => simp only [jf]; rw [mq hs (h id (by simp [Cell.ids]))]
theorem NG {m : Mode} {t : Ty} {c : Cell} (h : ∀ id ∈ c.ids, ∃ e, s.ak id = some e) : kK s1.ak m t c = kK s.ak m t c := by
 cases c <;> try rfl
 case nE id => simp only [kK]; rw [mq hs (h id (by simp [Cell.ids]))]
theorem Uq {t : Ty} {c : Cell} (h : ∀ id ∈ c.ids, ∃ e, s.ak id = some e) : s1.look t c = s.look t c := by
 unfold St.look
 rw [Ia hs h]
theorem zR {m : Mode} : ∀ {t : Ty} {cs : List Cell}, (∀ c ∈ cs, ∀ id ∈ c.ids, ∃ e, s.ak id = some e) -> aG s1.ak m t cs = aG s.ak m t cs /\ ∀ x r ids, aG s.ak m t cs = some (x, r, ids) -> ∀ c ∈ r, c ∈ cs
 | .bool, [], h => ⟨rfl, fun x r ids hx => by simp [aG] at hx⟩
 | .int k, [], h => ⟨rfl, fun x r ids hx => by simp [aG] at hx⟩
 | .str, [], h => ⟨rfl, fun x r ids hx => by simp [aG] at hx⟩
 | .list t, [], h => ⟨rfl, fun x r ids hx => by simp [aG] at hx⟩
 | .cB t, [], h => ⟨rfl, fun x r ids hx => by simp [aG] at hx⟩
 | .unit, cs, h => by
  have e : ∀ σ : Nat -> Option Entry, aG σ m .unit cs = some ((), cs, []) := fun σ => by
   cases cs with
   | nil => rfl
   | cons c cs => cases c <;> rfl
  rw [e, e]
  refine ⟨rfl, fun x r ids hx => ?_⟩
  simp at hx
  rw [hx.1]
  exact fun c hc => hc
 | .pair a b, cs, h => by
  rw [jS, jS]
  obtain ⟨h1, h2⟩ := zR (m := m) (t := a) h
  rw [h1]
  cases ha : aG s.ak m a cs with
  | none => exact ⟨rfl, fun x r ids hx => by cases hx⟩
  | some ra =>
   obtain ⟨x1, r1, MW⟩ := ra
   have hsub := h2 x1 r1 MW ha
   obtain ⟨h3, h4⟩ := zR (m := m) (t := b) (cs := r1) (fun c hc => h c (hsub c hc))
   simp only
   rw [h3]
   refine ⟨rfl, fun x r ids hx => ?_⟩
   cases hb : aG s.ak m b r1 with
   | none => rw [hb] at hx; cases hx
   | some rb =>
    obtain ⟨x2, r2, MX⟩ := rb
    rw [hb] at hx
    simp at hx
    obtain ⟨_, rfl, _⟩ := hx
    exact fun c hc => hsub c (h4 x2 r2 MX hb c hc)
 | .bool, c :: cs, h => by
  cases c <;> refine ⟨rfl, fun x r ids hx => ?_⟩ <;> simp [aG] at hx
  all_goals
   obtain ⟨_, rfl, _⟩ := hx
   exact fun c hc => List.mem_cons_of_mem _ hc
 | .int k, c :: cs, h => by
  cases c <;> refine ⟨rfl, fun x r ids hx => ?_⟩ <;> simp [aG] at hx
  obtain ⟨_, _, rfl, _⟩ := hx
  exact fun c hc => List.mem_cons_of_mem _ hc
 | .str, c :: cs, h => by
  cases c <;> refine ⟨rfl, fun x r ids hx => ?_⟩ <;> simp [aG] at hx
  obtain ⟨_, rfl, _⟩ := hx
  exact fun c hc => List.mem_cons_of_mem _ hc
 | .list t, c :: cs, h => by
  have e : ∀ σ : Nat -> Option Entry, aG σ m (.list t) (c :: cs) = (jf σ m t c).map fun (l, ids) => (l, cs, ids) := fun σ => by cases c <;> rfl
  rw [e, e, Ia hs (h c (by simp))]
  refine ⟨rfl, fun x r ids hx => ?_⟩
  obtain ⟨⟨l, js⟩, _, he⟩ := Option.map_eq_some_iff.1 hx
  simp at he
  obtain ⟨_, rfl, _⟩ := he
  exact fun c hc => List.mem_cons_of_mem _ hc
 | .cB t, c :: cs, h => by
  have e : ∀ σ : Nat -> Option Entry, aG σ m (.cB t) (c :: cs) = (kK σ m t c).map fun (l, ids) => (l, cs, ids) := fun σ => by cases c <;> rfl
  rw [e, e, NG hs (h c (by simp))]
  refine ⟨rfl, fun x r ids hx => ?_⟩
  obtain ⟨⟨l, js⟩, _, he⟩ := Option.map_eq_some_iff.1 hx
  simp at he
  obtain ⟨_, rfl, _⟩ := he
  exact fun c hc => List.mem_cons_of_mem _ hc
theorem nO {m : Mode} {t : Ty} {cs : List Cell} (h : ∀ c ∈ cs, ∀ id ∈ c.ids, ∃ e, s.ak id = some e) : bE s1.ak m t cs = bE s.ak m t cs := by
 unfold bE
 rw [(zR hs h).1]
theorem BZ (l : Live s) : ∀ {caps : List Cap}, (∀ id ∈ caps.filterMap (fun | .ptr id => some id | _ => none), ∃ e, s.ak id = some e) -> kG s1 caps = kG s caps
 | [], _ => rfl
 | c :: caps, h => by
  simp only [kG]
  have ih := BZ l (caps := caps) (fun id hid => h id (by
   rw [List.filterMap_cons]
   split
   ·exact hid
   ·exact List.mem_cons_of_mem _ hid))
  rw [ih]
  have hc : xC s1 c = xC s c := by
   cases c with
   | ro t x => rfl
   | ptr id =>
    obtain ⟨e, he⟩ := h id (by simp)
    simp only [xC]
    rw [mq hs ⟨e, he⟩, he]
    cases e with
    | arr _ _ _ => rfl
    | deep _ _ _ => rfl
    | box t cs =>
     cases t with
     | none => rfl
     | some t => simp only; rw [nO hs (l.box id _ cs he)]
  rw [hc]
theorem RU {C : dn} (l : Live s) {io : Bool} {t : TypeId} {v : aH} (h : ∀ id ∈ v.ids, ∃ e, s.ak id = some e) : toArg C s1 io t v = toArg C s io t v := by
 have hcs : ∀ c ∈ v.cells, ∀ id ∈ c.ids, ∃ e, s.ak id = some e := fun c hc id hid => h id (by simp only [aH.ids, List.mem_flatMap]; exact ⟨c, hc, hid⟩)
 unfold toArg
 cases io with
 | true =>
  simp only [cond_true]
  unfold FZ
  cases v with
  | agg _ => rfl
  | cell c =>
   cases c <;> try rfl
   case ref id => simp only; rw [mq hs (h id (by simp [aH.ids, aH.cells, Cell.ids]))]
   case ptr id off =>
    cases off with
    | succ _ => rfl
    | zero =>
     obtain ⟨e, he⟩ := h id (by simp [aH.ids, aH.cells, Cell.ids])
     simp only
     rw [mq hs ⟨e, he⟩, he]
     cases e with
     | arr _ _ _ => rfl
     | deep _ _ _ => rfl
     | box t cs =>
      cases t with
      | none => rfl
      | some t => simp only; rw [nO hs (l.box id _ cs he)]
 | false =>
  simp only [cond_false]
  unfold nH
  cases C.ty t with
  | some u => simp only [nO hs hcs]
  | none =>
   simp only
   cases v with
   | agg _ => rfl
   | cell c =>
    cases c <;> try rfl
    case pR fr u x off => cases off <;> rfl
    case oF f caps =>
     simp only
     rw [BZ hs l (fun id hid => h id (by simp only [aH.ids, aH.cells, List.flatMap_cons, List.flatMap_nil, List.append_nil]; exact hid))]
    case ptr id off =>
     cases off with
     | succ _ => rfl
     | zero =>
      obtain ⟨e, he⟩ := h id (by simp [aH.ids, aH.cells, Cell.ids])
      simp only [xC]
      rw [mq hs ⟨e, he⟩, he]
      cases e with
      | arr _ _ _ => rfl
      | deep _ _ _ => rfl
      | box t cs =>
       cases t with
       | none => rfl
       | some t => simp only; rw [nO hs (l.box id _ cs he)]
theorem Ib {C : dn} (l : Live s) {io : List Nat} : ∀ {vs : List aH} {i : Nat} {ts : List TypeId}, (∀ v ∈ vs, ∀ id ∈ v.ids, ∃ e, s.ak id = some e) -> pU C s1 io i ts vs = pU C s io i ts vs
 | [], i, ts, _ => by cases ts <;> rfl
 | v :: vs, i, [], _ => rfl
 | v :: vs, i, t :: ts, h => by
  simp only [pU]
  rw [RU hs l (h v (by simp)), Ib l (vs := vs) (fun v hv => h v (List.mem_cons_of_mem _ hv))]
omit hs in
theorem any_congr {α : Type} {f g : α -> Bool} : ∀ {l : List α}, (∀ x ∈ l, f x = g x) -> l.any f = l.any g
 | [], _ => rfl
 | x :: l, h => by rw [List.any_cons, List.any_cons, h x (by simp), any_congr (fun y hy => h y (List.mem_cons_of_mem _ hy))]
theorem NH {vs : List aH} {caps : List Cap} (h : ∀ v ∈ vs, ∀ id ∈ v.ids, ∃ e, s.ak id = some e)
  (hc : ∀ id ∈ caps.filterMap (fun | .ptr id => some id | _ => none), ∃ e, s.ak id = some e) : jQ s1 vs caps = jQ s vs caps := by
 have cap : ∀ {caps : List Cap}, (∀ id ∈ caps.filterMap (fun | .ptr id => some id | _ => none), ∃ e, s.ak id = some e) -> caps.any (kL s1) = caps.any (kL s) := by
  intro caps hc
  refine any_congr fun c hcm => ?_
  cases c with
  | ro _ _ => rfl
  | ptr id => simp only [kL]; rw [mq hs (hc id (List.mem_filterMap.2 ⟨_, hcm, rfl⟩))]
 unfold jQ
 rw [cap hc]
 congr 1
 refine any_congr fun v hv => any_congr fun c hcm => ?_
 have hid : ∀ id ∈ c.ids, ∃ e, s.ak id = some e := fun id hid => h v hv id (by simp only [aH.ids, List.mem_flatMap]; exact ⟨c, hcm, hid⟩)
 cases c <;> try rfl
 case ptr id off => simp only [kM, kL]; rw [mq hs (hid id (by simp [Cell.ids]))]
 case oF f cs => exact cap (fun id hm => hid id hm)
theorem RV {C : dn} (l : Live s) {d : Tmp} {f : FuncId} {vs : List aH} {caps : List Cap} (h : ∀ v ∈ vs, ∀ id ∈ v.ids, ∃ e, s.ak id = some e)
  (hc : ∀ id ∈ caps.filterMap (fun | .ptr id => some id | _ => none), ∃ e, s.ak id = some e) : GA C s1 d f vs caps = GA C s d f vs caps := by
 unfold GA
 cases (C.sig f).lend with
 | some _ => rfl
 | none =>
 simp only
 cases (C.sig f).io with
 | cons _ _ => rfl
 | nil =>
 simp only
 unfold zB
 cases C.P.funcs[f]? with
 | none => rfl
 | some fn => simp only; rw [Ib hs l h, BZ hs l hc, NH hs h hc]
end
section
variable {s s1 : St} {xs : List Operand} (e : Ext s s1 xs)
include e
theorem zS : ∀ {ys : List Operand}, (∀ x ∈ ys, x ∈ xs) -> dR s1 ys = dR s ys
 | [], _ => rfl
 | y :: ys, h => by
  simp only [dR]
  rw [e.ev y (h y (by simp)), zS (ys := ys) (fun x hx => h x (List.mem_cons_of_mem _ hx))]
theorem CX {x : Operand} (h : x ∈ xs) : s1.int x = s.int x := by
 unfold St.int
 rw [e.ev x h]
theorem Ic {x : Operand} (h : x ∈ xs) : s1.comp x = s.comp x := by
 unfold St.comp
 rw [e.ev x h]
theorem Ie {x : Option Operand} (h : ∀ y, x = some y -> y ∈ xs) : rF s1 x = rF s x := by
 cases x with
 | none => rfl
 | some y => simp only [rF]; rw [CX e (h y rfl)]
theorem zT {C : dn} {t : TypeId} : ∀ {parts : List (Nat × Operand)} {cs : List Cell}, (∀ p ∈ parts, p.2 ∈ xs) -> gK C s1 t parts cs = gK C s t parts cs
 | [], _, _ => rfl
 | (i, x) :: r, cs, h => by
  simp only [gK]
  rw [e.ev x (h (i, x) (by simp))]
  have ih : ∀ cs, gK C s1 t r cs = gK C s t r cs := fun cs => zT (fun p hp => h p (List.mem_cons_of_mem _ hp))
  simp only [ih]
theorem zU (l : Live s) {t : Ty} : ∀ {parts : List (Nat × Operand)} {a : List t.den} {ids : List Nat}, (∀ p ∈ parts, p.2 ∈ xs) -> dI s1 t parts a ids = dI s t parts a ids
 | [], _, _, _ => rfl
 | (i, x) :: r, a, ids, h => by
  simp only [dI]
  rw [e.ev x (h (i, x) (by simp))]
  have ih : ∀ a ids, dI s1 t r a ids = dI s t r a ids := fun a ids => zU l (fun p hp => h p (List.mem_cons_of_mem _ hp))
  simp only [ih]
  have hl := l.ev x
  cases hx : s.ev x with
  | Cx _ => rfl
  | one v =>
   rw [hx] at hl
   simp only
   rw [nO e.ak (fun c hc id hid => hl id (by simp only [Slot.ids, aH.ids, List.mem_flatMap]; exact ⟨c, hc, hid⟩))]
end
theorem NI {s : St} (l : Live s) : ∀ {ys : List Operand} {vs : List aH}, dR s ys = some vs -> ∀ v ∈ vs, ∀ id ∈ v.ids, ∃ e, s.ak id = some e
 | [], vs, h => by simp [dR] at h; subst h; simp
 | y :: ys, vs, h => by
  have hl := l.ev y
  simp only [dR] at h
  split at h
  ·rename_i c r hc hr
   simp at h
   subst h
   intro v hv
   rcases List.mem_cons.1 hv with rfl | hv
   ·rw [hc] at hl; exact hl
   ·exact NI l hr v hv
  ·cases h
theorem zV {C : dn} {o : Oper} {s s1 : St} (l : Live s) (hq : dG C o = true) (e : Ext s s1 o.op.operands.toList) : dB C o s1 = dB C o s := by
 obtain ⟨dst, op, type, pos, after, guard⟩ := o
 simp only [dG, Bool.and_eq_true] at hq
 obtain ⟨hd, hq⟩ := hq
 have el : ∀ x ∈ op.operands.toList, ∀ c, s.ev x = .one (.cell c) -> ∀ id ∈ c.ids, ∃ e, s.ak id = some e := fun x _ c hx id hid => l.ev x id (by rw [hx]; simpa [Slot.ids, aH.ids, aH.cells] using hid)
 replace e : Ext s s1 op.operands.toList := e
 cases op <;> try (simp at hq; done)
 case move x => simp only [dB]; rw [e.ev x (by simp [Op.operands])]
 case assign x => simp only [dB]; rw [e.ev x (by simp [Op.operands])]
 case pick c a b => simp only [dB]; rw [e.ev c (by simp [Op.operands]), e.ev a (by simp [Op.operands]), e.ev b (by simp [Op.operands])]
 case alloc t => rfl
 case box t x => simp only [dB]; rw [e.ev x (by simp [Op.operands])]
 case build t parts => simp only [dB]; simp only [zT e (fun p hp => by simp only [Op.operands, List.mem_map]; exact ⟨p, hp, rfl⟩)]
 case buildSlice t n parts => simp only [dB]; simp only [zU e l (fun p hp => by simp only [Op.operands, List.mem_map]; exact ⟨p, hp, rfl⟩)]
 case load t x =>
  simp only [dB]
  rw [e.ev x (by simp [Op.operands])]
  cases C.shape t with
  | none => rfl
  | some na =>
   obtain ⟨n, agg⟩ := na
   cases hx : s.ev x with
   | Cx _ => rfl
   | one c =>
    cases c with
    | agg _ => rfl
    | cell c => simp only; rw [ND e.ak (el x (by simp [Op.operands]) c hx)]
 case nilCheck x => simp only [dB]; rw [e.ev x (by simp [Op.operands])]
 case binOp op t x y t' => simp only [dB]; rw [Ic e (x := x) (by simp [Op.operands]), Ic e (x := y) (by simp [Op.operands])]
 case unOp op t x => simp only [dB]; rw [Ic e (x := x) (by simp [Op.operands])]
 case convert src dt x =>
  simp only [dB]
  rw [e.ev x (by simp [Op.operands])]
  split
  ·rfl
  ·rfl
  ·rename_i hx
   split
   ·rw [Uq e.ak (el x (by simp [Op.operands]) _ hx)]
   ·rfl
  ·rfl
 case makeFunc fn first captured =>
  cases fn <;> try (simp at hq; done)
  simp only [dB]
  rw [zS e (fun x hx => by simp [Op.operands] at *; exact .inr hx)]
 case makeSlice t a c => simp only [dB]; rw [CX e (x := a) (by simp [Op.operands]), CX e (x := c) (by simp [Op.operands])]
 case slice t x lo hi mx =>
  cases mx with
  | some _ => simp at hq
  | none =>
   simp only [dB]
   rw [e.ev x (by simp [Op.operands]), Ie e (x := lo) (fun y hy => by subst hy; simp [Op.operands]), Ie e (x := hi) (fun y hy => by subst hy; simp [Op.operands])]
   split
   ·rfl
   ·rename_i hx
    split
    ·simp only [JJ e.ak (el x (by simp [Op.operands]) _ hx)]
    ·rfl
   ·rfl
 case fieldAddr t x ix => simp only [dB]; rw [e.ev x (by simp [Op.operands])]
 case field t x ix => simp only [dB]; rw [e.ev x (by simp [Op.operands])]
 case indexAddr t x ix =>
  simp only [dB]
  rw [e.ev x (by simp [Op.operands]), CX e (x := ix) (by simp [Op.operands])]
  congr 1
  funext y
  split
  ·rename_i hx
   rw [JK e.ak (el x (by simp [Op.operands]) _ hx)]
  ·rfl
 case index t x ix => simp only [dB]; rw [e.ev x (by simp [Op.operands]), CX e (x := ix) (by simp [Op.operands])]
 case extract x ix => simp only [dB]; rw [e.ev x (by simp [Op.operands])]
 case call c =>
  obtain ⟨callee, args, argTypes⟩ := c
  have hargs : ∀ x ∈ args.toList, x ∈ (Op.call ⟨callee, args, argTypes⟩).operands.toList := fun x hx => by
   cases callee <;> simp [Op.operands, Call.operands] at * <;> first | exact hx | exact .inr hx
  have hmap : args.toList.map s1.ev = args.toList.map s.ev := List.map_congr_left fun x hx => e.ev x (hargs x hx)
  cases callee with
  | invoke _ _ => simp at hq
  | value g =>
   have hg : g ∈ (Op.call ⟨.value g, args, argTypes⟩).operands.toList := by simp [Op.operands, Call.operands]
   simp only [dB]
   rw [e.ev g hg, zS e hargs]
   split
   ·rename_i hg' hvs
    exact RV e.ak l (NI l hvs) (el g hg _ hg')
   ·rfl
  | builtin b =>
   cases b <;> try (simp at hq; done)
   case len =>
    simp only [dB]
    split
    ·rename_i hx hd
     have hm := hargs
     rw [hx] at hm
     rw [e.ev _ (hm _ (by simp))]
     split
     ·rename_i c hc
      rw [Wl e.ak (el _ (hm _ (by simp)) _ hc)]
     ·rfl
    ·rfl
   case max => simp only [dB]; rw [hmap]
   case min => simp only [dB]; rw [hmap]
end Go.Flat
