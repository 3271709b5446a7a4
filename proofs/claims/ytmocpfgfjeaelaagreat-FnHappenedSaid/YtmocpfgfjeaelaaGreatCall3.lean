/- The operation that calls. No condition. -/
import Derived.Test.YtmocpfgfjeaelaaGreatBox
set_option linter.unusedVariables false
set_option linter.unusedSimpArgs false
namespace Go.Flat
theorem DZ {C : dn} {F0 : mo} {A G Gc : Nat -> Prop} {s : St} {a : Act} {w : World} {pl : Nat -> Option Pl} (i : Inv F0 G s a w pl) (JE : ∀ b, G b -> Gc b) (qZ : ∀ b, F0 b \/ G b -> A b) (zf : ∀ id e p, s.ak id = some e -> pl id = some p -> ∀ b ∈ e.bs p, A b) (tq : ∀ b, Gc b -> A b) {io : List Nat} : ∀ {ts : List TypeId} {vs : List aH} {n : Nat} {as : List Arg} {us : List Value},
  pU C s io n ts vs = some as -> yS as = false -> us.length = vs.length -> (∀ (j : Nat) c u, vs[j]? = some c -> us[j]? = some u -> eO (mem F0 G w.heap s.ak pl) c u) -> (vs.any (fun v => v.cells.any (kM s)) = true -> DW s pl Gc) -> gX A Gc w.heap as us
 | ts, [], n, as, us, h, _, hl, _, _ => by
  have : as = [] := by cases ts <;> simpa [pU] using h.symm
  subst this
  exact ⟨hl, fun i a v hi => by simp at hi⟩
 | [], v :: vs, n, as, us, h, _, _, _, _ => by simp [pU] at h
 | t :: ts, v :: vs, n, as, us, h, BP, hl, hr, hD => by
  simp only [pU] at h
  split at h
  ·rename_i x rest hx hrest
   simp at h
   subst h
   cases us with
   | nil => simp at hl
   | cons u us =>
    have VR : yS rest = false := by cases x <;> simp [yS] at BP <;> exact BP
    obtain ⟨k1, k2⟩ := DZ i JE qZ zf tq hrest VR (by simpa using hl) (fun j c u' hj hu => hr (j + 1) c u' (by simpa using hj) (by simpa using hu)) (fun h => hD (by rw [List.any_cons, h, Bool.or_true]))
    refine ⟨by simp [k1], fun j a' v' hj hv => ?_⟩
    cases j with
    | succ j => exact k2 j a' v' (by simpa using hj) (by simpa using hv)
    | zero =>
     simp at hj hv
     subst hj hv
     have hval : nH C s t v = some x := by
      unfold toArg at hx
      cases hc : io.contains n with
      | false => rw [hc] at hx; exact hx
      | true =>
       rw [hc] at hx
       have hx : FZ s v = some x := hx
       exfalso
       unfold FZ at hx
       split at hx
       ·split at hx
        ·simp at hx; subst hx; simp [yS] at BP
        ·cases hx
       ·split at hx
        ·obtain ⟨y, _, rfl⟩ := Option.map_eq_some_iff.1 hx; simp [yS] at BP
        ·cases hx
       ·cases hx
     exact Nv i JE qZ zf (hr 0 v u rfl rfl) hval tq (fun h => hD (by rw [List.any_cons, h, Bool.true_or]))
  ·cases h
theorem Aw {C : dn} {s : St} {io : List Nat} : ∀ {ts : List TypeId} {vs : List aH} {n : Nat} {as : List Arg}, pU C s io n ts vs = some as -> yS as = false -> ∀ b ∈ as, b.sZ = false
 | ts, [], n, as, h, _ => by
  have : as = [] := by cases ts <;> simpa [pU] using h.symm
  subst this
  simp
 | [], v :: vs, n, as, h, _ => by simp [pU] at h
 | t :: ts, v :: vs, n, as, h, BP => by
  simp only [pU] at h
  split at h
  ·rename_i y rest hy hrest
   simp at h
   subst h
   have VR : yS rest = false /\ y.sZ = false := by cases y <;> simp [yS] at BP <;> exact ⟨BP, rfl⟩
   intro b hb
   rcases List.mem_cons.1 hb with rfl | hb
   ·exact VR.2
   ·exact Aw hrest VR.1 b hb
  ·cases h
theorem BQ : ∀ {caps : List Cap} {as : List Arg}, caps.mapM tX = some as -> ∀ b ∈ as, b.sZ = false
 | [], as, h => by simp at h; subst h; simp
 | c :: caps, as, h => by
  rw [List.mapM_cons] at h
  simp only [Option.bind_eq_bind, Option.bind_eq_some_iff, Option.pure_def, Option.some.injEq] at h
  obtain ⟨x, hx, rest, hrest, rfl⟩ := h
  intro b hb
  rcases List.mem_cons.1 hb with rfl | hb
  ·exact RS hx
  ·exact BQ hrest b hb
theorem BR {A G : Nat -> Prop} {h : Array Obj} : ∀ {caps : List Cap} {as : List Arg} {us : List Value}, caps.mapM tX = some as -> us.length = caps.length -> (∀ (j : Nat) c u, caps[j]? = some c -> us[j]? = some u -> oL (zM A G h) c u) ->
  gX A G h as us
 | [], as, us, h, hl, _ => by
  simp at h
  subst h
  exact ⟨hl, fun i a v hi => by simp at hi⟩
 | c :: caps, as, us, h, hl, hr => by
  rw [List.mapM_cons] at h
  simp only [Option.bind_eq_bind, Option.bind_eq_some_iff, Option.pure_def, Option.some.injEq] at h
  obtain ⟨x, hx, rest, hrest, rfl⟩ := h
  cases us with
  | nil => simp at hl
  | cons u us =>
   obtain ⟨k1, k2⟩ := BR hrest (by simpa using hl) (fun j c u' hj hu => hr (j + 1) c u' (by simpa using hj) (by simpa using hu))
   refine ⟨by simp [k1], fun j a' v' hj hv => ?_⟩
   cases j with
   | succ j => exact k2 j a' v' (by simpa using hj) (by simpa using hv)
   | zero =>
    simp at hj hv
    subst hj hv
    have hcr := hr 0 c u rfl rfl
    cases c with
    | ptr _ => simp [tX] at hx
    | ro t y =>
     simp [tX] at hx
     subst hx
     obtain ⟨b, o, es, h1, h2, h3, h4⟩ := hcr
     exact ⟨b, o, es, by rw [Nat.add_zero]; exact h1, h2, h3, h4⟩
theorem gX.append {A G : Nat -> Prop} {h : Array Obj} {as bs : List Arg} {us vs : List Value} (h1 : gX A G h as us) (h2 : gX A G h bs vs) : gX A G h (as ++ bs) (us ++ vs) := by
 refine ⟨by simp [h1.1, h2.1], fun i a v hi hv => ?_⟩
 rw [List.getElem?_append] at hi hv
 split at hi
 ·rename_i hlt
  rw [if_pos (by rw [h1.1]; exact hlt)] at hv
  exact h1.2 i a v hi hv
 ·rename_i hlt
  rw [if_neg (by rw [h1.1]; exact hlt), h1.1] at hv
  exact h2.2 _ a v hi hv
theorem vG {F0 : mo} {G : Nat -> Prop} {s : St} {a : Act} {w : World} {pl : Nat -> Option Pl} (i : Inv F0 G s a w pl) : ∀ {xs : List Operand} {vs : List aH}, dR s xs = some vs ->
  (xs.map a.eval).length = vs.length /\ ∀ (j : Nat) c u, vs[j]? = some c -> (xs.map a.eval)[j]? = some u -> eO (mem F0 G w.heap s.ak pl) c u
 | [], vs, h => by simp [dR] at h; subst h; exact ⟨rfl, fun j c u hj => by simp at hj⟩
 | x :: xs, vs, h => by
  simp only [dR] at h
  split at h
  ·rename_i c r hs hr
   simp at h
   subst h
   obtain ⟨k1, k2⟩ := vG i hr
   refine ⟨by simpa using k1, fun j c' u hj hu => ?_⟩
   cases j with
   | succ j => exact k2 j c' u (by simpa using hj) (by simpa using hu)
   | zero =>
    simp at hj hu
    subst hj hu
    have := i.slot x
    rw [hs] at this
    exact this
  ·cases h
section
variable {C : dn} {ah : FuncId -> (t : Ty) -> List Arg -> Option t.den}
 {dst : Option Tmp} {type : TypeId} {pos : String} {after : Array Edge} {guard : Option (Nat × Bool)}
theorem Rd.plain {G G2 A A2 : Nat -> Prop} {h : Array Obj} : ∀ {t : Ty} {x : t.den} {cs : List Value}, t.plain = true -> Rd G h t A x cs -> Rd G2 h t A2 x cs
 | .bool, _, _, _, e => e
 | .int _, _, _, _, e => e
 | .str, _, _, _, e => e
 | .unit, _, _, _, e => e
 | .list _, _, _, hp, _ => by simp [Ty.plain] at hp
 | .cB _, _, _, hp, _ => by simp [Ty.plain] at hp
 | .pair a b, x, cs, hp, ⟨c, d, e, h1, h2⟩ => by
  simp only [Ty.plain, Bool.and_eq_true] at hp
  exact ⟨c, d, e, h1.plain hp.1, h2.plain hp.2⟩
theorem dF.cut {G G2 : Nat -> Prop} {h : Array Obj} : ∀ {t : Ty} {x : t.den} {cs : List Value} {ps : List (Option Pl)}, dF true G h t x cs ps -> t.cut = true -> dF true G2 h t x cs ps
 | .bool, _, _, _, e, _ => e
 | .int _, _, _, _, e, _ => e
 | .str, _, _, _, e, _ => e
 | .unit, _, _, _, e, _ => e
 | .list t, l, cs, ps, H, hc => by
  simp only [dF, if_true] at H ⊢
  obtain ⟨v, π, rfl, rfl, h1, h2, h3⟩ := H
  refine ⟨v, π, rfl, rfl, h1, ?_, h3⟩
  cases π with
  | none => exact h2
  | some p =>
   obtain ⟨c, e, fz, k1, k2, k3, k4, k5⟩ := h2
   refine ⟨c, e, fz, k1, k2, k3, k4, fun i x hi => ?_⟩
   obtain ⟨es, h4, h5⟩ := k5 i x hi
   exact ⟨es, h4.plain hc, h5⟩
 | .cB t, l, cs, ps, H, hc => by
  obtain ⟨v, π, rfl, rfl, h1, h2⟩ := jX.1 H
  refine jX.2 ⟨v, π, rfl, rfl, h1, ?_⟩
  cases π with
  | none => exact h2
  | some p =>
   obtain ⟨c, e, fz, k1, k2, k3, k4, k5, k6, k7, k8⟩ := h2
   refine ⟨c, e, fz, k1, k2, k3, k4, k5, k6, k7, fun i x qs hi hq => ?_⟩
   obtain ⟨es, h4, h5⟩ := k8 i x qs hi hq
   exact ⟨es, dF.cut h4 hc, h5⟩
 | .pair a b, x, cs, ps, ⟨c, d, p, q, h1, h2, h3, h4⟩, hc => by
  simp only [Ty.cut, Bool.and_eq_true] at hc
  exact ⟨c, d, p, q, h1, h2, dF.cut h3 hc.1, dF.cut h4 hc.2⟩
theorem Ny (good : Good C) (hcall : BN C ah) {R : Type} {F0 : mo} {G : Nat -> Prop} {s1 : St} {a : Act} {w : World} {pl : Nat -> Option Pl} {κ : St -> Option R} {r : R} {Q : Exit -> Act -> World -> Prop} {g : Operand} {args : Array Operand} {argTypes : Array TypeId}
  {f : FuncId} {fn : Func} {rt : Ty} {as : List Arg} {us VT : List Value} {r0 : rt.den} {A Gc : Nat -> Prop} (hfn : C.P.funcs[f]? = some fn) (hmk : (C.sig f).yh = false) (hr0 : ah f rt as = some r0) (i1 : Inv F0 G s1 a w pl) (ht : xI C w F0) (hA : ∀ b, A b -> b < w.heap.size)
  (qZ : ∀ b, F0 b \/ G b -> A b) (zf : ∀ id e p, s1.ak id = some e -> pl id = some p -> ∀ b ∈ e.bs p, A b) (JE : ∀ b, G b -> Gc b) (tq : ∀ b, Gc b -> A b) (hcut : Gc = G \/ ((C.sig f).own = true /\ rt.cut = true)) (hone : Hr as) (hargs : gX A Gc w.heap as (us ++ VT)) (hgv : a.eval g = .func (.func f) #[] VT.toArray) (hus : args.toList.map a.eval = us)
  (h : (nI s1 (jg (C.sig f).own (Nat.beq fn.resultTypes.size 1) (aJ (dst.getD 0)) rt r0).2).run ah (fun s => (s.put dst (jg (C.sig f).own (Nat.beq fn.resultTypes.size 1) (aJ (dst.getD 0)) rt r0).1).run ah κ) = some r) :
  (⟨dst, .call ⟨.value g, args, argTypes⟩, type, pos, after, guard⟩ : Oper).wp C.P a w (AO F0 G w κ r) Q := by
 obtain ⟨hbody, Ea⟩ := hcall f fn rt as r0 hfn hr0 hmk
 have hc := Ea w A Gc (us ++ VT) hA tq (ht.1.more fun b hb => qZ b (.inl hb)) hone hargs
 have hname : (fn.name == "runtime.NumGoroutine") = false := by
  have := Array.all_eq_true.1 good.names
  obtain ⟨hlt, hget⟩ := Array.getElem?_eq_some_iff.1 hfn
  have := this f hlt
  rw [hget] at this
  simpa using this
 have kQ : (execOp a.eval ⟨dst, .call ⟨.value g, args, argTypes⟩, type, pos, after, guard⟩).run C.P w = .ok (.enter f (us ++ VT).toArray) w := by
  have hb : fn.body.isNone = false := by cases hb : fn.body <;> simp [hb] at hbody ⊢
  subst hus
  simp only [execOp, resolve, Sem.run_bind, hgv, Deferred.ofValue, Sem.run_pure, Result.andThen_ok, invoke, callFunc, run_program, hfn, hname, hb, Bool.false_eq_true, if_false]
  congr 2
  apply Array.ext'
  simp
 unfold Oper.wp
 rw [kQ]
 refine Calls.mono hc fun e w' hpost => ?_
 obtain ⟨v, G1, ps, rfl, hsz, hstr, hh, hG, hnew, hres, hfresh, hnd⟩ := hpost
 show AO F0 G w κ r (a.put dst v) w'
 obtain ⟨G', hG, hnew, hres, hfresh⟩ : ∃ G' : Nat -> Prop, (∀ b, G b -> G' b) /\ (∀ b, G' b -> G b \/ (¬ A b /\ b < w'.heap.size)) /\ xP (C.sig f).own (Nat.beq fn.resultTypes.size 1) rt G' w'.heap r0 v ps /\ ∀ b ∈ blks ps, ¬ A b /\ ¬ G' b /\ b < w'.heap.size := by
  rcases hcut with e | ⟨h1, h2⟩
  ·subst e
   exact ⟨G1, hG, hnew, hres, hfresh⟩
  ·refine ⟨G, fun _ h => h, fun _ h => .inl h, ?_, fun b hb => ⟨(hfresh b hb).1, fun h => (hfresh b hb).1 (qZ b (.inr h)), (hfresh b hb).2.2⟩⟩
   obtain ⟨cs, k1, k2⟩ := hres
   rw [h1] at k1 ⊢
   exact ⟨cs, k1.cut h2, k2⟩
 obtain ⟨i2, fr⟩ := i1.WY qZ zf hsz (ht.str hstr) hh hG hnew
 obtain ⟨hrows, Nz⟩ := Hu (key := aJ (dst.getD 0)) hres
 have hF : ∀ b ∈ blks ps, ¬ (F0 b \/ G' b) /\ b < w'.heap.size /\ ∀ id e q, s1.ak id = some e -> pl id = some q -> b ∉ e.bs q := by
  intro b hb
  obtain ⟨k1, k2, k3⟩ := hfresh b hb
  refine ⟨fun h => ?_, k3, fun id e q hid hq hb' => k1 (zf id e q hid hq b hb')⟩
  rcases h with h | h
  ·exact k1 (qZ _ (.inl h))
  ·exact k2 h
 obtain ⟨s', nX, k1, k2, k3, k4⟩ := zN i2 hrows hF hnd h
 obtain ⟨s'', k5, k6, _⟩ := BH k2 (Nz _ rfl rfl k3) k1
 exact ⟨s'', G', nX, k5, k6, fr⟩
theorem VU (good : Good C) (hcall : BN C ah) {R : Type} {F0 : mo} {G : Nat -> Prop} {s : St} {a : Act} {w : World} {pl : Nat -> Option Pl} {κ : St -> Option R} {r : R} {Q : Exit -> Act -> World -> Prop} {args : Array Operand} {argTypes : Array TypeId}
  {f : FuncId} {vs : List aH} {i0 : Nat} (hmk : (C.sig f).yh = false) (i : Inv F0 G s a w pl) (ht : xI C w F0) (hvs : dR s args.toList = some vs)
  (h : (qA C s ⟨dst, .call ⟨.value (.func f), args, argTypes⟩, type, pos, after, guard⟩ f vs [] i0).run ah κ = some r) :
  (⟨dst, .call ⟨.value (.func f), args, argTypes⟩, type, pos, after, guard⟩ : Oper).wp C.P a w (AO F0 G w κ r) Q := by
 obtain ⟨hal, har⟩ := vG i hvs
 unfold qA at h
 split at h
 ·rename_i fn v hfn hv
  split at h
  ·rename_i T0 hT
   split at h
   ·rename_i hka
    simp only [Bool.and_eq_true] at hka
    split at h
    ·rename_i x ids hof
     cases hnd : nodup ids with
     | false => rw [hnd] at h; cases h
     | true =>
      rw [hnd] at h
      simp only [cond_true] at h
      split at h
      ·rename_i as cas rt has hcas hrt
       split at h
       ·simp at h
       rename_i hdp
       simp only [jQ, List.any_nil, Bool.or_false, Bool.not_eq_true] at hdp
       simp only [T.run] at h
       rw [Option.bind_eq_some_iff] at h
       obtain ⟨r0, hr0, h⟩ := h
       have YW : cas = [] := by simpa [kG] using hcas.symm
       subst YW
       have hi0 : i0 < (args.toList.map a.eval).length := by rw [hal]; exact (List.getElem?_eq_some_iff.1 hv).1
       obtain ⟨u0, hu0⟩ : ∃ u0, (args.toList.map a.eval)[i0]? = some u0 := ⟨_, List.getElem?_eq_getElem hi0⟩
       have hc0 := har i0 v u0 hv hu0
       obtain ⟨ps, hown, hblk⟩ := vD i.ak hof (iB hka.1 hc0)
       have hval := vF hka.1 hka.2 hc0
       have live : ∀ j ∈ ids, Lv s.ak .give j := mM hof
       have hbl : ∀ b, b ∈ blks ps ↔ ∃ j ∈ ids, ∃ p, pl j = some p /\ b ∈ p.bs := by
        intro b
        rw [hblk]
        simp only [List.mem_flatMap, List.mem_filterMap]
        exact ⟨fun ⟨p, ⟨j, hj, hp⟩, hb⟩ => ⟨j, hj, p, hp, hb⟩, fun ⟨j, hj, p, hp, hb⟩ => ⟨p, ⟨j, hj, hp⟩, hb⟩⟩
       have hfree : ∀ b ∈ blks ps, ¬ (F0 b \/ G b) /\ b < w.heap.size := by
        intro b hb
        obtain ⟨j, hj, p, hp, hbp⟩ := (hbl b).1 hb
        obtain ⟨e, he, k1, _, k2⟩ := (live j hj).bs i.ak hp
        exact ⟨k2 rfl b hbp, i.ak.qp he hp b (k1 ▸ hbp)⟩
       obtain ⟨i1, old, kr⟩ := i.bO (pX hnd) (fun j hj => (live j hj).QO)
       have qZ : ∀ b, F0 b \/ G b -> (b < w.heap.size /\ b ∉ blks ps) := fun b hb => ⟨i.ak.lt b hb, fun h => (hfree b h).1 hb⟩
       have zf : ∀ j e p, (s.bO ids).ak j = some e -> pl j = some p -> ∀ b ∈ e.bs p, (b < w.heap.size /\ b ∉ blks ps) := by
        intro j e p he hp b hb
        obtain ⟨hj, e', he', hbs⟩ := old j e he
        rw [hbs p] at hb
        refine ⟨i.ak.qp he' hp b hb, fun h => ?_⟩
        obtain ⟨k, hk, q, hq, hbq⟩ := (hbl b).1 h
        obtain ⟨e2, he2, k1, _, _⟩ := (live k hk).bs i.ak hq
        exact i.ak.apart' j k e' e2 p q he' he2 (fun e => hj (e ▸ hk)) hp hq b hb (k1 ▸ hbq)
       obtain ⟨m1, m2, m3⟩ := BO (A := fun b => b < w.heap.size /\ b ∉ blks ps) (us := args.toList.map a.eval) i1 qZ zf has (by simpa using hal) (fun j c u hj hu => by
        rw [List.getElem?_map] at hj
        obtain ⟨c', hc', rfl⟩ := Option.map_eq_some_iff.1 hj
        exact kr c' u (har j c' u hc' hu)) hdp
       have hai := m3 i0 (by omega) (by rw [<- m1]; exact hi0)
       have hnd' : (blks ps).Nodup := by rw [hblk]; exact qC i.ak (pX hnd) live
       have hargs : gX (fun b => b < w.heap.size /\ b ∉ blks ps) G w.heap (as ++ []) (args.toList.map a.eval ++ []) := by
        rw [List.append_nil, List.append_nil]
        refine ⟨m1, fun j a' v' hj hv' => ?_⟩
        by_cases hji : j = i0
        ·subst hji
         rw [hai] at hj
         cases hj
         rw [hu0] at hv'
         cases hv'
         exact ⟨_, ps, hown, hval, fun b hb => ⟨fun h => h.2 hb, (hfree b hb).2⟩, hnd'⟩
        ·exact (m2 j a' v' (by omega) hj hv').2
       rw [T.run_bind] at h
       refine Ny good hcall hfn hmk hr0 i1 ht (fun b hb => hb.1) qZ zf (fun _ h => h) (fun b hb => qZ b (.inr hb)) (.inl rfl) (fun y z b c hy hz hb hc => ?_) hargs rfl rfl h
       have key : ∀ {y b}, (as ++ [])[y]? = some b -> b.sZ = true -> y = i0 := by
        intro y b hy hb
        rw [List.append_nil] at hy
        refine Classical.byContradiction fun hne => ?_
        have hlt : y < (args.toList.map a.eval).length := by rw [m1]; exact (List.getElem?_eq_some_iff.1 hy).1
        have := (m2 y b _ (by omega) hy (List.getElem?_eq_getElem hlt)).1
        rw [this] at hb
        cases hb
       exact (key hy hb).trans (key hz hc).symm
      ·simp at h
    ·simp at h
   ·simp at h
  ·simp at h
 ·simp at h
theorem Ui (good : Good C) (yA : Uh C ah) {R : Type} {F0 : mo} {G : Nat -> Prop} {s : St} {a : Act} {w : World} {pl : Nat -> Option Pl} {κ : St -> Option R} {r : R} {Q : Exit -> Act -> World -> Prop} {g : Operand} {args : Array Operand} {argTypes : Array TypeId}
  {f : FuncId} {vs : List aH} {caps : List Cap} {i0 id : Nat} (i : Inv F0 G s a w pl) (ht : xI C w F0) (hvs : dR s args.toList = some vs) (PE : vs[i0]? = some (.cell (.ptr id 0)))
  (hg : fC (mem F0 G w.heap s.ak pl) (.oF f caps) (a.eval g))
  (h : (nk C s ⟨dst, .call ⟨.value g, args, argTypes⟩, type, pos, after, guard⟩ f vs caps i0 id).run ah κ = some r) :
  (⟨dst, .call ⟨.value g, args, argTypes⟩, type, pos, after, guard⟩ : Oper).wp C.P a w (AO F0 G w κ r) Q := by
 obtain ⟨hal, har⟩ := vG i hvs
 unfold nk at h
 split at h
 ·rename_i fn T0 cs hfn uf
  split at h
  ·rename_i x ids hof
   cases VW : (nodup ids && (T0.ob || ids.isEmpty)) with
   | false => rw [VW] at h; cases h
   | true =>
    rw [VW] at h
    simp only [cond_true] at h
    rw [Bool.and_eq_true] at VW
    obtain ⟨hnd, MQ⟩ := VW
    split at h
    ·rename_i as cas rt has hcas hrt
     split at h
     ·simp at h
     rename_i hdp
     simp only [jQ, Bool.or_eq_true, not_or, Bool.not_eq_true] at hdp
     simp only [T.run] at h
     rw [Option.bind_eq_some_iff] at h
     obtain ⟨r0, hr0, h⟩ := h
     have hi0 : i0 < (args.toList.map a.eval).length := by rw [hal]; exact (List.getElem?_eq_some_iff.1 PE).1
     obtain ⟨u0, hu0⟩ : ∃ u0, (args.toList.map a.eval)[i0]? = some u0 := ⟨_, List.getElem?_eq_getElem hi0⟩
     obtain ⟨t9, cs9, p, Ym, hp, hpo, hu⟩ := har i0 _ u0 PE hu0
     have Ym : s.ak id = some (.box t9 cs9) := Ym
     rw [uf] at Ym
     cases Ym
     have hp : pl id = some p := hp
     have hent := i.ak.ent id _ uf
     obtain ⟨p', c, e, fz, hp', ho, Uj, hfz, hsz0, hcs, hty, hrel, hnF⟩ := hent
     have hp' : pl id = some p' := hp'
     rw [hp] at hp'
     cases hp'
     have Uj : w.heap[p.b]? = some (.cells c e fz) := Uj
     have hnF : ¬ (F0 p.b \/ G p.b) := hnF
     have hcT : c.size = T0.sz := by rw [hcs]; exact hty T0 rfl
     obtain ⟨⟨ps, hown, hblk⟩, live⟩ := Hy i.ak hof MQ hrel
     have live : ∀ j ∈ ids, Lv s.ak .give j := live
     have hbl : ∀ b, b ∈ blks ps ↔ ∃ j ∈ ids, ∃ p, pl j = some p /\ b ∈ p.bs := by
      intro b
      rw [hblk]
      simp only [List.mem_flatMap, List.mem_filterMap]
      exact ⟨fun ⟨p, ⟨j, hj, hp⟩, hb⟩ => ⟨j, hj, p, hp, hb⟩, fun ⟨j, hj, p, hp, hb⟩ => ⟨p, ⟨j, hj, hp⟩, hb⟩⟩
     have hfree : ∀ b ∈ blks ps, ¬ (F0 b \/ G b) /\ b < w.heap.size := by
      intro b hb
      obtain ⟨j, hj, q, hq, hbq⟩ := (hbl b).1 hb
      obtain ⟨e, he, k1, _, k2⟩ := (live j hj).bs i.ak hq
      exact ⟨k2 rfl b hbq, i.ak.qp he hq b (k1 ▸ hbq)⟩
     have hid : id ∉ ids := fun hm => (live id hm).QO _ _ uf
     have aav : p.b ∉ blks ps := fun hb => by
      obtain ⟨j, hj, q, hq, hbq⟩ := (hbl _).1 hb
      obtain ⟨e2, he2, k1, _, _⟩ := (live j hj).bs i.ak hq
      exact i.ak.apart' id j _ e2 p q uf he2 (fun e => hid (e ▸ hj)) hp hq p.b (Entry.oP _ p) (k1 ▸ hbq)
     obtain ⟨i1, old, kr⟩ := i.bO (pX hnd) (fun j hj => (live j hj).QO)
     obtain ⟨cs1, hs1⟩ := EW (ids := ids) hid uf
     obtain ⟨i2, fk, Xq⟩ := i1.forget hs1
     have qZ : ∀ b, F0 b \/ G b -> (b < w.heap.size /\ b ∉ blks ps /\ b ≠ p.b) := fun b hb => ⟨i.ak.lt b hb, fun h => (hfree b h).1 hb, fun e => hnF (e ▸ hb)⟩
     have Xz : ∀ j e q, j ≠ id -> (s.bO ids).ak j = some e -> pl j = some q -> ∀ b ∈ e.bs q, (b < w.heap.size /\ b ∉ blks ps /\ b ≠ p.b) := by
      intro j e q hne he hq b hb
      obtain ⟨hj, e', he', hbs⟩ := old j e he
      rw [hbs q] at hb
      refine ⟨i.ak.qp he' hq b hb, fun h => ?_, fun h => ?_⟩
      ·obtain ⟨k, hk, q2, hq2, hbq⟩ := (hbl b).1 h
       obtain ⟨e2, he2, k1, _, _⟩ := (live k hk).bs i.ak hq2
       exact i.ak.apart' j k e' e2 q q2 he' he2 (fun e => hj (e ▸ hk)) hq hq2 b hb (k1 ▸ hbq)
      ·exact i.ak.apart' j id e' _ q p he' uf hne hq hp b hb (by rw [h]; exact Entry.oP _ p)
     have zf : ∀ j e q, ((s.bO ids).forget id).ak j = some e -> pl j = some q -> ∀ b ∈ e.bs q, (b < w.heap.size /\ b ∉ blks ps /\ b ≠ p.b) := by
      intro j e q he hq b hb
      obtain ⟨hj, e', he', hbs⟩ := Xq j e he
      exact Xz j e' q hj he' hq b (hbs q ▸ hb)
     obtain ⟨m1, m2, m3⟩ := BO (A := fun b => b < w.heap.size /\ b ∉ blks ps /\ b ≠ p.b) (us := args.toList.map a.eval) i2 qZ zf has (by simpa using hal) (fun j c u hj hu => by
      rw [List.getElem?_map] at hj
      obtain ⟨c', hc', rfl⟩ := Option.map_eq_some_iff.1 hj
      exact fk _ u (kr c' u (har j c' u hc' hu))) hdp.1
     have hai := m3 i0 (by omega) (by rw [<- m1]; exact hi0)
     rw [Option.bind_eq_some_iff] at hcas
     obtain ⟨zI, DT, hmap⟩ := hcas
     have hnp : caps.any (Cap.Kj id) = false := by
      cases hb : caps.any (Cap.Kj id) with
      | false => rfl
      | true =>
       obtain ⟨cp, hm, hcp⟩ := List.any_eq_true.1 hb
       obtain ⟨c', hc'⟩ := Hw DT cp hm
       cases cp with
       | ro _ _ => simp [Cap.Kj] at hcp
       | ptr k =>
        have : k = id := Nat.eq_of_beq_eq_true hcp
        subst this
        have hn : ((s.bO ids).forget k).ak k = none := by
         show upd (fun j => ((s.bO ids).ak j).map (·.forget k)) k none k = none
         exact upd_same _ _ _
        simp [xC, hn] at hc'
     have hg2 : eO (mem F0 G w.heap ((s.bO ids).forget id).ak pl) (.cell (.oF f caps)) (a.eval g) := by
      have h1 := fk _ _ (kr (.cell (.oF f caps)) (a.eval g) hg)
      rw [EX] at h1
      have h1 : fC _ (Cell.forget id (.oF f caps)) _ := h1
      simp only [Cell.forget, hnp, cond_false] at h1
      exact h1
     obtain ⟨VT, hgv, hcl, hcr⟩ := hg2
     have hcp := DX (A := fun b => b < w.heap.size /\ b ∉ blks ps /\ b ≠ p.b) (Gc := G) i2 (fun _ h => h) qZ zf DT hcl hcr (fun hd => by rw [hdp.2] at hd; cases hd)
     have hca := BR hmap hcp.1 hcp.2
     have aaw := BQ hmap
     have aax : (as ++ cas)[i0]? = some (.fV T0 x) := by rw [List.getElem?_append_left (by rw [<- m1]; exact hi0)]; exact hai
     obtain ⟨hbody, hc⟩ := yA f fn rt T0 x i0 (as ++ cas) r0 hfn hr0 aax
     have hnd' : (blks ps).Nodup := by rw [hblk]; exact qC i.ak (pX hnd) live
     have hc := hc w (fun b => b < w.heap.size /\ b ∉ blks ps /\ b ≠ p.b) G (args.toList.map a.eval ++ VT) p.b ps (fun b hb => hb.1) (fun b hb => qZ b (.inr hb)) (ht.1.more fun b hb => qZ b (.inl hb))
      (by rw [List.length_append, List.length_append, m1, hca.1]) (by rw [List.getElem?_append_left hi0, hu0, hu])
      ⟨⟨c, e, fz, Uj, hfz, hcT, hown⟩, fun b hb => by
       rcases List.mem_cons.1 hb with rfl | hb
       ·exact ⟨fun h => h.2.2 rfl, i.ak.WV uf hp⟩
       ·exact ⟨fun h => h.2.1 hb, (hfree b hb).2⟩, List.nodup_cons.2 ⟨aav, hnd'⟩⟩ (fun j a' v' hne hj hv' => by
       by_cases hlt : j < as.length
       ·rw [List.getElem?_append_left hlt] at hj
        rw [List.getElem?_append_left (by omega)] at hv'
        exact m2 j a' v' (by omega) hj hv'
       ·rw [List.getElem?_append_right (by omega)] at hj
        rw [List.getElem?_append_right (by omega), m1] at hv'
        exact ⟨aaw a' (List.mem_of_getElem? hj), hca.2 _ a' v' hj hv'⟩)
     have hname : (fn.name == "runtime.NumGoroutine") = false := by
      have := Array.all_eq_true.1 good.names
      obtain ⟨hlt, hget⟩ := Array.getElem?_eq_some_iff.1 hfn
      have := this f hlt
      rw [hget] at this
      simpa using this
     have kQ : (execOp a.eval ⟨dst, .call ⟨.value g, args, argTypes⟩, type, pos, after, guard⟩).run C.P w = .ok (.enter f (args.toList.map a.eval ++ VT).toArray) w := by
      have hb : fn.body.isNone = false := by cases hb : fn.body <;> simp [hb] at hbody ⊢
      simp only [execOp, resolve, Sem.run_bind, hgv, Deferred.ofValue, Sem.run_pure, Result.andThen_ok, invoke, callFunc, run_program, hfn, hname, hb, Bool.false_eq_true, if_false]
      congr 2
      apply Array.ext'
      simp
     unfold Oper.wp
     rw [kQ]
     refine Calls.mono hc fun e1 w' hpost => ?_
     obtain ⟨v', G', qs, ps', rfl, hsz, hstr, hh, hG, hnew, hres, ⟨c1, e2, fz1, hh1, VX, hc1, hown1⟩, hfresh, aay, Xy⟩ := hpost
     show AO F0 G w κ r (a.put dst v') w'
     obtain ⟨i3, fr⟩ := i1.VQ (G' := G') (A := fun b => b < w.heap.size /\ b ∉ blks ps /\ b ≠ p.b) hs1 hp hpo hh1 VX (by rw [hc1, <- hcT]; exact hsz0) hown1.one Xy qZ Xz hsz (ht.str hstr) hh hG hnew
     rw [hc1] at i3
     obtain ⟨hrows2, hcells⟩ := qw (key := Ki id) 0 hown1
     obtain ⟨hrows, Nz⟩ := Hu (key := aJ (dst.getD 0)) hres
     generalize hrc : aR T0.ob (Ki id) T0 r0.2 0 = rc at h hrows2 hcells
     obtain ⟨bc, es2, jj⟩ := rc
     generalize hrs : jg true (Nat.beq fn.resultTypes.size 1) (aJ (dst.getD 0)) rt r0.1 = rs at h hrows Nz
     obtain ⟨v, es⟩ := rs
     simp only at h hrows2 hcells hrows Nz
     rw [T.run_bind] at h
     have hbb : ∀ b, b ∈ blks (ps' ++ qs) -> b ∈ blks qs ++ blks ps' := fun b hb => by
      simp only [blks, List.filterMap_append, List.flatMap_append, List.mem_append] at hb ⊢
      exact hb.symm
     have hF : ∀ b ∈ blks (ps' ++ qs), ¬ (F0 b \/ G' b) /\ b < w'.heap.size /\ ∀ j e q, ({ s.bO ids with ak := upd (s.bO ids).ak id (some (.box none (List.replicate T0.sz .undef))) } : St).ak j = some e -> pl j = some q -> b ∉ e.bs q := by
      intro b hb
      obtain ⟨n1, n2, n3, n4⟩ := hfresh b (hbb b hb)
      refine ⟨fun h => ?_, n3, fun j e q hj hq hbq => ?_⟩
      ·rcases h with h | h
       ·exact n1 (qZ _ (.inl h))
       ·exact n2 h
      ·have hj : upd (s.bO ids).ak id (some (.box none (List.replicate T0.sz .undef))) j = some e := hj
       by_cases hji : j = id
       ·subst hji
        rw [upd_same] at hj
        cases hj
        rw [hp] at hq
        cases hq
        simp only [Entry.bs, List.mem_singleton] at hbq
        exact n4 hbq
       ·rw [upd_ne _ _ hji] at hj
        exact n1 (Xz j e q hji hj hq b hbq)
     have aaz : (blks (ps' ++ qs)).Nodup := by
      have : blks (ps' ++ qs) = blks ps' ++ blks qs := by simp [blks, List.filterMap_append, List.flatMap_append]
      rw [this]
      obtain ⟨k1, k2, k3⟩ := List.nodup_append.1 aay
      exact List.nodup_append.2 ⟨k2, k1, fun x hx y hy e => k3 y hy x hx e.symm⟩
     obtain ⟨s4, pl4, n1, i4, n3, n4⟩ := zN i3 (hrows2.append hrows) hF aaz h
     obtain ⟨hb4, aaB⟩ := n4 id _ (upd_same _ _ _)
     have hp4 : pl4 id = some p := aaB.trans hp
     have hrl : aD (mem F0 G' w'.heap s4.ak pl4) bc c1.toList := hcells _ rfl rfl (n3.left hrows2.1)
     obtain ⟨i5, _⟩ := i4.write (w' := w') (E' := .box (some T0) bc) hb4 hp4 (by
      intro h
      rcases h with h | h
      ·exact hnF (.inl h)
      ·exact Xy h) rfl (Str.refl _ _) (fun _ _ => rfl) trivial (fun g5 => ⟨p, c1, e2, fz1, rfl, hpo, hh1, VX, by rw [hc1, <- hcT]; exact hsz0, by have := hrl.1; simpa using this, fun u hu => (by cases hu; rw [<- hc1]; have := hrl.1; simpa using this.symm), g5.cells (fun _ _ _ _ h => h) hrl, fun h => by
       rcases h with h | h
       ·exact hnF (.inl h)
       ·exact Xy h⟩)
     have hne : ∀ {k : Nat} {e9 : Entry} {m : Nat}, es[m]? = some (k, e9) -> k ≠ id := by
      intro k e9 m hm hk
      subst hk
      have hlt : m < qs.length := by rw [<- hrows.1]; exact (List.getElem?_eq_some_iff.1 hm).1
      obtain ⟨h8, _⟩ := n3.right hrows2.1 m k e9 qs[m] hm (List.getElem?_eq_getElem hlt)
      have h8 : s4.ak k = some e9 := h8
      rw [hb4] at h8
      rcases hrows.2 m k e9 qs[m] hm (List.getElem?_eq_getElem hlt) with ⟨_, _, he9, _⟩ | ⟨_, _, he9, _⟩ <;> (subst he9; cases h8)
     obtain ⟨s'', n5, n6, _⟩ := BH i5 (Nz _ rfl rfl (fun m k e9 π hm hπ => by
      obtain ⟨h8, h9⟩ := n3.right hrows2.1 m k e9 π hm hπ
      exact ⟨(upd_ne _ _ (hne hm)).trans h8, h9⟩)) n1
     exact ⟨s'', G', pl4, n5, n6, fr⟩
    ·simp at h
  ·simp at h
 ·simp at h
theorem YX (good : Good C) (YZ : YR C ah) {R : Type} {F0 : mo} {G : Nat -> Prop} {s : St} {a : Act} {w : World} {pl : Nat -> Option Pl} {κ : St -> Option R} {r : R} {Q : Exit -> Act -> World -> Prop} {g : Operand} {args : Array Operand} {argTypes : Array TypeId}
  {f : FuncId} {vs : List aH} (hmk : (C.sig f).yh = true) (i : Inv F0 G s a w pl) (ht : xI C w F0) (hvs : dR s args.toList = some vs) (hgv : a.eval g = .func (.func f) #[] #[])
  (h : (Ph C s ⟨dst, .call ⟨.value g, args, argTypes⟩, type, pos, after, guard⟩ f vs).run ah κ = some r) :
  (⟨dst, .call ⟨.value g, args, argTypes⟩, type, pos, after, guard⟩ : Oper).wp C.P a w (AO F0 G w κ r) Q := by
 obtain ⟨hal, har⟩ := vG i hvs
 unfold Ph at h
 split at h
 ·rename_i fn d hfn hdst
  split at h
  ·rename_i as has
   split at h
   ·simp at h
   ·rename_i BP
    simp only [Bool.or_eq_true, not_or, Bool.not_eq_true] at BP
    obtain ⟨BP, hdp⟩ := BP
    simp only [T.run] at h
    rw [Option.bind_eq_some_iff] at h
    obtain ⟨r0, hr0, h⟩ := h
    have qZ : ∀ b, F0 b \/ G b -> b < w.heap.size := fun b hb => i.ak.lt b hb
    have zf : ∀ id e p, s.ak id = some e -> pl id = some p -> ∀ b ∈ e.bs p, b < w.heap.size := fun id e p he hp b hb => i.ak.qp he hp b hb
    simp only [jQ, Bool.or_eq_false_iff] at hdp
    have hargs := DZ i (fun _ h => h) qZ zf (fun b hb => qZ b (.inr hb)) has BP hal har (fun h => by rw [hdp.1] at h; cases h)
    have hone : Hr as := fun x y b c hx hy hb _ => by
     exfalso
     rw [Aw has BP b (List.mem_of_getElem? hx)] at hb
     cases hb
    obtain ⟨hbody, hc⟩ := YZ f fn _ as r0 hfn hr0 hmk
    have hc := hc w (fun b => b < w.heap.size) G (args.toList.map a.eval) (fun b hb => hb) (fun b hb => qZ b (.inr hb)) (ht.1.more fun b hb => qZ b (.inl hb)) hone hargs
    have hname : (fn.name == "runtime.NumGoroutine") = false := by
     have := Array.all_eq_true.1 good.names
     obtain ⟨hlt, hget⟩ := Array.getElem?_eq_some_iff.1 hfn
     have := this f hlt
     rw [hget] at this
     simpa using this
    have kQ : (execOp a.eval ⟨dst, .call ⟨.value g, args, argTypes⟩, type, pos, after, guard⟩).run C.P w = .ok (.enter f (args.toList.map a.eval).toArray) w := by
     have hb : fn.body.isNone = false := by cases hb : fn.body <;> simp [hb] at hbody ⊢
     simp only [execOp, resolve, Sem.run_bind, hgv, Deferred.ofValue, Sem.run_pure, Result.andThen_ok, invoke, callFunc, run_program, hfn, hname, hb, Bool.false_eq_true, if_false]
     congr 2
     apply Array.ext'
     simp
    unfold Oper.wp
    rw [kQ]
    refine Calls.mono hc fun e1 w' hpost => ?_
    obtain ⟨pb, G', rfl, hsz, hstr, hh, hG, hnew, ⟨c, e, fz, hh1, VX, hc1, hown1⟩, hpA, Xy⟩ := hpost
    show AO F0 G w κ r (a.put dst _) w'
    obtain ⟨i2, fr⟩ := i.WY qZ zf hsz (ht.str hstr) hh hG hnew
    obtain ⟨hrows2, hcells⟩ := qw (key := aJ d) 0 hown1
    generalize hrc : aR false (aJ d) (C.sig f).made r0 0 = rc at h hrows2 hcells
    obtain ⟨bc, es2, jj⟩ := rc
    simp only at h hrows2 hcells
    rw [T.run_bind] at h
    obtain ⟨hk, h⟩ := nN h
    have hes : es2 = [] := List.length_eq_zero_iff.1 hrows2.1
    subst hes
    have hnF : ¬ (F0 pb \/ G' pb) := fun h => by
     rcases h with h | h
     ·exact hpA (qZ _ (.inl h))
     ·exact Xy h
    have hrl : aD (mem F0 G' w'.heap s.ak pl) bc c.toList := hcells _ rfl rfl (fun i k e π hi => by simp at hi)
    have hlen : c.size = bc.length := by have := hrl.1; simpa using this
    have i3 := i2.add (key := aJ d 0) (E := .box (some (C.sig f).made) bc) (π := some { b := pb, o := 0, size := c.size, inn := [] }) hk
     ⟨_, c, e, fz, rfl, rfl, hh1, VX, rfl, hlen, fun u hu => (by cases hu; rw [<- hlen]; exact hc1), hrl, hnF⟩
     (fun id e' p q hid hp hq b hb hb' => by
      cases hq
      simp only [Entry.bs, List.mem_singleton] at hb'
      subst hb'
      exact hpA (zf id e' p hid hp _ hb))
    obtain ⟨s'', k5, k6, _⟩ := BH (v := .cell (.ptr (aJ d 0) 0)) (u := .pointer (some ⟨pb, 0, none⟩)) i3 ⟨_, _, _, upd_same _ _ _, upd_same _ _ _, rfl, rfl⟩ h
    rw [show dst = some d from hdst]
    exact ⟨s'', G', _, k5, k6, fr⟩
  ·simp at h
 ·simp at h
theorem VY (good : Good C) (Ea : Gj C ah) (g : Operand) (args : Array Operand) (argTypes : Array TypeId) : mK C ah ⟨dst, .call ⟨.value g, args, argTypes⟩, type, pos, after, guard⟩ := by
 intro R F0 G s a w pl κ r Q i ht h
 simp only [mg] at h
 split at h
 ·rename_i f caps vs hsg hvs
  have hg := i.slot g
  rw [hsg] at hg
  obtain ⟨VT, hgv, hcl, hcr⟩ := hg
  obtain ⟨hal, har⟩ := vG i hvs
  have hcall := Ea.1
  unfold DF at h
  split at h
  ·rename_i il hil
   cases hmk : (C.sig f).yh with
   | true =>
    rw [hmk] at h
    simp only [cond_true] at h
    split at h
    ·obtain rfl : VT = [] := List.length_eq_zero_iff.1 hcl
     simp only [St.ev] at hsg
     cases hsg
     exact YX good Ea.2.2.2 hmk i ht hvs hgv h
    ·simp at h
   | false =>
   rw [hmk] at h
   simp only [cond_false] at h
   split at h
   ·rename_i id PE
    have hcl : fC (mem F0 G w.heap s.ak pl) (.oF f caps) (a.eval g) := by have hh := i.slot g; rw [hsg] at hh; exact hh
    split at h
    ·exact Ui good Ea.2.2.1 i ht hvs PE hcl h
    ·cases hlo : Oper.Kl ⟨dst, .call ⟨.value g, args, argTypes⟩, type, pos, after, guard⟩ C with
     | false => rw [hlo] at h; simp at h
     | true => rw [hlo] at h; exact Ui good Ea.2.2.1 i ht hvs PE hcl h
   ·simp at h
  rename_i hil
  have hmk : (C.sig f).yh = false := by unfold Yu.yh; rw [hil]
  split at h
  ·unfold Lm at h
   split at h
   ·rename_i dst' fn hfn
    simp only at h
    split at h
    ·rename_i as cas rt has hcas hrt
     split at h
     ·simp at h
     ·rename_i BP
      simp only [Bool.or_eq_true, Bool.and_eq_true, Bool.not_eq_true', not_or, not_and, Bool.not_eq_true, Bool.not_eq_false] at BP
      obtain ⟨BP, hcut⟩ := BP
      simp only [T.run] at h
      rw [Option.bind_eq_some_iff] at h
      obtain ⟨r0, hr0, h⟩ := h
      rw [Option.bind_eq_some_iff] at hcas
      obtain ⟨zI, DT, hmap⟩ := hcas
      have qZ : ∀ b, F0 b \/ G b -> b < w.heap.size := fun b hb => i.ak.lt b hb
      have zf : ∀ id e p, s.ak id = some e -> pl id = some p -> ∀ b ∈ e.bs p, b < w.heap.size := fun id e p he hp b hb => i.ak.qp he hp b hb
      obtain ⟨Gc, JE, tq, Za, hDa, hDc, hSo⟩ : ∃ Gc : Nat -> Prop, (∀ b, G b -> Gc b) /\ (∀ b, Gc b -> b < w.heap.size) /\ (Gc = G \/ ((C.sig f).own = true /\ rt.cut = true)) /\ (vs.any (fun v => v.cells.any (kM s)) = true -> DW s pl Gc) /\ (caps.any (kL s) = true -> DW s pl Gc) /\ (C.DC.contains f = true -> ∀ b, b < w.heap.size -> Gc b) := by
       cases hso : C.DC.contains f with
       | true =>
        exact ⟨fun b => b < w.heap.size, fun b hb => qZ b (.inr hb), fun _ h => h, .inr (hcut (.inr hso)), fun _ id t l n p h1 h2 b hb => i.ak.qp h1 h2 b (List.mem_cons_of_mem _ hb), fun _ id t l n p h1 h2 b hb => i.ak.qp h1 h2 b (List.mem_cons_of_mem _ hb), fun _ _ h => h⟩
       | false =>
       cases hd : jQ s vs caps with
       | false =>
        simp only [jQ, Bool.or_eq_false_iff] at hd
        exact ⟨G, fun _ h => h, fun b hb => qZ b (.inr hb), .inl rfl, fun h => (by rw [hd.1] at h; cases h), fun h => (by rw [hd.2] at h; cases h), fun h => (by cases h)⟩
       | true =>
        refine ⟨fun b => G b \/ ∃ id t l n p, s.ak id = some (.deep t l n) /\ pl id = some p /\ b ∈ p.EM, fun b hb => .inl hb, fun b hb => ?_, .inr (hcut (.inl hd)), fun _ id t l n p h1 h2 b hb => .inr ⟨id, t, l, n, p, h1, h2, hb⟩, fun _ id t l n p h1 h2 b hb => .inr ⟨id, t, l, n, p, h1, h2, hb⟩, fun h => (by cases h)⟩
        rcases hb with hb | ⟨id, t, l, n, p, h1, h2, hb⟩
        ·exact qZ b (.inr hb)
        ·exact i.ak.qp h1 h2 b (List.mem_cons_of_mem _ hb)
      have hcp := DX i JE qZ zf DT hcl hcr hDc
      have Uk := DZ i JE qZ zf tq has BP hal har hDa
      have Zb : gX (fun b => b < w.heap.size) Gc w.heap (C.xA f as) (args.toList.map a.eval) /\ ∀ b ∈ C.xA f as, b.sZ = false := by
       unfold dn.xA
       cases hso : C.DC.contains f with
       | true =>
        simp only [cond_true]
        refine ⟨Uk.solid (hSo hso), fun b hb => ?_⟩
        obtain ⟨b', hb', rfl⟩ := List.mem_map.1 hb
        have := Aw has BP b' hb'
        cases b' <;> first | rfl | exact this
       | false => exact ⟨Uk, fun b hb => Aw has BP b hb⟩
      have hargs := Zb.1.append (BR hmap hcp.1 hcp.2)
      rw [T.run_bind] at h
      refine Ny good hcall hfn hmk hr0 i ht (fun b hb => hb) qZ zf JE tq Za (fun x y b c hx hy hb _ => ?_) hargs hgv rfl h
      exfalso
      rcases List.mem_append.1 (List.mem_of_getElem? hx) with hm | hm
      ·rw [Zb.2 b hm] at hb; cases hb
      ·rw [BQ hmap b hm] at hb; cases hb
    ·simp at h
   ·simp at h
  ·rename_i x rr hsig
   cases g <;> simp only [T.TJ] at h <;> try (cases h; done)
   simp only [St.ev] at hsg
   cases hsg
   exact VU good hcall hmk i ht hvs h
 ·simp at h
end
end Go.Flat
