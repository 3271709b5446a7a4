/- The operation that calls. No condition. -/
import Derived.Test.YtmocpfgfjeaelaaGreatBox
set_option linter.unusedVariables false
set_option linter.unusedSimpArgs false
namespace Go.Flat
theorem DZ {C : dA} {F0 : lH} {A G Gc : Nat -> Prop} {s : St} {a : Act} {w : World} {pl : Nat -> Option Pl} (i : Inv F0 G s a w pl) (JD : ∀ b, G b -> Gc b) (qZ : ∀ b, F0 b \/ G b -> A b) (yU : ∀ id e p, s.ak id = some e -> pl id = some p -> ∀ b ∈ e.bs p, A b) (sW : ∀ b, Gc b -> A b) {io : List Nat} : ∀ {ts : List TypeId} {vs : List aH} {n : Nat} {as : List Arg} {us : List Value},
  pG C s io n ts vs = some as -> yL as = false -> us.length = vs.length -> (∀ (j : Nat) c u, vs[j]? = some c -> us[j]? = some u -> eX (mem F0 G w.heap s.ak pl) c u) -> (vs.any (fun v => v.cells.any (kK s)) = true -> DW s pl Gc) -> gV A Gc w.heap as us
 | ts, [], n, as, us, h, _, hl, _, _ => by
  have : as = [] := by cases ts <;> simpa [pG] using h.symm
  subst this
  exact ⟨hl, fun i a v hi => by simp at hi⟩
 | [], v :: vs, n, as, us, h, _, _, _, _ => by simp [pG] at h
 | t :: ts, v :: vs, n, as, us, h, BJ, hl, hr, hD => by
  simp only [pG] at h
  split at h
  ·rename_i x rest hx hrest
   simp at h
   subst h
   cases us with
   | nil => simp at hl
   | cons u us =>
    have WK : yL rest = false := by cases x <;> simp [yL] at BJ <;> exact BJ
    obtain ⟨k1, k2⟩ := DZ i JD qZ yU sW hrest WK (by simpa using hl) (fun j c u' hj hu => hr (j + 1) c u' (by simpa using hj) (by simpa using hu)) (fun h => hD (by rw [List.any_cons, h, Bool.or_true]))
    refine ⟨by simp [k1], fun j a' v' hj hv => ?_⟩
    cases j with
    | succ j => exact k2 j a' v' (by simpa using hj) (by simpa using hv)
    | zero =>
     simp at hj hv
     subst hj hv
     have hval : nA C s t v = some x := by
      unfold toArg at hx
      cases hc : io.contains n with
      | false => rw [hc] at hx; exact hx
      | true =>
       rw [hc] at hx
       have hx : Gb s v = some x := hx
       exfalso
       unfold Gb at hx
       split at hx
       ·split at hx
        ·simp at hx; subst hx; simp [yL] at BJ
        ·cases hx
       ·split at hx
        ·obtain ⟨y, _, rfl⟩ := Option.map_eq_some_iff.1 hx; simp [yL] at BJ
        ·cases hx
       ·cases hx
     exact Nq i JD qZ yU (hr 0 v u rfl rfl) hval sW (fun h => hD (by rw [List.any_cons, h, Bool.true_or]))
  ·cases h
theorem Av {C : dA} {s : St} {io : List Nat} : ∀ {ts : List TypeId} {vs : List aH} {n : Nat} {as : List Arg}, pG C s io n ts vs = some as -> yL as = false -> ∀ b ∈ as, b.sV = false
 | ts, [], n, as, h, _ => by
  have : as = [] := by cases ts <;> simpa [pG] using h.symm
  subst this
  simp
 | [], v :: vs, n, as, h, _ => by simp [pG] at h
 | t :: ts, v :: vs, n, as, h, BJ => by
  simp only [pG] at h
  split at h
  ·rename_i y rest hy hrest
   simp at h
   subst h
   have WK : yL rest = false /\ y.sV = false := by cases y <;> simp [yL] at BJ <;> exact ⟨BJ, rfl⟩
   intro b hb
   rcases List.mem_cons.1 hb with rfl | hb
   ·exact WK.2
   ·exact Av hrest WK.1 b hb
  ·cases h
theorem BK : ∀ {caps : List Cap} {as : List Arg}, caps.mapM tT = some as -> ∀ b ∈ as, b.sV = false
 | [], as, h => by simp at h; subst h; simp
 | c :: caps, as, h => by
  rw [List.mapM_cons] at h
  simp only [Option.bind_eq_bind, Option.bind_eq_some_iff, Option.pure_def, Option.some.injEq] at h
  obtain ⟨x, hx, rest, hrest, rfl⟩ := h
  intro b hb
  rcases List.mem_cons.1 hb with rfl | hb
  ·exact SN hx
  ·exact BK hrest b hb
theorem BL {A G : Nat -> Prop} {h : Array Obj} : ∀ {caps : List Cap} {as : List Arg} {us : List Value}, caps.mapM tT = some as -> us.length = caps.length -> (∀ (j : Nat) c u, caps[j]? = some c -> us[j]? = some u -> oG (zB A G h) c u) ->
  gV A G h as us
 | [], as, us, h, hl, _ => by
  simp at h
  subst h
  exact ⟨hl, fun i a v hi => by simp at hi⟩
 | c :: caps, as, us, h, hl, hr => by
  rw [List.mapM_cons] at h
  simp only [Option.bind_eq_bind, Option.bind_eq_some_iff, Option.pure_def, Option.some.injEq] at h
  obtain ⟨x, hx, rest, hrest, rfl⟩ := h
  cases us with
  | nil => simp at hl
  | cons u us =>
   obtain ⟨k1, k2⟩ := BL hrest (by simpa using hl) (fun j c u' hj hu => hr (j + 1) c u' (by simpa using hj) (by simpa using hu))
   refine ⟨by simp [k1], fun j a' v' hj hv => ?_⟩
   cases j with
   | succ j => exact k2 j a' v' (by simpa using hj) (by simpa using hv)
   | zero =>
    simp at hj hv
    subst hj hv
    have hcr := hr 0 c u rfl rfl
    cases c with
    | ptr _ => simp [tT] at hx
    | ro t y =>
     simp [tT] at hx
     subst hx
     obtain ⟨b, o, es, h1, h2, h3, h4⟩ := hcr
     exact ⟨b, o, es, by rw [Nat.add_zero]; exact h1, h2, h3, h4⟩
theorem gV.append {A G : Nat -> Prop} {h : Array Obj} {as bs : List Arg} {us vs : List Value} (h1 : gV A G h as us) (h2 : gV A G h bs vs) : gV A G h (as ++ bs) (us ++ vs) := by
 refine ⟨by simp [h1.1, h2.1], fun i a v hi hv => ?_⟩
 rw [List.getElem?_append] at hi hv
 split at hi
 ·rename_i hlt
  rw [if_pos (by rw [h1.1]; exact hlt)] at hv
  exact h1.2 i a v hi hv
 ·rename_i hlt
  rw [if_neg (by rw [h1.1]; exact hlt), h1.1] at hv
  exact h2.2 _ a v hi hv
theorem vE {F0 : lH} {G : Nat -> Prop} {s : St} {a : Act} {w : World} {pl : Nat -> Option Pl} (i : Inv F0 G s a w pl) : ∀ {xs : List Operand} {vs : List aH}, dS s xs = some vs ->
  (xs.map a.eval).length = vs.length /\ ∀ (j : Nat) c u, vs[j]? = some c -> (xs.map a.eval)[j]? = some u -> eX (mem F0 G w.heap s.ak pl) c u
 | [], vs, h => by simp [dS] at h; subst h; exact ⟨rfl, fun j c u hj => by simp at hj⟩
 | x :: xs, vs, h => by
  simp only [dS] at h
  split at h
  ·rename_i c r hs hr
   simp at h
   subst h
   obtain ⟨k1, k2⟩ := vE i hr
   refine ⟨by simpa using k1, fun j c' u hj hu => ?_⟩
   cases j with
   | succ j => exact k2 j c' u (by simpa using hj) (by simpa using hu)
   | zero =>
    simp at hj hu
    subst hj hu
    have := i.slot x
    rw [hs] at this
    exact this
  ·cases h
section
variable {C : dA} {ah : FuncId -> (t : Ty) -> List Arg -> Option t.den}
 {dst : Option Tmp} {type : TypeId} {pos : String} {after : Array Edge} {guard : Option (Nat × Bool)}
theorem Rd.plain {G G2 A A2 : Nat -> Prop} {h : Array Obj} : ∀ {t : Ty} {x : t.den} {cs : List Value}, t.plain = true -> Rd G h t A x cs -> Rd G2 h t A2 x cs
 | .bool, _, _, _, e => e
 | .int _, _, _, _, e => e
 | .str, _, _, _, e => e
 | .unit, _, _, _, e => e
 | .list _, _, _, hp, _ => by simp [Ty.plain] at hp
 | .dh _, _, _, hp, _ => by simp [Ty.plain] at hp
 | .pair a b, x, cs, hp, ⟨c, d, e, h1, h2⟩ => by
  simp only [Ty.plain, Bool.and_eq_true] at hp
  exact ⟨c, d, e, h1.plain hp.1, h2.plain hp.2⟩
theorem dH.cut {G G2 : Nat -> Prop} {h : Array Obj} : ∀ {t : Ty} {x : t.den} {cs : List Value} {ps : List (Option Pl)}, dH true G h t x cs ps -> t.cut = true -> dH true G2 h t x cs ps
 | .bool, _, _, _, e, _ => e
 | .int _, _, _, _, e, _ => e
 | .str, _, _, _, e, _ => e
 | .unit, _, _, _, e, _ => e
 | .list t, l, cs, ps, H, hc => by
  simp only [dH, if_true] at H ⊢
  obtain ⟨v, π, rfl, rfl, h1, h2, h3⟩ := H
  refine ⟨v, π, rfl, rfl, h1, ?_, h3⟩
  cases π with
  | none => exact h2
  | some p =>
   obtain ⟨c, e, fz, k1, k2, k3, k4, k5⟩ := h2
   refine ⟨c, e, fz, k1, k2, k3, k4, fun i x hi => ?_⟩
   obtain ⟨es, h4, h5⟩ := k5 i x hi
   exact ⟨es, h4.plain hc, h5⟩
 | .dh t, l, cs, ps, H, hc => by
  obtain ⟨v, π, rfl, rfl, h1, h2⟩ := jU.1 H
  refine jU.2 ⟨v, π, rfl, rfl, h1, ?_⟩
  cases π with
  | none => exact h2
  | some p =>
   obtain ⟨c, e, fz, k1, k2, k3, k4, k5, k6, k7, k8⟩ := h2
   refine ⟨c, e, fz, k1, k2, k3, k4, k5, k6, k7, fun i x qs hi hq => ?_⟩
   obtain ⟨es, h4, h5⟩ := k8 i x qs hi hq
   exact ⟨es, dH.cut h4 hc, h5⟩
 | .pair a b, x, cs, ps, ⟨c, d, p, q, h1, h2, h3, h4⟩, hc => by
  simp only [Ty.cut, Bool.and_eq_true] at hc
  exact ⟨c, d, p, q, h1, h2, dH.cut h3 hc.1, dH.cut h4 hc.2⟩
theorem Ns (good : Good C) (hcall : BH C ah) {R : Type} {F0 : lH} {G : Nat -> Prop} {s1 : St} {a : Act} {w : World} {pl : Nat -> Option Pl} {κ : St -> Option R} {r : R} {Q : Exit -> Act -> World -> Prop} {g : Operand} {args : Array Operand} {argTypes : Array TypeId}
  {f : FuncId} {fn : Func} {rt : Ty} {as : List Arg} {us WL : List Value} {r0 : rt.den} {A Gc : Nat -> Prop} (hfn : C.P.funcs[f]? = some fn) (hmk : (C.sig f).xU = false) (hr0 : ah f rt as = some r0) (i1 : Inv F0 G s1 a w pl) (ht : vY C w F0) (hA : ∀ b, A b -> b < w.heap.size)
  (qZ : ∀ b, F0 b \/ G b -> A b) (yU : ∀ id e p, s1.ak id = some e -> pl id = some p -> ∀ b ∈ e.bs p, A b) (JD : ∀ b, G b -> Gc b) (sW : ∀ b, Gc b -> A b) (hcut : Gc = G \/ ((C.sig f).own = true /\ rt.cut = true)) (hone : Hr as) (hargs : gV A Gc w.heap as (us ++ WL)) (hgv : a.eval g = .func (.func f) #[] WL.toArray) (hus : args.toList.map a.eval = us)
  (h : (nC s1 (jc (C.sig f).own (Nat.beq fn.resultTypes.size 1) (aJ (dst.getD 0)) rt r0).2).run ah (fun s => (s.put dst (jc (C.sig f).own (Nat.beq fn.resultTypes.size 1) (aJ (dst.getD 0)) rt r0).1).run ah κ) = some r) :
  (⟨dst, .call ⟨.value g, args, argTypes⟩, type, pos, after, guard⟩ : Oper).wp C.P a w (zu F0 G w κ r) Q := by
 obtain ⟨hbody, Ea⟩ := hcall f fn rt as r0 hfn hr0 hmk
 have hc := Ea w A Gc (us ++ WL) hA sW (ht.1.more fun b hb => qZ b (.inl hb)) hone hargs
 have hname : (fn.name == "runtime.NumGoroutine") = false := by
  have := Array.all_eq_true.1 good.names
  obtain ⟨hlt, hget⟩ := Array.getElem?_eq_some_iff.1 hfn
  have := this f hlt
  rw [hget] at this
  simpa using this
 have kN : (execOp a.eval ⟨dst, .call ⟨.value g, args, argTypes⟩, type, pos, after, guard⟩).run C.P w = .ok (.enter f (us ++ WL).toArray) w := by
  have hb : fn.body.isNone = false := by cases hb : fn.body <;> simp [hb] at hbody ⊢
  subst hus
  simp only [execOp, resolve, Sem.run_bind, hgv, Deferred.ofValue, Sem.run_pure, Result.andThen_ok, invoke, callFunc, run_program, hfn, hname, hb, Bool.false_eq_true, if_false]
  congr 2
  apply Array.ext'
  simp
 unfold Oper.wp
 rw [kN]
 refine Calls.mono hc fun e w' hpost => ?_
 obtain ⟨v, G1, ps, rfl, hsz, hstr, hh, hG, hnew, hres, hfresh, hnd⟩ := hpost
 show zu F0 G w κ r (a.put dst v) w'
 obtain ⟨G', hG, hnew, hres, hfresh⟩ : ∃ G' : Nat -> Prop, (∀ b, G b -> G' b) /\ (∀ b, G' b -> G b \/ (¬ A b /\ b < w'.heap.size)) /\ xJ (C.sig f).own (Nat.beq fn.resultTypes.size 1) rt G' w'.heap r0 v ps /\ ∀ b ∈ blks ps, ¬ A b /\ ¬ G' b /\ b < w'.heap.size := by
  rcases hcut with e | ⟨h1, h2⟩
  ·subst e
   exact ⟨G1, hG, hnew, hres, hfresh⟩
  ·refine ⟨G, fun _ h => h, fun _ h => .inl h, ?_, fun b hb => ⟨(hfresh b hb).1, fun h => (hfresh b hb).1 (qZ b (.inr h)), (hfresh b hb).2.2⟩⟩
   obtain ⟨cs, k1, k2⟩ := hres
   rw [h1] at k1 ⊢
   exact ⟨cs, k1.cut h2, k2⟩
 obtain ⟨i2, fr⟩ := i1.Yv qZ yU hsz (ht.str hstr) hh hG hnew
 obtain ⟨hrows, Nt⟩ := Hu (key := aJ (dst.getD 0)) hres
 have hF : ∀ b ∈ blks ps, ¬ (F0 b \/ G' b) /\ b < w'.heap.size /\ ∀ id e q, s1.ak id = some e -> pl id = some q -> b ∉ e.bs q := by
  intro b hb
  obtain ⟨k1, k2, k3⟩ := hfresh b hb
  refine ⟨fun h => ?_, k3, fun id e q hid hq hb' => k1 (yU id e q hid hq b hb')⟩
  rcases h with h | h
  ·exact k1 (qZ _ (.inl h))
  ·exact k2 h
 obtain ⟨s', nu, k1, k2, k3, k4⟩ := zC i2 hrows hF hnd h
 obtain ⟨s'', k5, k6, _⟩ := Bw k2 (Nt _ rfl rfl k3) k1
 exact ⟨s'', G', nu, k5, k6, fr⟩
theorem WM (good : Good C) (hcall : BH C ah) {R : Type} {F0 : lH} {G : Nat -> Prop} {s : St} {a : Act} {w : World} {pl : Nat -> Option Pl} {κ : St -> Option R} {r : R} {Q : Exit -> Act -> World -> Prop} {args : Array Operand} {argTypes : Array TypeId}
  {f : FuncId} {vs : List aH} {i0 : Nat} (hmk : (C.sig f).xU = false) (i : Inv F0 G s a w pl) (ht : vY C w F0) (hvs : dS s args.toList = some vs)
  (h : (qo C s ⟨dst, .call ⟨.value (.func f), args, argTypes⟩, type, pos, after, guard⟩ f vs [] i0).run ah κ = some r) :
  (⟨dst, .call ⟨.value (.func f), args, argTypes⟩, type, pos, after, guard⟩ : Oper).wp C.P a w (zu F0 G w κ r) Q := by
 obtain ⟨hal, har⟩ := vE i hvs
 unfold qo at h
 split at h
 ·rename_i fn v hfn hv
  split at h
  ·rename_i T0 hT
   split at h
   ·rename_i hka
    simp only [Bool.and_eq_true] at hka
    split at h
    ·rename_i x ids hof
     cases hnd : nodup ids with
     | false => rw [hnd] at h; cases h
     | true =>
      rw [hnd] at h
      simp only [cond_true] at h
      split at h
      ·rename_i as cas rt has hcas hrt
       split at h
       ·simp at h
       rename_i hdp
       simp only [jO, List.any_nil, Bool.or_false, Bool.not_eq_true] at hdp
       simp only [T.run] at h
       rw [Option.bind_eq_some_iff] at h
       obtain ⟨r0, hr0, h⟩ := h
       have aaz : cas = [] := by simpa [kF] using hcas.symm
       subst aaz
       have hi0 : i0 < (args.toList.map a.eval).length := by rw [hal]; exact (List.getElem?_eq_some_iff.1 hv).1
       obtain ⟨u0, hu0⟩ : ∃ u0, (args.toList.map a.eval)[i0]? = some u0 := ⟨_, List.getElem?_eq_getElem hi0⟩
       have hc0 := har i0 v u0 hv hu0
       obtain ⟨ps, hown, hblk⟩ := vB i.ak hof (iw hka.1 hc0)
       have hval := vD hka.1 hka.2 hc0
       have live : ∀ j ∈ ids, Lv s.ak .give j := mo hof
       have hbl : ∀ b, b ∈ blks ps ↔ ∃ j ∈ ids, ∃ p, pl j = some p /\ b ∈ p.bs := by
        intro b
        rw [hblk]
        simp only [List.mem_flatMap, List.mem_filterMap]
        exact ⟨fun ⟨p, ⟨j, hj, hp⟩, hb⟩ => ⟨j, hj, p, hp, hb⟩, fun ⟨j, hj, p, hp, hb⟩ => ⟨p, ⟨j, hj, hp⟩, hb⟩⟩
       have hfree : ∀ b ∈ blks ps, ¬ (F0 b \/ G b) /\ b < w.heap.size := by
        intro b hb
        obtain ⟨j, hj, p, hp, hbp⟩ := (hbl b).1 hb
        obtain ⟨e, he, k1, _, k2⟩ := (live j hj).bs i.ak hp
        exact ⟨k2 rfl b hbp, i.ak.qh he hp b (k1 ▸ hbp)⟩
       obtain ⟨i1, old, kr⟩ := i.bW (pK hnd) (fun j hj => (live j hj).QG)
       have qZ : ∀ b, F0 b \/ G b -> (b < w.heap.size /\ b ∉ blks ps) := fun b hb => ⟨i.ak.lt b hb, fun h => (hfree b h).1 hb⟩
       have yU : ∀ j e p, (s.bW ids).ak j = some e -> pl j = some p -> ∀ b ∈ e.bs p, (b < w.heap.size /\ b ∉ blks ps) := by
        intro j e p he hp b hb
        obtain ⟨hj, e', he', hbs⟩ := old j e he
        rw [hbs p] at hb
        refine ⟨i.ak.qh he' hp b hb, fun h => ?_⟩
        obtain ⟨k, hk, q, hq, hbq⟩ := (hbl b).1 h
        obtain ⟨e2, he2, k1, _, _⟩ := (live k hk).bs i.ak hq
        exact i.ak.apart' j k e' e2 p q he' he2 (fun e => hj (e ▸ hk)) hp hq b hb (k1 ▸ hbq)
       obtain ⟨m1, m2, m3⟩ := BI (A := fun b => b < w.heap.size /\ b ∉ blks ps) (us := args.toList.map a.eval) i1 qZ yU has (by simpa using hal) (fun j c u hj hu => by
        rw [List.getElem?_map] at hj
        obtain ⟨c', hc', rfl⟩ := Option.map_eq_some_iff.1 hj
        exact kr c' u (har j c' u hc' hu)) hdp
       have hai := m3 i0 (by omega) (by rw [<- m1]; exact hi0)
       have hnd' : (blks ps).Nodup := by rw [hblk]; exact qw i.ak (pK hnd) live
       have hargs : gV (fun b => b < w.heap.size /\ b ∉ blks ps) G w.heap (as ++ []) (args.toList.map a.eval ++ []) := by
        rw [List.append_nil, List.append_nil]
        refine ⟨m1, fun j a' v' hj hv' => ?_⟩
        by_cases hji : j = i0
        ·subst hji
         rw [hai] at hj
         cases hj
         rw [hu0] at hv'
         cases hv'
         exact ⟨_, ps, hown, hval, fun b hb => ⟨fun h => h.2 hb, (hfree b hb).2⟩, hnd'⟩
        ·exact (m2 j a' v' (by omega) hj hv').2
       rw [T.run_bind] at h
       refine Ns good hcall hfn hmk hr0 i1 ht (fun b hb => hb.1) qZ yU (fun _ h => h) (fun b hb => qZ b (.inr hb)) (.inl rfl) (fun y z b c hy hz hb hc => ?_) hargs rfl rfl h
       have key : ∀ {y b}, (as ++ [])[y]? = some b -> b.sV = true -> y = i0 := by
        intro y b hy hb
        rw [List.append_nil] at hy
        refine Classical.byContradiction fun hne => ?_
        have hlt : y < (args.toList.map a.eval).length := by rw [m1]; exact (List.getElem?_eq_some_iff.1 hy).1
        have := (m2 y b _ (by omega) hy (List.getElem?_eq_getElem hlt)).1
        rw [this] at hb
        cases hb
       exact (key hy hb).trans (key hz hc).symm
      ·simp at h
    ·simp at h
   ·simp at h
  ·simp at h
 ·simp at h
theorem UW (good : Good C) (xY : UU C ah) {R : Type} {F0 : lH} {G : Nat -> Prop} {s : St} {a : Act} {w : World} {pl : Nat -> Option Pl} {κ : St -> Option R} {r : R} {Q : Exit -> Act -> World -> Prop} {g : Operand} {args : Array Operand} {argTypes : Array TypeId}
  {f : FuncId} {vs : List aH} {caps : List Cap} {i0 id : Nat} (i : Inv F0 G s a w pl) (ht : vY C w F0) (hvs : dS s args.toList = some vs) (Pm : vs[i0]? = some (.cell (.ptr id 0)))
  (hg : fE (mem F0 G w.heap s.ak pl) (.oq f caps) (a.eval g))
  (h : (mW C s ⟨dst, .call ⟨.value g, args, argTypes⟩, type, pos, after, guard⟩ f vs caps i0 id).run ah κ = some r) :
  (⟨dst, .call ⟨.value g, args, argTypes⟩, type, pos, after, guard⟩ : Oper).wp C.P a w (zu F0 G w κ r) Q := by
 obtain ⟨hal, har⟩ := vE i hvs
 unfold mW at h
 split at h
 ·rename_i fn T0 cs hfn tY
  split at h
  ·rename_i x ids hof
   cases WO : (nodup ids && (T0.ob || ids.isEmpty)) with
   | false => rw [WO] at h; cases h
   | true =>
    rw [WO] at h
    simp only [cond_true] at h
    rw [Bool.and_eq_true] at WO
    obtain ⟨hnd, MJ⟩ := WO
    split at h
    ·rename_i as cas rt has hcas hrt
     split at h
     ·simp at h
     rename_i hdp
     simp only [jO, Bool.or_eq_true, not_or, Bool.not_eq_true] at hdp
     simp only [T.run] at h
     rw [Option.bind_eq_some_iff] at h
     obtain ⟨r0, hr0, h⟩ := h
     have hi0 : i0 < (args.toList.map a.eval).length := by rw [hal]; exact (List.getElem?_eq_some_iff.1 Pm).1
     obtain ⟨u0, hu0⟩ : ∃ u0, (args.toList.map a.eval)[i0]? = some u0 := ⟨_, List.getElem?_eq_getElem hi0⟩
     obtain ⟨t9, cs9, p, ZN, hp, hpo, hu⟩ := har i0 _ u0 Pm hu0
     have ZN : s.ak id = some (.box t9 cs9) := ZN
     rw [tY] at ZN
     cases ZN
     have hp : pl id = some p := hp
     have hent := i.ak.ent id _ tY
     obtain ⟨p', c, e, fz, hp', ho, UY, hfz, hsz0, hcs, hty, hrel, hnF⟩ := hent
     have hp' : pl id = some p' := hp'
     rw [hp] at hp'
     cases hp'
     have UY : w.heap[p.b]? = some (.cells c e fz) := UY
     have hnF : ¬ (F0 p.b \/ G p.b) := hnF
     have hcT : c.size = T0.sz := by rw [hcs]; exact hty T0 rfl
     obtain ⟨⟨ps, hown, hblk⟩, live⟩ := Hy i.ak hof MJ hrel
     have live : ∀ j ∈ ids, Lv s.ak .give j := live
     have hbl : ∀ b, b ∈ blks ps ↔ ∃ j ∈ ids, ∃ p, pl j = some p /\ b ∈ p.bs := by
      intro b
      rw [hblk]
      simp only [List.mem_flatMap, List.mem_filterMap]
      exact ⟨fun ⟨p, ⟨j, hj, hp⟩, hb⟩ => ⟨j, hj, p, hp, hb⟩, fun ⟨j, hj, p, hp, hb⟩ => ⟨p, ⟨j, hj, hp⟩, hb⟩⟩
     have hfree : ∀ b ∈ blks ps, ¬ (F0 b \/ G b) /\ b < w.heap.size := by
      intro b hb
      obtain ⟨j, hj, q, hq, hbq⟩ := (hbl b).1 hb
      obtain ⟨e, he, k1, _, k2⟩ := (live j hj).bs i.ak hq
      exact ⟨k2 rfl b hbq, i.ak.qh he hq b (k1 ▸ hbq)⟩
     have hid : id ∉ ids := fun hm => (live id hm).QG _ _ tY
     have acZ : p.b ∉ blks ps := fun hb => by
      obtain ⟨j, hj, q, hq, hbq⟩ := (hbl _).1 hb
      obtain ⟨e2, he2, k1, _, _⟩ := (live j hj).bs i.ak hq
      exact i.ak.apart' id j _ e2 p q tY he2 (fun e => hid (e ▸ hj)) hp hq p.b (Entry.oI _ p) (k1 ▸ hbq)
     obtain ⟨i1, old, kr⟩ := i.bW (pK hnd) (fun j hj => (live j hj).QG)
     obtain ⟨cs1, hs1⟩ := EX (ids := ids) hid tY
     obtain ⟨i2, fk, YS⟩ := i1.forget hs1
     have qZ : ∀ b, F0 b \/ G b -> (b < w.heap.size /\ b ∉ blks ps /\ b ≠ p.b) := fun b hb => ⟨i.ak.lt b hb, fun h => (hfree b h).1 hb, fun e => hnF (e ▸ hb)⟩
     have Zb : ∀ j e q, j ≠ id -> (s.bW ids).ak j = some e -> pl j = some q -> ∀ b ∈ e.bs q, (b < w.heap.size /\ b ∉ blks ps /\ b ≠ p.b) := by
      intro j e q hne he hq b hb
      obtain ⟨hj, e', he', hbs⟩ := old j e he
      rw [hbs q] at hb
      refine ⟨i.ak.qh he' hq b hb, fun h => ?_, fun h => ?_⟩
      ·obtain ⟨k, hk, q2, hq2, hbq⟩ := (hbl b).1 h
       obtain ⟨e2, he2, k1, _, _⟩ := (live k hk).bs i.ak hq2
       exact i.ak.apart' j k e' e2 q q2 he' he2 (fun e => hj (e ▸ hk)) hq hq2 b hb (k1 ▸ hbq)
      ·exact i.ak.apart' j id e' _ q p he' tY hne hq hp b hb (by rw [h]; exact Entry.oI _ p)
     have yU : ∀ j e q, ((s.bW ids).forget id).ak j = some e -> pl j = some q -> ∀ b ∈ e.bs q, (b < w.heap.size /\ b ∉ blks ps /\ b ≠ p.b) := by
      intro j e q he hq b hb
      obtain ⟨hj, e', he', hbs⟩ := YS j e he
      exact Zb j e' q hj he' hq b (hbs q ▸ hb)
     obtain ⟨m1, m2, m3⟩ := BI (A := fun b => b < w.heap.size /\ b ∉ blks ps /\ b ≠ p.b) (us := args.toList.map a.eval) i2 qZ yU has (by simpa using hal) (fun j c u hj hu => by
      rw [List.getElem?_map] at hj
      obtain ⟨c', hc', rfl⟩ := Option.map_eq_some_iff.1 hj
      exact fk _ u (kr c' u (har j c' u hc' hu))) hdp.1
     have hai := m3 i0 (by omega) (by rw [<- m1]; exact hi0)
     rw [Option.bind_eq_some_iff] at hcas
     obtain ⟨zw, DT, hmap⟩ := hcas
     have hnp : caps.any (Cap.Kj id) = false := by
      cases hb : caps.any (Cap.Kj id) with
      | false => rfl
      | true =>
       obtain ⟨cp, hm, hcp⟩ := List.any_eq_true.1 hb
       obtain ⟨c', hc'⟩ := Hw DT cp hm
       cases cp with
       | ro _ _ => simp [Cap.Kj] at hcp
       | ptr k =>
        have : k = id := Nat.eq_of_beq_eq_true hcp
        subst this
        have hn : ((s.bW ids).forget k).ak k = none := by
         show upd (fun j => ((s.bW ids).ak j).map (·.forget k)) k none k = none
         exact upd_same _ _ _
        simp [xu, hn] at hc'
     have hg2 : eX (mem F0 G w.heap ((s.bW ids).forget id).ak pl) (.cell (.oq f caps)) (a.eval g) := by
      have h1 := fk _ _ (kr (.cell (.oq f caps)) (a.eval g) hg)
      rw [EY] at h1
      have h1 : fE _ (Cell.forget id (.oq f caps)) _ := h1
      simp only [Cell.forget, hnp, cond_false] at h1
      exact h1
     obtain ⟨WL, hgv, hcl, hcr⟩ := hg2
     have hcp := DX (A := fun b => b < w.heap.size /\ b ∉ blks ps /\ b ≠ p.b) (Gc := G) i2 (fun _ h => h) qZ yU DT hcl hcr (fun hd => by rw [hdp.2] at hd; cases hd)
     have hca := BL hmap hcp.1 hcp.2
     have ac0 := BK hmap
     have ac1 : (as ++ cas)[i0]? = some (.gJ T0 x) := by rw [List.getElem?_append_left (by rw [<- m1]; exact hi0)]; exact hai
     obtain ⟨hbody, hc⟩ := xY f fn rt T0 x i0 (as ++ cas) r0 hfn hr0 ac1
     have hnd' : (blks ps).Nodup := by rw [hblk]; exact qw i.ak (pK hnd) live
     have hc := hc w (fun b => b < w.heap.size /\ b ∉ blks ps /\ b ≠ p.b) G (args.toList.map a.eval ++ WL) p.b ps (fun b hb => hb.1) (fun b hb => qZ b (.inr hb)) (ht.1.more fun b hb => qZ b (.inl hb))
      (by rw [List.length_append, List.length_append, m1, hca.1]) (by rw [List.getElem?_append_left hi0, hu0, hu])
      ⟨⟨c, e, fz, UY, hfz, hcT, hown⟩, fun b hb => by
       rcases List.mem_cons.1 hb with rfl | hb
       ·exact ⟨fun h => h.2.2 rfl, i.ak.Yr tY hp⟩
       ·exact ⟨fun h => h.2.1 hb, (hfree b hb).2⟩, List.nodup_cons.2 ⟨acZ, hnd'⟩⟩ (fun j a' v' hne hj hv' => by
       by_cases hlt : j < as.length
       ·rw [List.getElem?_append_left hlt] at hj
        rw [List.getElem?_append_left (by omega)] at hv'
        exact m2 j a' v' (by omega) hj hv'
       ·rw [List.getElem?_append_right (by omega)] at hj
        rw [List.getElem?_append_right (by omega), m1] at hv'
        exact ⟨ac0 a' (List.mem_of_getElem? hj), hca.2 _ a' v' hj hv'⟩)
     have hname : (fn.name == "runtime.NumGoroutine") = false := by
      have := Array.all_eq_true.1 good.names
      obtain ⟨hlt, hget⟩ := Array.getElem?_eq_some_iff.1 hfn
      have := this f hlt
      rw [hget] at this
      simpa using this
     have kN : (execOp a.eval ⟨dst, .call ⟨.value g, args, argTypes⟩, type, pos, after, guard⟩).run C.P w = .ok (.enter f (args.toList.map a.eval ++ WL).toArray) w := by
      have hb : fn.body.isNone = false := by cases hb : fn.body <;> simp [hb] at hbody ⊢
      simp only [execOp, resolve, Sem.run_bind, hgv, Deferred.ofValue, Sem.run_pure, Result.andThen_ok, invoke, callFunc, run_program, hfn, hname, hb, Bool.false_eq_true, if_false]
      congr 2
      apply Array.ext'
      simp
     unfold Oper.wp
     rw [kN]
     refine Calls.mono hc fun e1 w' hpost => ?_
     obtain ⟨v', G', qs, ps', rfl, hsz, hstr, hh, hG, hnew, hres, ⟨c1, e2, fz1, hh1, WQ, hc1, hown1⟩, hfresh, ac2, Za⟩ := hpost
     show zu F0 G w κ r (a.put dst v') w'
     obtain ⟨i3, fr⟩ := i1.WJ (G' := G') (A := fun b => b < w.heap.size /\ b ∉ blks ps /\ b ≠ p.b) hs1 hp hpo hh1 WQ (by rw [hc1, <- hcT]; exact hsz0) hown1.one Za qZ Zb hsz (ht.str hstr) hh hG hnew
     rw [hc1] at i3
     obtain ⟨hrows2, hcells⟩ := qj (key := Ki id) 0 hown1
     obtain ⟨hrows, Nt⟩ := Hu (key := aJ (dst.getD 0)) hres
     generalize hrc : aR T0.ob (Ki id) T0 r0.2 0 = rc at h hrows2 hcells
     obtain ⟨bc, es2, jj⟩ := rc
     generalize hrs : jc true (Nat.beq fn.resultTypes.size 1) (aJ (dst.getD 0)) rt r0.1 = rs at h hrows Nt
     obtain ⟨v, es⟩ := rs
     simp only at h hrows2 hcells hrows Nt
     rw [T.run_bind] at h
     have hbb : ∀ b, b ∈ blks (ps' ++ qs) -> b ∈ blks qs ++ blks ps' := fun b hb => by
      simp only [blks, List.filterMap_append, List.flatMap_append, List.mem_append] at hb ⊢
      exact hb.symm
     have hF : ∀ b ∈ blks (ps' ++ qs), ¬ (F0 b \/ G' b) /\ b < w'.heap.size /\ ∀ j e q, ({ s.bW ids with ak := upd (s.bW ids).ak id (some (.box none (List.replicate T0.sz .undef))) } : St).ak j = some e -> pl j = some q -> b ∉ e.bs q := by
      intro b hb
      obtain ⟨n1, n2, n3, n4⟩ := hfresh b (hbb b hb)
      refine ⟨fun h => ?_, n3, fun j e q hj hq hbq => ?_⟩
      ·rcases h with h | h
       ·exact n1 (qZ _ (.inl h))
       ·exact n2 h
      ·have hj : upd (s.bW ids).ak id (some (.box none (List.replicate T0.sz .undef))) j = some e := hj
       by_cases hji : j = id
       ·subst hji
        rw [upd_same] at hj
        cases hj
        rw [hp] at hq
        cases hq
        simp only [Entry.bs, List.mem_singleton] at hbq
        exact n4 hbq
       ·rw [upd_ne _ _ hji] at hj
        exact n1 (Zb j e q hji hj hq b hbq)
     have ac3 : (blks (ps' ++ qs)).Nodup := by
      have : blks (ps' ++ qs) = blks ps' ++ blks qs := by simp [blks, List.filterMap_append, List.flatMap_append]
      rw [this]
      obtain ⟨k1, k2, k3⟩ := List.nodup_append.1 ac2
      exact List.nodup_append.2 ⟨k2, k1, fun x hx y hy e => k3 y hy x hx e.symm⟩
     obtain ⟨s4, pl4, n1, i4, n3, n4⟩ := zC i3 (hrows2.append hrows) hF ac3 h
     obtain ⟨hb4, ac5⟩ := n4 id _ (upd_same _ _ _)
     have hp4 : pl4 id = some p := ac5.trans hp
     have hrl : aD (mem F0 G' w'.heap s4.ak pl4) bc c1.toList := hcells _ rfl rfl (n3.left hrows2.1)
     obtain ⟨i5, _⟩ := i4.write (w' := w') (E' := .box (some T0) bc) hb4 hp4 (by
      intro h
      rcases h with h | h
      ·exact hnF (.inl h)
      ·exact Za h) rfl (Str.refl _ _) (fun _ _ => rfl) trivial (fun g5 => ⟨p, c1, e2, fz1, rfl, hpo, hh1, WQ, by rw [hc1, <- hcT]; exact hsz0, by have := hrl.1; simpa using this, fun u hu => (by cases hu; rw [<- hc1]; have := hrl.1; simpa using this.symm), g5.cells (fun _ _ _ _ h => h) hrl, fun h => by
       rcases h with h | h
       ·exact hnF (.inl h)
       ·exact Za h⟩)
     have hne : ∀ {k : Nat} {e9 : Entry} {m : Nat}, es[m]? = some (k, e9) -> k ≠ id := by
      intro k e9 m hm hk
      subst hk
      have hlt : m < qs.length := by rw [<- hrows.1]; exact (List.getElem?_eq_some_iff.1 hm).1
      obtain ⟨h8, _⟩ := n3.right hrows2.1 m k e9 qs[m] hm (List.getElem?_eq_getElem hlt)
      have h8 : s4.ak k = some e9 := h8
      rw [hb4] at h8
      rcases hrows.2 m k e9 qs[m] hm (List.getElem?_eq_getElem hlt) with ⟨_, _, he9, _⟩ | ⟨_, _, he9, _⟩ <;> (subst he9; cases h8)
     obtain ⟨s'', n5, n6, _⟩ := Bw i5 (Nt _ rfl rfl (fun m k e9 π hm hπ => by
      obtain ⟨h8, h9⟩ := n3.right hrows2.1 m k e9 π hm hπ
      exact ⟨(upd_ne _ _ (hne hm)).trans h8, h9⟩)) n1
     exact ⟨s'', G', pl4, n5, n6, fr⟩
    ·simp at h
  ·simp at h
 ·simp at h
theorem aaA (good : Good C) (aaB : aau C ah) {R : Type} {F0 : lH} {G : Nat -> Prop} {s : St} {a : Act} {w : World} {pl : Nat -> Option Pl} {κ : St -> Option R} {r : R} {Q : Exit -> Act -> World -> Prop} {g : Operand} {args : Array Operand} {argTypes : Array TypeId}
  {f : FuncId} {vs : List aH} (hmk : (C.sig f).xU = true) (i : Inv F0 G s a w pl) (ht : vY C w F0) (hvs : dS s args.toList = some vs) (hgv : a.eval g = .func (.func f) #[] #[])
  (h : (OQ C s ⟨dst, .call ⟨.value g, args, argTypes⟩, type, pos, after, guard⟩ f vs).run ah κ = some r) :
  (⟨dst, .call ⟨.value g, args, argTypes⟩, type, pos, after, guard⟩ : Oper).wp C.P a w (zu F0 G w κ r) Q := by
 obtain ⟨hal, har⟩ := vE i hvs
 unfold OQ at h
 split at h
 ·rename_i fn d hfn hdst
  split at h
  ·rename_i as has
   split at h
   ·simp at h
   ·rename_i BJ
    simp only [Bool.or_eq_true, not_or, Bool.not_eq_true] at BJ
    obtain ⟨BJ, hdp⟩ := BJ
    simp only [T.run] at h
    rw [Option.bind_eq_some_iff] at h
    obtain ⟨r0, hr0, h⟩ := h
    have qZ : ∀ b, F0 b \/ G b -> b < w.heap.size := fun b hb => i.ak.lt b hb
    have yU : ∀ id e p, s.ak id = some e -> pl id = some p -> ∀ b ∈ e.bs p, b < w.heap.size := fun id e p he hp b hb => i.ak.qh he hp b hb
    simp only [jO, Bool.or_eq_false_iff] at hdp
    have hargs := DZ i (fun _ h => h) qZ yU (fun b hb => qZ b (.inr hb)) has BJ hal har (fun h => by rw [hdp.1] at h; cases h)
    have hone : Hr as := fun x y b c hx hy hb _ => by
     exfalso
     rw [Av has BJ b (List.mem_of_getElem? hx)] at hb
     cases hb
    obtain ⟨hbody, hc⟩ := aaB f fn _ as r0 hfn hr0 hmk
    have hc := hc w (fun b => b < w.heap.size) G (args.toList.map a.eval) (fun b hb => hb) (fun b hb => qZ b (.inr hb)) (ht.1.more fun b hb => qZ b (.inl hb)) hone hargs
    have hname : (fn.name == "runtime.NumGoroutine") = false := by
     have := Array.all_eq_true.1 good.names
     obtain ⟨hlt, hget⟩ := Array.getElem?_eq_some_iff.1 hfn
     have := this f hlt
     rw [hget] at this
     simpa using this
    have kN : (execOp a.eval ⟨dst, .call ⟨.value g, args, argTypes⟩, type, pos, after, guard⟩).run C.P w = .ok (.enter f (args.toList.map a.eval).toArray) w := by
     have hb : fn.body.isNone = false := by cases hb : fn.body <;> simp [hb] at hbody ⊢
     simp only [execOp, resolve, Sem.run_bind, hgv, Deferred.ofValue, Sem.run_pure, Result.andThen_ok, invoke, callFunc, run_program, hfn, hname, hb, Bool.false_eq_true, if_false]
     congr 2
     apply Array.ext'
     simp
    unfold Oper.wp
    rw [kN]
    refine Calls.mono hc fun e1 w' hpost => ?_
    obtain ⟨pb, G', rfl, hsz, hstr, hh, hG, hnew, ⟨c, e, fz, hh1, WQ, hc1, hown1⟩, hpA, Za⟩ := hpost
    show zu F0 G w κ r (a.put dst _) w'
    obtain ⟨i2, fr⟩ := i.Yv qZ yU hsz (ht.str hstr) hh hG hnew
    obtain ⟨hrows2, hcells⟩ := qj (key := aJ d) 0 hown1
    generalize hrc : aR false (aJ d) (C.sig f).made r0 0 = rc at h hrows2 hcells
    obtain ⟨bc, es2, jj⟩ := rc
    simp only at h hrows2 hcells
    rw [T.run_bind] at h
    obtain ⟨hk, h⟩ := nJ h
    have hes : es2 = [] := List.length_eq_zero_iff.1 hrows2.1
    subst hes
    have hnF : ¬ (F0 pb \/ G' pb) := fun h => by
     rcases h with h | h
     ·exact hpA (qZ _ (.inl h))
     ·exact Za h
    have hrl : aD (mem F0 G' w'.heap s.ak pl) bc c.toList := hcells _ rfl rfl (fun i k e π hi => by simp at hi)
    have hlen : c.size = bc.length := by have := hrl.1; simpa using this
    have i3 := i2.add (key := aJ d 0) (E := .box (some (C.sig f).made) bc) (π := some { b := pb, o := 0, size := c.size, inn := [] }) hk
     ⟨_, c, e, fz, rfl, rfl, hh1, WQ, rfl, hlen, fun u hu => (by cases hu; rw [<- hlen]; exact hc1), hrl, hnF⟩
     (fun id e' p q hid hp hq b hb hb' => by
      cases hq
      simp only [Entry.bs, List.mem_singleton] at hb'
      subst hb'
      exact hpA (yU id e' p hid hp _ hb))
    obtain ⟨s'', k5, k6, _⟩ := Bw (v := .cell (.ptr (aJ d 0) 0)) (u := .pointer (some ⟨pb, 0, none⟩)) i3 ⟨_, _, _, upd_same _ _ _, upd_same _ _ _, rfl, rfl⟩ h
    rw [show dst = some d from hdst]
    exact ⟨s'', G', _, k5, k6, fr⟩
  ·simp at h
 ·simp at h
theorem WR (good : Good C) (Ea : Gm C ah) (g : Operand) (args : Array Operand) (argTypes : Array TypeId) : lQ C ah ⟨dst, .call ⟨.value g, args, argTypes⟩, type, pos, after, guard⟩ := by
 intro R F0 G s a w pl κ r Q i ht h
 simp only [lN] at h
 split at h
 ·rename_i f caps vs hsg hvs
  have hg := i.slot g
  rw [hsg] at hg
  obtain ⟨WL, hgv, hcl, hcr⟩ := hg
  obtain ⟨hal, har⟩ := vE i hvs
  have hcall := Ea.1
  unfold DF at h
  split at h
  ·rename_i il hil
   cases hmk : (C.sig f).xU with
   | true =>
    rw [hmk] at h
    simp only [cond_true] at h
    split at h
    ·obtain rfl : WL = [] := List.length_eq_zero_iff.1 hcl
     simp only [St.ev] at hsg
     cases hsg
     exact aaA good Ea.2.2.2 hmk i ht hvs hgv h
    ·simp at h
   | false =>
   rw [hmk] at h
   simp only [cond_false] at h
   split at h
   ·rename_i id Pm
    have hcl : fE (mem F0 G w.heap s.ak pl) (.oq f caps) (a.eval g) := by have hh := i.slot g; rw [hsg] at hh; exact hh
    split at h
    ·exact UW good Ea.2.2.1 i ht hvs Pm hcl h
    ·cases hlo : Oper.Kl ⟨dst, .call ⟨.value g, args, argTypes⟩, type, pos, after, guard⟩ C with
     | false => rw [hlo] at h; simp at h
     | true => rw [hlo] at h; exact UW good Ea.2.2.1 i ht hvs Pm hcl h
   ·simp at h
  rename_i hil
  have hmk : (C.sig f).xU = false := by unfold ZV.xU; rw [hil]
  split at h
  ·unfold Lm at h
   split at h
   ·rename_i dst' fn hfn
    simp only at h
    split at h
    ·rename_i as cas rt has hcas hrt
     split at h
     ·simp at h
     ·rename_i BJ
      simp only [Bool.or_eq_true, Bool.and_eq_true, Bool.not_eq_true', not_or, not_and, Bool.not_eq_true, Bool.not_eq_false] at BJ
      obtain ⟨BJ, hcut⟩ := BJ
      simp only [T.run] at h
      rw [Option.bind_eq_some_iff] at h
      obtain ⟨r0, hr0, h⟩ := h
      rw [Option.bind_eq_some_iff] at hcas
      obtain ⟨zw, DT, hmap⟩ := hcas
      have qZ : ∀ b, F0 b \/ G b -> b < w.heap.size := fun b hb => i.ak.lt b hb
      have yU : ∀ id e p, s.ak id = some e -> pl id = some p -> ∀ b ∈ e.bs p, b < w.heap.size := fun id e p he hp b hb => i.ak.qh he hp b hb
      obtain ⟨Gc, JD, sW, aaC, hDa, hDc, hSo⟩ : ∃ Gc : Nat -> Prop, (∀ b, G b -> Gc b) /\ (∀ b, Gc b -> b < w.heap.size) /\ (Gc = G \/ ((C.sig f).own = true /\ rt.cut = true)) /\ (vs.any (fun v => v.cells.any (kK s)) = true -> DW s pl Gc) /\ (caps.any (kJ s) = true -> DW s pl Gc) /\ (C.DC.contains f = true -> ∀ b, b < w.heap.size -> Gc b) := by
       cases hso : C.DC.contains f with
       | true =>
        exact ⟨fun b => b < w.heap.size, fun b hb => qZ b (.inr hb), fun _ h => h, .inr (hcut (.inr hso)), fun _ id t l n p h1 h2 b hb => i.ak.qh h1 h2 b (List.mem_cons_of_mem _ hb), fun _ id t l n p h1 h2 b hb => i.ak.qh h1 h2 b (List.mem_cons_of_mem _ hb), fun _ _ h => h⟩
       | false =>
       cases hd : jO s vs caps with
       | false =>
        simp only [jO, Bool.or_eq_false_iff] at hd
        exact ⟨G, fun _ h => h, fun b hb => qZ b (.inr hb), .inl rfl, fun h => (by rw [hd.1] at h; cases h), fun h => (by rw [hd.2] at h; cases h), fun h => (by cases h)⟩
       | true =>
        refine ⟨fun b => G b \/ ∃ id t l n p, s.ak id = some (.deep t l n) /\ pl id = some p /\ b ∈ p.EN, fun b hb => .inl hb, fun b hb => ?_, .inr (hcut (.inl hd)), fun _ id t l n p h1 h2 b hb => .inr ⟨id, t, l, n, p, h1, h2, hb⟩, fun _ id t l n p h1 h2 b hb => .inr ⟨id, t, l, n, p, h1, h2, hb⟩, fun h => (by cases h)⟩
        rcases hb with hb | ⟨id, t, l, n, p, h1, h2, hb⟩
        ·exact qZ b (.inr hb)
        ·exact i.ak.qh h1 h2 b (List.mem_cons_of_mem _ hb)
      have hcp := DX i JD qZ yU DT hcl hcr hDc
      have UZ := DZ i JD qZ yU sW has BJ hal har hDa
      have aaD : gV (fun b => b < w.heap.size) Gc w.heap (C.xk f as) (args.toList.map a.eval) /\ ∀ b ∈ C.xk f as, b.sV = false := by
       unfold dA.xk
       cases hso : C.DC.contains f with
       | true =>
        simp only [cond_true]
        refine ⟨UZ.solid (hSo hso), fun b hb => ?_⟩
        obtain ⟨b', hb', rfl⟩ := List.mem_map.1 hb
        have := Av has BJ b' hb'
        cases b' <;> first | rfl | exact this
       | false => exact ⟨UZ, fun b hb => Av has BJ b hb⟩
      have hargs := aaD.1.append (BL hmap hcp.1 hcp.2)
      rw [T.run_bind] at h
      refine Ns good hcall hfn hmk hr0 i ht (fun b hb => hb) qZ yU JD sW aaC (fun x y b c hx hy hb _ => ?_) hargs hgv rfl h
      exfalso
      rcases List.mem_append.1 (List.mem_of_getElem? hx) with hm | hm
      ·rw [aaD.2 b hm] at hb; cases hb
      ·rw [BK hmap b hm] at hb; cases hb
    ·simp at h
   ·simp at h
  ·rename_i x rr hsig
   cases g <;> simp only [T.Uu] at h <;> try (cases h; done)
   simp only [St.ev] at hsg
   cases hsg
   exact WM good hcall hmk i ht hvs h
 ·simp at h
end
end Go.Flat
