/- The operation that calls. No condition. -/
import Derived.Test.YtmocpfgfjeaelaaGreatBox
set_option linter.unusedVariables false
set_option linter.unusedSimpArgs false
namespace Go.Flat

theorem toArgs_ok {C : Cfg} {F0 : Fr0} {A G Gc : Nat → Prop} {s : St} {a : Act} {w : World} {pl : Nat → Option Pl} (i : Inv F0 G s a w pl) (hGc : ∀ b, G b → Gc b) (hFA : ∀ b, F0 b ∨ G b → A b) (hPA : ∀ id e p, s.sto id = some e → pl id = some p → ∀ b ∈ e.bs p, A b) (hGA : ∀ b, Gc b → A b) {io : List Nat} : ∀ {ts : List TypeId} {vs : List Comp} {n : Nat} {as : List Arg} {us : List Value},
    toArgs C s io n ts vs = some as → hasIo as = false → us.length = vs.length → (∀ (j : Nat) c u, vs[j]? = some c → us[j]? = some u → CompRel (mem F0 G w.heap s.sto pl) c u) → (vs.any (fun v => v.cells.any (cellDeep s)) = true → DeepIn s pl Gc) → ArgsRel A Gc w.heap as us
  | ts, [], n, as, us, h, _, hl, _, _ => by
    have : as = [] := by cases ts <;> simpa [toArgs] using h.symm
    subst this
    exact ⟨hl, fun i a v hi => by simp at hi⟩
  | [], v :: vs, n, as, us, h, _, _, _, _ => by simp [toArgs] at h
  | t :: ts, v :: vs, n, as, us, h, hio, hl, hr, hD => by
    simp only [toArgs] at h
    split at h
    · rename_i x rest hx hrest
      simp at h
      subst h
      cases us with
      | nil => simp at hl
      | cons u us =>
        have hio' : hasIo rest = false := by cases x <;> simp [hasIo] at hio <;> exact hio
        obtain ⟨k1, k2⟩ := toArgs_ok i hGc hFA hPA hGA hrest hio' (by simpa using hl) (fun j c u' hj hu => hr (j + 1) c u' (by simpa using hj) (by simpa using hu)) (fun h => hD (by rw [List.any_cons, h, Bool.or_true]))
        refine ⟨by simp [k1], fun j a' v' hj hv => ?_⟩
        cases j with
        | succ j => exact k2 j a' v' (by simpa using hj) (by simpa using hv)
        | zero =>
          simp at hj hv
          subst hj hv
          have hval : toArgVal C s t v = some x := by
            unfold toArg at hx
            cases hc : io.contains n with
            | false => rw [hc] at hx; exact hx
            | true =>
              rw [hc] at hx
              have hx : toArgIo s v = some x := hx
              exfalso
              unfold toArgIo at hx
              split at hx
              · split at hx
                · simp at hx; subst hx; simp [hasIo] at hio
                · cases hx
              · split at hx
                · obtain ⟨y, _, rfl⟩ := Option.map_eq_some_iff.1 hx; simp [hasIo] at hio
                · cases hx
              · cases hx
          exact toArg_ok i hGc hFA hPA (hr 0 v u rfl rfl) hval hGA (fun h => hD (by rw [List.any_cons, h, Bool.true_or]))
    · cases h

theorem toArgs_io {C : Cfg} {s : St} {io : List Nat} : ∀ {ts : List TypeId} {vs : List Comp} {n : Nat} {as : List Arg}, toArgs C s io n ts vs = some as → hasIo as = false → ∀ b ∈ as, b.isIo = false
  | ts, [], n, as, h, _ => by
    have : as = [] := by cases ts <;> simpa [toArgs] using h.symm
    subst this
    simp
  | [], v :: vs, n, as, h, _ => by simp [toArgs] at h
  | t :: ts, v :: vs, n, as, h, hio => by
    simp only [toArgs] at h
    split at h
    · rename_i y rest hy hrest
      simp at h
      subst h
      have hio' : hasIo rest = false ∧ y.isIo = false := by cases y <;> simp [hasIo] at hio <;> exact ⟨hio, rfl⟩
      intro b hb
      rcases List.mem_cons.1 hb with rfl | hb
      · exact hio'.2
      · exact toArgs_io hrest hio'.1 b hb
    · cases h

theorem capArgs_io : ∀ {caps : List Cap} {as : List Arg}, caps.mapM capArg = some as → ∀ b ∈ as, b.isIo = false
  | [], as, h => by simp at h; subst h; simp
  | c :: caps, as, h => by
    rw [List.mapM_cons] at h
    simp only [Option.bind_eq_bind, Option.bind_eq_some_iff, Option.pure_def, Option.some.injEq] at h
    obtain ⟨x, hx, rest, hrest, rfl⟩ := h
    intro b hb
    rcases List.mem_cons.1 hb with rfl | hb
    · exact capArg_io hx
    · exact capArgs_io hrest b hb

theorem capArgs_ok {A G : Nat → Prop} {h : Array Obj} : ∀ {caps : List Cap} {as : List Arg} {us : List Value}, caps.mapM capArg = some as → us.length = caps.length → (∀ (j : Nat) c u, caps[j]? = some c → us[j]? = some u → CapRel (emptyMem A G h) c u) →
    ArgsRel A G h as us
  | [], as, us, h, hl, _ => by
    simp at h
    subst h
    exact ⟨hl, fun i a v hi => by simp at hi⟩
  | c :: caps, as, us, h, hl, hr => by
    rw [List.mapM_cons] at h
    simp only [Option.bind_eq_bind, Option.bind_eq_some_iff, Option.pure_def, Option.some.injEq] at h
    obtain ⟨x, hx, rest, hrest, rfl⟩ := h
    cases us with
    | nil => simp at hl
    | cons u us =>
      obtain ⟨k1, k2⟩ := capArgs_ok hrest (by simpa using hl) (fun j c u' hj hu => hr (j + 1) c u' (by simpa using hj) (by simpa using hu))
      refine ⟨by simp [k1], fun j a' v' hj hv => ?_⟩
      cases j with
      | succ j => exact k2 j a' v' (by simpa using hj) (by simpa using hv)
      | zero =>
        simp at hj hv
        subst hj hv
        have hcr := hr 0 c u rfl rfl
        cases c with
        | ptr _ => simp [capArg] at hx
        | ro t y =>
          simp [capArg] at hx
          subst hx
          obtain ⟨b, o, es, h1, h2, h3, h4⟩ := hcr
          exact ⟨b, o, es, by rw [Nat.add_zero]; exact h1, h2, h3, h4⟩

theorem ArgsRel.append {A G : Nat → Prop} {h : Array Obj} {as bs : List Arg} {us vs : List Value} (h1 : ArgsRel A G h as us) (h2 : ArgsRel A G h bs vs) : ArgsRel A G h (as ++ bs) (us ++ vs) := by
  refine ⟨by simp [h1.1, h2.1], fun i a v hi hv => ?_⟩
  rw [List.getElem?_append] at hi hv
  split at hi
  · rename_i hlt
    rw [if_pos (by rw [h1.1]; exact hlt)] at hv
    exact h1.2 i a v hi hv
  · rename_i hlt
    rw [if_neg (by rw [h1.1]; exact hlt), h1.1] at hv
    exact h2.2 _ a v hi hv

theorem compsOf_ok {F0 : Fr0} {G : Nat → Prop} {s : St} {a : Act} {w : World} {pl : Nat → Option Pl} (i : Inv F0 G s a w pl) : ∀ {xs : List Operand} {vs : List Comp}, compsOf s xs = some vs →
    (xs.map a.eval).length = vs.length ∧ ∀ (j : Nat) c u, vs[j]? = some c → (xs.map a.eval)[j]? = some u → CompRel (mem F0 G w.heap s.sto pl) c u
  | [], vs, h => by simp [compsOf] at h; subst h; exact ⟨rfl, fun j c u hj => by simp at hj⟩
  | x :: xs, vs, h => by
    simp only [compsOf] at h
    split at h
    · rename_i c r hs hr
      simp at h
      subst h
      obtain ⟨k1, k2⟩ := compsOf_ok i hr
      refine ⟨by simpa using k1, fun j c' u hj hu => ?_⟩
      cases j with
      | succ j => exact k2 j c' u (by simpa using hj) (by simpa using hu)
      | zero =>
        simp at hj hu
        subst hj hu
        have := i.slot x
        rw [hs] at this
        exact this
    · cases h

section
variable {C : Cfg} {callF : FuncId → (t : Ty) → List Arg → Option t.den}
  {dst : Option Tmp} {type : TypeId} {pos : String} {after : Array Edge} {guard : Option (Nat × Bool)}

theorem Rd.plain {G G2 A A2 : Nat → Prop} {h : Array Obj} : ∀ {t : Ty} {x : t.den} {cs : List Value}, t.plain = true → Rd G h t A x cs → Rd G2 h t A2 x cs
  | .bool, _, _, _, e => e
  | .int _, _, _, _, e => e
  | .str, _, _, _, e => e
  | .unit, _, _, _, e => e
  | .list _, _, _, hp, _ => by simp [Ty.plain] at hp
  | .dlist _, _, _, hp, _ => by simp [Ty.plain] at hp
  | .pair a b, x, cs, hp, ⟨c, d, e, h1, h2⟩ => by
    simp only [Ty.plain, Bool.and_eq_true] at hp
    exact ⟨c, d, e, h1.plain hp.1, h2.plain hp.2⟩

theorem OwnRd.cut {G G2 : Nat → Prop} {h : Array Obj} : ∀ {t : Ty} {x : t.den} {cs : List Value} {ps : List (Option Pl)}, OwnRd true G h t x cs ps → t.cut = true → OwnRd true G2 h t x cs ps
  | .bool, _, _, _, e, _ => e
  | .int _, _, _, _, e, _ => e
  | .str, _, _, _, e, _ => e
  | .unit, _, _, _, e, _ => e
  | .list t, l, cs, ps, H, hc => by
    simp only [OwnRd, if_true] at H ⊢
    obtain ⟨v, π, rfl, rfl, h1, h2, h3⟩ := H
    refine ⟨v, π, rfl, rfl, h1, ?_, h3⟩
    cases π with
    | none => exact h2
    | some p =>
      obtain ⟨c, e, fz, k1, k2, k3, k4, k5⟩ := h2
      refine ⟨c, e, fz, k1, k2, k3, k4, fun i x hi => ?_⟩
      obtain ⟨es, h4, h5⟩ := k5 i x hi
      exact ⟨es, h4.plain hc, h5⟩
  | .dlist t, l, cs, ps, H, hc => by
    obtain ⟨v, π, rfl, rfl, h1, h2⟩ := ownRd_dlist.1 H
    refine ownRd_dlist.2 ⟨v, π, rfl, rfl, h1, ?_⟩
    cases π with
    | none => exact h2
    | some p =>
      obtain ⟨c, e, fz, k1, k2, k3, k4, k5, k6, k7, k8⟩ := h2
      refine ⟨c, e, fz, k1, k2, k3, k4, k5, k6, k7, fun i x qs hi hq => ?_⟩
      obtain ⟨es, h4, h5⟩ := k8 i x qs hi hq
      exact ⟨es, OwnRd.cut h4 hc, h5⟩
  | .pair a b, x, cs, ps, ⟨c, d, p, q, h1, h2, h3, h4⟩, hc => by
    simp only [Ty.cut, Bool.and_eq_true] at hc
    exact ⟨c, d, p, q, h1, h2, OwnRd.cut h3 hc.1, OwnRd.cut h4 hc.2⟩

theorem enter_ok (good : Good C) (hcall : CallOk C callF) {R : Type} {F0 : Fr0} {G : Nat → Prop} {s1 : St} {a : Act} {w : World} {pl : Nat → Option Pl} {κ : St → Option R} {r : R} {Q : Exit → Act → World → Prop} {g : Operand} {args : Array Operand} {argTypes : Array TypeId}
    {f : FuncId} {fn : Func} {rt : Ty} {as : List Arg} {us cvs : List Value} {r0 : rt.den} {A Gc : Nat → Prop} (hfn : C.P.funcs[f]? = some fn) (hmk : (C.sig f).isMk = false) (hr0 : callF f rt as = some r0) (i1 : Inv F0 G s1 a w pl) (ht : TabF C w F0) (hA : ∀ b, A b → b < w.heap.size)
    (hFA : ∀ b, F0 b ∨ G b → A b) (hPA : ∀ id e p, s1.sto id = some e → pl id = some p → ∀ b ∈ e.bs p, A b) (hGc : ∀ b, G b → Gc b) (hGA : ∀ b, Gc b → A b) (hcut : Gc = G ∨ ((C.sig f).own = true ∧ rt.cut = true)) (hone : IoOne as) (hargs : ArgsRel A Gc w.heap as (us ++ cvs)) (hgv : a.eval g = .func (.func f) #[] cvs.toArray) (hus : args.toList.map a.eval = us)
    (h : (allocAll s1 (regSlot (C.sig f).own (Nat.beq fn.resultTypes.size 1) (siteKey (dst.getD 0)) rt r0).2).run callF (fun s => (s.put dst (regSlot (C.sig f).own (Nat.beq fn.resultTypes.size 1) (siteKey (dst.getD 0)) rt r0).1).run callF κ) = some r) :
    (⟨dst, .call ⟨.value g, args, argTypes⟩, type, pos, after, guard⟩ : Oper).wp C.P a w (Nxt F0 G w κ r) Q := by
  obtain ⟨hbody, hcalls⟩ := hcall f fn rt as r0 hfn hr0 hmk
  have hc := hcalls w A Gc (us ++ cvs) hA hGA (ht.1.more fun b hb => hFA b (.inl hb)) hone hargs
  have hname : (fn.name == "runtime.NumGoroutine") = false := by
    have := Array.all_eq_true.1 good.names
    obtain ⟨hlt, hget⟩ := Array.getElem?_eq_some_iff.1 hfn
    have := this f hlt
    rw [hget] at this
    simpa using this
  have hexec : (execOp a.eval ⟨dst, .call ⟨.value g, args, argTypes⟩, type, pos, after, guard⟩).run C.P w = .ok (.enter f (us ++ cvs).toArray) w := by
    have hb : fn.body.isNone = false := by cases hb : fn.body <;> simp [hb] at hbody ⊢
    subst hus
    simp only [execOp, resolve, Sem.run_bind, hgv, Deferred.ofValue, Sem.run_pure, Result.andThen_ok, invoke, callFunc, run_program, hfn, hname, hb, Bool.false_eq_true, if_false]
    congr 2
    apply Array.ext'
    simp
  unfold Oper.wp
  rw [hexec]
  refine Calls.mono hc fun e w' hpost => ?_
  obtain ⟨v, G1, ps, rfl, hsz, hstr, hh, hG, hnew, hres, hfresh, hnd⟩ := hpost
  show Nxt F0 G w κ r (a.put dst v) w'
  obtain ⟨G', hG, hnew, hres, hfresh⟩ : ∃ G' : Nat → Prop, (∀ b, G b → G' b) ∧ (∀ b, G' b → G b ∨ (¬ A b ∧ b < w'.heap.size)) ∧ ResIs (C.sig f).own (Nat.beq fn.resultTypes.size 1) rt G' w'.heap r0 v ps ∧ ∀ b ∈ blks ps, ¬ A b ∧ ¬ G' b ∧ b < w'.heap.size := by
    rcases hcut with e | ⟨h1, h2⟩
    · subst e
      exact ⟨G1, hG, hnew, hres, hfresh⟩
    · refine ⟨G, fun _ h => h, fun _ h => .inl h, ?_, fun b hb => ⟨(hfresh b hb).1, fun h => (hfresh b hb).1 (hFA b (.inr h)), (hfresh b hb).2.2⟩⟩
      obtain ⟨cs, k1, k2⟩ := hres
      rw [h1] at k1 ⊢
      exact ⟨cs, k1.cut h2, k2⟩
  obtain ⟨i2, fr⟩ := i1.grow2 hFA hPA hsz (ht.str hstr) hh hG hnew
  obtain ⟨hrows, hslot⟩ := regSlot_ok (key := siteKey (dst.getD 0)) hres
  have hF : ∀ b ∈ blks ps, ¬ (F0 b ∨ G' b) ∧ b < w'.heap.size ∧ ∀ id e q, s1.sto id = some e → pl id = some q → b ∉ e.bs q := by
    intro b hb
    obtain ⟨k1, k2, k3⟩ := hfresh b hb
    refine ⟨fun h => ?_, k3, fun id e q hid hq hb' => k1 (hPA id e q hid hq b hb')⟩
    rcases h with h | h
    · exact k1 (hFA _ (.inl h))
    · exact k2 h
  obtain ⟨s', pl', k1, k2, k3, k4⟩ := allocAll_ok i2 hrows hF hnd h
  obtain ⟨s'', k5, k6, _⟩ := put_ok k2 (hslot _ rfl rfl k3) k1
  exact ⟨s'', G', pl', k5, k6, fr⟩

theorem give_ok (good : Good C) (hcall : CallOk C callF) {R : Type} {F0 : Fr0} {G : Nat → Prop} {s : St} {a : Act} {w : World} {pl : Nat → Option Pl} {κ : St → Option R} {r : R} {Q : Exit → Act → World → Prop} {args : Array Operand} {argTypes : Array TypeId}
    {f : FuncId} {vs : List Comp} {i0 : Nat} (hmk : (C.sig f).isMk = false) (i : Inv F0 G s a w pl) (ht : TabF C w F0) (hvs : compsOf s args.toList = some vs)
    (h : (callGive C s ⟨dst, .call ⟨.value (.func f), args, argTypes⟩, type, pos, after, guard⟩ f vs [] i0).run callF κ = some r) :
    (⟨dst, .call ⟨.value (.func f), args, argTypes⟩, type, pos, after, guard⟩ : Oper).wp C.P a w (Nxt F0 G w κ r) Q := by
  obtain ⟨hal, har⟩ := compsOf_ok i hvs
  unfold callGive at h
  split at h
  · rename_i fn v hfn hv
    split at h
    · rename_i T0 hT
      split at h
      · rename_i hka
        simp only [Bool.and_eq_true] at hka
        split at h
        · rename_i x ids hof
          cases hnd : nodup ids with
          | false => rw [hnd] at h; cases h
          | true =>
            rw [hnd] at h
            simp only [cond_true] at h
            split at h
            · rename_i as cas rt has hcas hrt
              split at h
              · simp at h
              rename_i hdp
              simp only [argDeep, List.any_nil, Bool.or_false, Bool.not_eq_true] at hdp
              simp only [T.run] at h
              rw [Option.bind_eq_some_iff] at h
              obtain ⟨r0, hr0, h⟩ := h
              have hcas' : cas = [] := by simpa [capsRo] using hcas.symm
              subst hcas'
              have hi0 : i0 < (args.toList.map a.eval).length := by rw [hal]; exact (List.getElem?_eq_some_iff.1 hv).1
              obtain ⟨u0, hu0⟩ : ∃ u0, (args.toList.map a.eval)[i0]? = some u0 := ⟨_, List.getElem?_eq_getElem hi0⟩
              have hc0 := har i0 v u0 hv hu0
              obtain ⟨ps, hown, hblk⟩ := ofCellsAll_own i.sto hof (cells_of_comp hka.1 hc0)
              have hval := valIs_of hka.1 hka.2 hc0
              have live : ∀ j ∈ ids, Lv s.sto .give j := ofCellsAll_live hof
              have hbl : ∀ b, b ∈ blks ps ↔ ∃ j ∈ ids, ∃ p, pl j = some p ∧ b ∈ p.bs := by
                intro b
                rw [hblk]
                simp only [List.mem_flatMap, List.mem_filterMap]
                exact ⟨fun ⟨p, ⟨j, hj, hp⟩, hb⟩ => ⟨j, hj, p, hp, hb⟩, fun ⟨j, hj, p, hp, hb⟩ => ⟨p, ⟨j, hj, hp⟩, hb⟩⟩
              have hfree : ∀ b ∈ blks ps, ¬ (F0 b ∨ G b) ∧ b < w.heap.size := by
                intro b hb
                obtain ⟨j, hj, p, hp, hbp⟩ := (hbl b).1 hb
                obtain ⟨e, he, k1, _, k2⟩ := (live j hj).bs i.sto hp
                exact ⟨k2 rfl b hbp, i.sto.lt_bs he hp b (k1 ▸ hbp)⟩
              obtain ⟨i1, old, kr⟩ := i.dropAll (nodup_spec hnd) (fun j hj => (live j hj).nobox)
              have hFA : ∀ b, F0 b ∨ G b → (b < w.heap.size ∧ b ∉ blks ps) := fun b hb => ⟨i.sto.lt b hb, fun h => (hfree b h).1 hb⟩
              have hPA : ∀ j e p, (s.dropAll ids).sto j = some e → pl j = some p → ∀ b ∈ e.bs p, (b < w.heap.size ∧ b ∉ blks ps) := by
                intro j e p he hp b hb
                obtain ⟨hj, e', he', hbs⟩ := old j e he
                rw [hbs p] at hb
                refine ⟨i.sto.lt_bs he' hp b hb, fun h => ?_⟩
                obtain ⟨k, hk, q, hq, hbq⟩ := (hbl b).1 h
                obtain ⟨e2, he2, k1, _, _⟩ := (live k hk).bs i.sto hq
                exact i.sto.apart' j k e' e2 p q he' he2 (fun e => hj (e ▸ hk)) hp hq b hb (k1 ▸ hbq)
              obtain ⟨m1, m2, m3⟩ := toArgsL_ok (A := fun b => b < w.heap.size ∧ b ∉ blks ps) (us := args.toList.map a.eval) i1 hFA hPA has (by simpa using hal) (fun j c u hj hu => by
                rw [List.getElem?_map] at hj
                obtain ⟨c', hc', rfl⟩ := Option.map_eq_some_iff.1 hj
                exact kr c' u (har j c' u hc' hu)) hdp
              have hai := m3 i0 (by omega) (by rw [← m1]; exact hi0)
              have hnd' : (blks ps).Nodup := by rw [hblk]; exact blocks_nodup i.sto (nodup_spec hnd) live
              have hargs : ArgsRel (fun b => b < w.heap.size ∧ b ∉ blks ps) G w.heap (as ++ []) (args.toList.map a.eval ++ []) := by
                rw [List.append_nil, List.append_nil]
                refine ⟨m1, fun j a' v' hj hv' => ?_⟩
                by_cases hji : j = i0
                · subst hji
                  rw [hai] at hj
                  cases hj
                  rw [hu0] at hv'
                  cases hv'
                  exact ⟨_, ps, hown, hval, fun b hb => ⟨fun h => h.2 hb, (hfree b hb).2⟩, hnd'⟩
                · exact (m2 j a' v' (by omega) hj hv').2
              rw [T.run_bind] at h
              refine enter_ok good hcall hfn hmk hr0 i1 ht (fun b hb => hb.1) hFA hPA (fun _ h => h) (fun b hb => hFA b (.inr hb)) (.inl rfl) (fun y z b c hy hz hb hc => ?_) hargs rfl rfl h
              have key : ∀ {y b}, (as ++ [])[y]? = some b → b.isIo = true → y = i0 := by
                intro y b hy hb
                rw [List.append_nil] at hy
                refine Classical.byContradiction fun hne => ?_
                have hlt : y < (args.toList.map a.eval).length := by rw [m1]; exact (List.getElem?_eq_some_iff.1 hy).1
                have := (m2 y b _ (by omega) hy (List.getElem?_eq_getElem hlt)).1
                rw [this] at hb
                cases hb
              exact (key hy hb).trans (key hz hc).symm
            · simp at h
        · simp at h
      · simp at h
    · simp at h
  · simp at h

theorem lend_ok (good : Good C) (hlend : LendOk C callF) {R : Type} {F0 : Fr0} {G : Nat → Prop} {s : St} {a : Act} {w : World} {pl : Nat → Option Pl} {κ : St → Option R} {r : R} {Q : Exit → Act → World → Prop} {args : Array Operand} {argTypes : Array TypeId}
    {f : FuncId} {vs : List Comp} {i0 : Nat} (i : Inv F0 G s a w pl) (ht : TabF C w F0) (hvs : compsOf s args.toList = some vs)
    (h : (callLend C s ⟨dst, .call ⟨.value (.func f), args, argTypes⟩, type, pos, after, guard⟩ f vs [] i0).run callF κ = some r) :
    (⟨dst, .call ⟨.value (.func f), args, argTypes⟩, type, pos, after, guard⟩ : Oper).wp C.P a w (Nxt F0 G w κ r) Q := by
  obtain ⟨hal, har⟩ := compsOf_ok i hvs
  unfold callLend at h
  split at h
  · rename_i fn v hfn hv
    split at h
    · rename_i T0 hT
      split at h
      · rename_i hka
        simp only [Bool.and_eq_true] at hka
        split at h
        · rename_i x ids hlo
          cases hnd : nodup (ids.filterMap id) with
          | false => rw [hnd] at h; cases h
          | true =>
            rw [hnd] at h
            simp only [cond_true] at h
            split at h
            · rename_i as cas rt has hcas hrt
              split at h
              · simp at h
              rename_i hdp
              simp only [argDeep, List.any_nil, Bool.or_false, Bool.not_eq_true] at hdp
              simp only [T.run] at h
              rw [Option.bind_eq_some_iff] at h
              obtain ⟨r0, hr0, h⟩ := h
              split at h
              · rename_i s2 hset
                have hcas' : cas = [] := by simpa [capsRo] using hcas.symm
                subst hcas'
                rw [List.append_nil] at hr0
                have hi0 : i0 < (args.toList.map a.eval).length := by rw [hal]; exact (List.getElem?_eq_some_iff.1 hv).1
                obtain ⟨u0, hu0⟩ : ∃ u0, (args.toList.map a.eval)[i0]? = some u0 := ⟨_, List.getElem?_eq_getElem hi0⟩
                have hc0 := har i0 v u0 hv hu0
                obtain ⟨ws, us', hws, how, hrest, hrel⟩ := lendOf_own i.sto hlo (cells_of_comp hka.1 hc0)
                have hus' : us' = [] := List.eq_nil_of_length_eq_zero hrest.1
                subst hus'
                rw [List.append_nil] at hws
                subst hws
                have hval := valIs_of hka.1 hka.2 hc0
                have mem : ∀ {j}, j ∈ ids.filterMap id ↔ some j ∈ ids := by
                  intro j
                  rw [List.mem_filterMap]
                  exact ⟨fun ⟨y, hy, e⟩ => by rw [← e]; exact hy, fun h => ⟨some j, h, rfl⟩⟩
                have live0 : ∀ j ∈ ids.filterMap id, ∃ e, s.sto j = some e ∧ Lends e := fun j hj => hrel.live j (mem.1 hj)
                have live : ∀ j ∈ ids.filterMap id, Lv s.sto .look j := fun j hj => by
                  obtain ⟨e, h1, ⟨u, l, o, rfl, _⟩ | ⟨u, l, n, rfl⟩⟩ := live0 j hj
                  · exact .inl ⟨u, l, o, h1, fun h => by cases h⟩
                  · exact .inr ⟨u, l, n, h1, fun h => by cases h⟩
                have lbs : ∀ j ∈ ids.filterMap id, ∀ p, pl j = some p → ∃ e, s.sto j = some e ∧ e.bs p = p.bs ∧ ∀ b ∈ p.bs, ¬ (F0 b ∨ G b) ∧ b < w.heap.size := by
                  intro j hj p hp
                  obtain ⟨e, h1, h2⟩ := live0 j hj
                  obtain ⟨e', h3, h4, _, _⟩ := (live j hj).bs i.sto hp
                  have h3 : s.sto j = some e' := h3
                  rw [h1] at h3
                  cases h3
                  refine ⟨e, h1, h4, fun b hb => ?_⟩
                  have hent := i.sto.ent j _ h1
                  rcases h2 with ⟨u, l, o, rfl, ho⟩ | ⟨u, l, n, rfl⟩
                  · have hb : b = p.b := by rw [← h4] at hb; simpa [Entry.bs] using hb
                    subst hb
                    exact ⟨(hent.2 p hp).2 ho, i.sto.lt_pl h1 hp⟩
                  · exact ⟨((hent.2 p hp).1 b hb).2, ((hent.2 p hp).1 b hb).1⟩
                obtain ⟨i1, old, kr⟩ := i.dropAll (nodup_spec hnd) (fun j hj => (live j hj).nobox)
                have hFA : ∀ b, F0 b ∨ G b → (b < w.heap.size ∧ ∀ j ∈ ids.filterMap id, ∀ p, pl j = some p → b ∉ p.bs) := fun b hb => ⟨i.sto.lt b hb, fun j hj p hp hbp => by
                  obtain ⟨e, _, _, h⟩ := lbs j hj p hp
                  exact (h b hbp).1 hb⟩
                have hPA' : ∀ j e p, j ∉ ids.filterMap id → s.sto j = some e → pl j = some p → ∀ b ∈ e.bs p, (b < w.heap.size ∧ ∀ k ∈ ids.filterMap id, ∀ q, pl k = some q → b ∉ q.bs) := by
                  intro j e p hj he hp b hb
                  refine ⟨i.sto.lt_bs he hp b hb, fun k hk q hq hbq => ?_⟩
                  obtain ⟨e', h1, h2, _⟩ := lbs k hk q hq
                  exact i.sto.apart' j k e e' p q he h1 (fun e => hj (e ▸ hk)) hp hq b hb (h2 ▸ hbq)
                have hPA : ∀ j e p, (s.dropAll (ids.filterMap id)).sto j = some e → pl j = some p → ∀ b ∈ e.bs p, (b < w.heap.size ∧ ∀ k ∈ ids.filterMap id, ∀ q, pl k = some q → b ∉ q.bs) := by
                  intro j e p he hp b hb
                  obtain ⟨hj, e', he', hbs⟩ := old j e he
                  exact hPA' j e' p hj he' hp b (hbs p ▸ hb)
                obtain ⟨m1, m2, m3⟩ := toArgsL_ok (A := fun b => b < w.heap.size ∧ ∀ j ∈ ids.filterMap id, ∀ p, pl j = some p → b ∉ p.bs) (us := args.toList.map a.eval) i1 hFA hPA has (by simpa using hal) (fun j c u hj hu => by
                  rw [List.getElem?_map] at hj
                  obtain ⟨c', hc', rfl⟩ := Option.map_eq_some_iff.1 hj
                  exact kr c' u (har j c' u hc' hu)) hdp
                have hai := m3 i0 (by omega) (by rw [← m1]; exact hi0)
                obtain ⟨hbody, hc⟩ := hlend f fn rt T0 x i0 as r0 hfn hr0 hai
                have hfm : ((ids.map fun j => j.bind pl).filterMap id) = (ids.filterMap id).filterMap pl := by
                  rw [List.filterMap_map, List.filterMap_filterMap]
                  rfl
                have how' : OwnRd true G w.heap T0 x u0.cells.toList (ids.map fun j => Option.bind j pl) := how
                have hbl : ∀ b, b ∈ blks (ids.map fun j => Option.bind j pl) ↔ ∃ j ∈ ids.filterMap id, ∃ p, pl j = some p ∧ b ∈ p.bs := by
                  intro b
                  unfold blks
                  rw [hfm]
                  simp only [List.mem_flatMap, List.mem_filterMap (f := pl)]
                  exact ⟨fun ⟨p, ⟨j, hj, hp⟩, hb⟩ => ⟨j, hj, p, hp, hb⟩, fun ⟨j, hj, p, hp, hb⟩ => ⟨p, ⟨j, hj, hp⟩, hb⟩⟩
                have hc := hc w (fun b => b < w.heap.size ∧ ∀ j ∈ ids.filterMap id, ∀ p, pl j = some p → b ∉ p.bs) G (args.toList.map a.eval) u0 u0.cells.toList (ids.map fun j => Option.bind j pl) (fun b hb => hb.1) (fun b hb => hFA b (.inr hb)) (ht.1.more fun b hb => hFA b (.inl hb)) m1 hu0
                  ⟨how', hval, fun b hb => by
                    obtain ⟨j, hj, p, hp, hb⟩ := (hbl b).1 hb
                    obtain ⟨_, _, _, h⟩ := lbs j hj p hp
                    exact ⟨fun hA => hA.2 j hj p hp hb, (h b hb).2⟩, by
                    unfold blks
                    rw [hfm]
                    exact blocks_nodup i.sto (nodup_spec hnd) live⟩ (fun j a' v' hne hj hv' => m2 j a' v' (by omega) hj hv')
                have hname : (fn.name == "runtime.NumGoroutine") = false := by
                  have := Array.all_eq_true.1 good.names
                  obtain ⟨hlt, hget⟩ := Array.getElem?_eq_some_iff.1 hfn
                  have := this f hlt
                  rw [hget] at this
                  simpa using this
                have hexec : (execOp a.eval ⟨dst, .call ⟨.value (.func f), args, argTypes⟩, type, pos, after, guard⟩).run C.P w = .ok (.enter f (args.toList.map a.eval).toArray) w := by
                  have hb : fn.body.isNone = false := by cases hb : fn.body <;> simp [hb] at hbody ⊢
                  have hgv : a.eval (.func f) = .func (.func f) #[] #[] := rfl
                  simp only [execOp, resolve, Sem.run_bind, hgv, Deferred.ofValue, Sem.run_pure, Result.andThen_ok, invoke, callFunc, run_program, hfn, hname, hb, Bool.false_eq_true, if_false]
                  congr 2
                  apply Array.ext'
                  simp
                unfold Oper.wp
                rw [hexec]
                refine Calls.mono hc fun e w' hpost => ?_
                obtain ⟨v', G', qs, rfl, hsz, hstr, hh, hG, hnew, hres, hfresh, hndq, hback, hpsG⟩ := hpost
                show Nxt F0 G w κ r (a.put dst v') w'
                obtain ⟨_, e1, e2, k1, k2⟩ := setRows_spec (rest := []) hrel (fun _ _ => rfl) (nodup_spec hnd) hback (by rw [List.append_nil]; exact hset)
                have inps : ∀ {j p b}, j ∈ ids.filterMap id → pl j = some p → b ∈ p.bs → b ∈ blks (ids.map fun j => Option.bind j pl) := fun {j p b} hj hp hb => (hbl b).2 ⟨j, hj, p, hp, hb⟩
                obtain ⟨i2, fr⟩ := i.lendback (G' := G') (idl := ids.filterMap id) e1 e2 (fun j hj => k1 j (fun h => hj (mem.2 h))) (fun j hj => by
                  obtain ⟨e, e', h1, h2, h3⟩ := k2 j (mem.1 hj)
                  have h1 : s.sto j = some e := h1
                  refine ⟨e, e', h1, h2, h3, fun p hp b hb => ?_⟩
                  obtain ⟨e0, h4, h5, h6⟩ := lbs j hj p hp
                  rw [h1] at h4
                  cases h4
                  rw [h5] at hb
                  exact ⟨(hpsG b (inps hj hp hb)).1, Nat.lt_of_lt_of_le (h6 b hb).2 hsz⟩) hFA hPA' hsz (ht.str hstr) hh hG hnew
                obtain ⟨hrows, hslot⟩ := regSlot_ok (key := siteKey (dst.getD 0)) hres
                have hF : ∀ b ∈ blks qs, ¬ (F0 b ∨ G' b) ∧ b < w'.heap.size ∧ ∀ j e q, s2.sto j = some e → pl j = some q → b ∉ e.bs q := by
                  intro b hb
                  obtain ⟨n1, n2, n3⟩ := hfresh b hb
                  refine ⟨fun h => ?_, n3, fun j e q hj hq hbq => ?_⟩
                  · rcases h with h | h
                    · exact n1 (hFA _ (.inl h))
                    · exact n2 h
                  · by_cases hji : j ∈ ids.filterMap id
                    · obtain ⟨e0, e', h1, h2, h3⟩ := k2 j (mem.1 hji)
                      have h1 : s.sto j = some e0 := h1
                      rw [hj] at h2
                      cases h2
                      obtain ⟨e9, h4, h5, h6⟩ := lbs j hji q hq
                      rw [h1] at h4
                      cases h4
                      rw [h3.bs, h5] at hbq
                      exact (hpsG b (inps hji hq hbq)).2 hb
                    · have hj' : s.sto j = some e := (k1 j (fun h => hji (mem.2 h))).symm.trans hj
                      exact n1 (hPA' j e q hji hj' hq b hbq)
                rw [T.run_bind] at h
                obtain ⟨s', pl', n1, n2, n3, n4⟩ := allocAll_ok i2 hrows hF hndq h
                obtain ⟨s'', n5, n6, _⟩ := put_ok n2 (hslot _ rfl rfl n3) n1
                exact ⟨s'', G', pl', n5, n6, fr⟩
              · simp at h
            · simp at h
        · simp at h
      · simp at h
    · simp at h
  · simp at h

theorem ibs_disj {p : Pl} (hn : p.ibs.Nodup) {i j : Nat} {qs qs' : List (Option Pl)} (hi : p.inn[i]? = some qs) (hj : p.inn[j]? = some qs') (hne : i ≠ j) {q q' : Pl} (hq : some q ∈ qs) (hq' : some q' ∈ qs') : q.b ≠ q'.b := by
  have e : p.ibs = (p.inn.map fun qs => (qs.filterMap id).map Pl.b).flatten := by
    simp [Pl.ibs, List.filterMap_flatten, List.map_flatten, Function.comp_def]
  rw [e] at hn
  have hp := (List.pairwise_flatten.1 hn).2
  rw [List.pairwise_map] at hp
  have key : ∀ {i j : Nat} {qs qs' : List (Option Pl)} {q q' : Pl}, i < j → p.inn[i]? = some qs → p.inn[j]? = some qs' → some q ∈ qs → some q' ∈ qs' → q.b ≠ q'.b := by
    intro i j qs qs' q q' hlt hi hj hq hq' e
    obtain ⟨h1, rfl⟩ := List.getElem?_eq_some_iff.1 hi
    obtain ⟨h2, rfl⟩ := List.getElem?_eq_some_iff.1 hj
    have := List.pairwise_iff_getElem.1 hp i j h1 h2 hlt
    exact this q.b (List.mem_map.2 ⟨q, List.mem_filterMap.2 ⟨_, hq, rfl⟩, rfl⟩) q'.b (List.mem_map.2 ⟨q', List.mem_filterMap.2 ⟨_, hq', rfl⟩, rfl⟩) e
  rcases Nat.lt_or_gt_of_ne hne with h | h
  · exact key h hi hj hq hq'
  · exact (key h hj hi hq' hq).symm

/-- A list within an element. -/
theorem listAt_own {G : Nat → Prop} {h : Array Obj} : ∀ {u : Ty} {x : u.den} {es : List Value} {qs : List (Option Pl)} {off : Nat} {t : Ty} {l : List t.den}, OwnRd true G h u x es qs → listAt u off x = some ⟨t, l⟩ →
    ∃ v π, es[off]? = some v ∧ π ∈ qs ∧ SliceAt t.sz π 0 l.length v ∧ ArrAt G h t l π ∧ FlatPl π ∧ (lflags u)[off]? = some true ∧ ∀ (G' : Nat → Prop) (h' : Array Obj) (l' : List t.den) (y : u.den), setList u off x t l' = some y → l'.length = l.length → ArrAt G' h' t l' π → (∀ b, G b → G' b) → (∀ b, G b → h'[b]? = h[b]?) →
      (∀ b ∈ blks qs, (∀ p, π = some p → b ≠ p.b) → h'[b]? = h[b]?) → (blks qs).Nodup → OwnRd true G' h' u y es qs
  | .bool, _, _, _, off, _, _, _, hl => by cases off <;> simp [listAt] at hl
  | .int _, _, _, _, off, _, _, _, hl => by cases off <;> simp [listAt] at hl
  | .str, _, _, _, off, _, _, _, hl => by cases off <;> simp [listAt] at hl
  | .unit, _, _, _, off, _, _, _, hl => by cases off <;> simp [listAt] at hl
  | .dlist _, _, _, _, off, _, _, _, hl => by cases off <;> simp [listAt] at hl
  | .list t0, x, es, qs, off, t, l, H, hl => by
    cases off with
    | succ off => simp [listAt] at hl
    | zero =>
      simp only [listAt, Option.some.injEq, Sigma.mk.injEq] at hl
      obtain ⟨rfl, hl⟩ := hl
      cases hl
      simp only [OwnRd, if_true] at H
      obtain ⟨v, π, rfl, rfl, h1, h2, h3⟩ := H
      refine ⟨v, π, rfl, by simp, h1, h2, h3, rfl, fun G' h' l' y hy hlen ha _ _ _ _ => ?_⟩
      simp only [setList] at hy
      obtain ⟨_, rfl⟩ := castList_some hy
      simp only [OwnRd, if_true]
      exact ⟨v, π, rfl, rfl, by rw [hlen]; exact h1, ha, h3⟩
  | .pair a b, x, es, qs, off, t, l, ⟨c, d, p, q, e1, e2, h3, h4⟩, hl => by
    subst e1 e2
    have hcl := h3.len
    have hfl := lflags_len a
    simp only [listAt] at hl
    split at hl
    · rename_i hlt
      obtain ⟨v, π, k1, k2, k3, k4, k5, k6, k7⟩ := listAt_own h3 hl
      refine ⟨v, π, by rw [List.getElem?_append_left (by omega)]; exact k1, List.mem_append_left _ k2, k3, k4, k5, by simp only [lflags]; rw [List.getElem?_append_left (by omega)]; exact k6, fun G' h' l' y hy hlen ha hG hs hb hn => ?_⟩
      simp only [setList, if_pos hlt] at hy
      obtain ⟨y1, hy1, rfl⟩ := Option.map_eq_some_iff.1 hy
      rw [blks_append] at hn
      obtain ⟨n1, n2, n3⟩ := List.nodup_append.1 hn
      refine ⟨c, d, p, q, rfl, rfl, k7 G' h' l' y1 hy1 hlen ha hG hs (fun b hbp => hb b (by rw [blks_append]; exact List.mem_append_left _ hbp)) n1, OwnRd.move hG hs (fun b hbq => hb b (by rw [blks_append]; exact List.mem_append_right _ hbq) fun pp hpp e => ?_) h4⟩
      refine n3 b ?_ b hbq rfl
      subst e hpp
      simp only [blks, List.mem_flatMap, List.mem_filterMap, id]
      exact ⟨pp, ⟨_, k2, rfl⟩, pp.b_mem⟩
    · rename_i hge
      obtain ⟨v, π, k1, k2, k3, k4, k5, k6, k7⟩ := listAt_own h4 hl
      refine ⟨v, π, by rw [List.getElem?_append_right (by omega), hcl]; exact k1, List.mem_append_right _ k2, k3, k4, k5, by simp only [lflags]; rw [List.getElem?_append_right (by omega), hfl]; exact k6, fun G' h' l' y hy hlen ha hG hs hb hn => ?_⟩
      simp only [setList, if_neg hge] at hy
      obtain ⟨y1, hy1, rfl⟩ := Option.map_eq_some_iff.1 hy
      rw [blks_append] at hn
      obtain ⟨n1, n2, n3⟩ := List.nodup_append.1 hn
      refine ⟨c, d, p, q, rfl, rfl, OwnRd.move hG hs (fun b hbq => hb b (by rw [blks_append]; exact List.mem_append_left _ hbq) fun pp hpp e => ?_) h3, k7 G' h' l' y1 hy1 hlen ha hG hs (fun b hbp => hb b (by rw [blks_append]; exact List.mem_append_right _ hbp)) n2⟩
      refine n3 b hbq b ?_ rfl
      subst e hpp
      simp only [blks, List.mem_flatMap, List.mem_filterMap, id]
      exact ⟨pp, ⟨_, k2, rfl⟩, pp.b_mem⟩

theorem inn_ok (good : Good C) (hlend : LendOk C callF) {R : Type} {F0 : Fr0} {G : Nat → Prop} {s : St} {a : Act} {w : World} {pl : Nat → Option Pl} {κ : St → Option R} {r : R} {Q : Exit → Act → World → Prop} {args : Array Operand} {argTypes : Array TypeId}
    {f : FuncId} {vs : List Comp} {i0 id j off : Nat} (i : Inv F0 G s a w pl) (ht : TabF C w F0) (hvs : compsOf s args.toList = some vs) (hvi : vs[i0]? = some (.cell (.inn id j off)))
    (h : (callInn C s ⟨dst, .call ⟨.value (.func f), args, argTypes⟩, type, pos, after, guard⟩ f vs i0 id j off).run callF κ = some r) :
    (⟨dst, .call ⟨.value (.func f), args, argTypes⟩, type, pos, after, guard⟩ : Oper).wp C.P a w (Nxt F0 G w κ r) Q := by
  obtain ⟨hal, har⟩ := compsOf_ok i hvs
  unfold callInn at h
  split at h
  · rename_i fn u l n hfn hsto
    have hjl : j < l.length := by
      have hi0 : i0 < (args.toList.map a.eval).length := by rw [hal]; exact (List.getElem?_eq_some_iff.1 hvi).1
      obtain ⟨t', l0, n', h1, h2, _⟩ := har i0 _ _ hvi (List.getElem?_eq_getElem hi0)
      have h1 : s.sto id = some (.deep t' l0 (some n')) := h1
      rw [hsto] at h1
      cases h1
      exact h2
    · split at h
      · rename_i t x hla
        split at h
        · rename_i as rt has hrt
          split at h
          · simp at h
          rename_i hdp
          simp only [argDeep, List.any_nil, Bool.or_false, Bool.not_eq_true] at hdp
          simp only [T.run] at h
          rw [Option.bind_eq_some_iff] at h
          obtain ⟨r0, hr0, h⟩ := h
          split at h
          · rename_i y hset
            have hi0 : i0 < (args.toList.map a.eval).length := by rw [hal]; exact (List.getElem?_eq_some_iff.1 hvi).1
            obtain ⟨u0, hu0⟩ : ∃ u0, (args.toList.map a.eval)[i0]? = some u0 := ⟨_, List.getElem?_eq_getElem hi0⟩
            have hc0 := har i0 _ u0 hvi hu0
            obtain ⟨t', l0, n', h1, _, hfl, hu, huone⟩ := hc0
            have h1 : s.sto id = some (.deep t' l0 (some n')) := h1
            rw [hsto] at h1
            cases h1
            obtain ⟨hd, hent⟩ := i.sto.ent id _ hsto
            have hd : DeepAt G w.heap u l (pl id) := hd
            obtain ⟨p, hp⟩ : ∃ p, pl id = some p := by
              cases hp : pl id with
              | none => rw [hp] at hd; have hd : l = [] := hd; subst hd; simp at hjl
              | some p => exact ⟨p, rfl⟩
            have hd0 := hd
            rw [hp] at hd
            obtain ⟨c, e, fz, k1, k2, k3, k4, k5, k6, k7, k8⟩ := hd
            obtain ⟨hblk, hpin⟩ := hent p hp
            have hpin := hpin n rfl
            have hgd : l.getD j u.dflt = l[j] := by simp [List.getD, List.getElem?_eq_getElem hjl]
            rw [hgd] at hla hset
            obtain ⟨es, hes, hces⟩ := k8 j l[j] p.inn[j] (List.getElem?_eq_getElem hjl) (List.getElem?_eq_getElem (by omega))
            obtain ⟨v, π, g1, g2, g3, g4, g5, g6, g7⟩ := listAt_own hes hla
            have hv : v = u0 := by
              have h2 := hpin j off hjl hfl
              have h3 := hces off v g1
              have h2 : hcell w.heap p.b (p.o + j * u.sz + off) = some ((Flat.mem F0 G w.heap s.sto pl).inn n j off) := h2
              unfold hcell at h2
              rw [k1] at h2
              have h2 : c[p.o + j * u.sz + off]? = _ := h2
              rw [h3] at h2
              exact (Option.some.inj h2).trans hu.symm
            subst hv
            have hnd0 : p.bs.Nodup := k6
            simp only [Pl.bs, List.nodup_cons] at k6
            have hinn : p.inn[j]? = some p.inn[j] := List.getElem?_eq_getElem (by omega)
            have hπb : ∀ q, π = some q → q.b ∈ p.ibs := fun q hq => Pl.ibs_mem (List.getElem_mem (by omega : j < p.inn.length)) (hq ▸ g2)
            have hblk : ∀ b ∈ p.bs, b < w.heap.size ∧ ¬ (F0 b ∨ G b) := hblk
            have hnb : ∀ t cs, s.sto id ≠ some (.box t cs) := fun t cs h => by rw [hsto] at h; cases h
            obtain ⟨i1, gd, old⟩ := i.drop hnb
            have hFA : ∀ b, F0 b ∨ G b → (b < w.heap.size ∧ ∀ q, π = some q → b ≠ q.b) := fun b hb => ⟨i.sto.lt b hb, fun q hq e => (hblk q.b (List.mem_cons_of_mem _ (hπb q hq))).2 (e ▸ hb)⟩
            have hPA' : ∀ k e q, k ≠ id → s.sto k = some e → pl k = some q → ∀ b ∈ e.bs q, (b < w.heap.size ∧ ∀ q, π = some q → b ≠ q.b) := by
              intro k e' q hk he hq b hb
              refine ⟨i.sto.lt_bs he hq b hb, fun q' hq' e => ?_⟩
              subst e
              exact i.sto.apart' k id e' _ q p he hsto hk hq hp _ hb (List.mem_cons_of_mem _ (hπb q' hq'))
            have hPA : ∀ k e q, (s.drop id).sto k = some e → pl k = some q → ∀ b ∈ e.bs q, (b < w.heap.size ∧ ∀ q, π = some q → b ≠ q.b) := by
              intro k e' q he hq b hb
              obtain ⟨hk, e'', he'', rfl⟩ := old k e' he
              rw [Entry.kill_bs] at hb
              exact hPA' k e'' q hk he'' hq b hb
            obtain ⟨m1, m2, m3⟩ := toArgsL_ok (A := fun b => b < w.heap.size ∧ ∀ q, π = some q → b ≠ q.b) (us := args.toList.map a.eval) i1 hFA hPA has (by simpa using hal) (fun k c u hj hu => by
              rw [List.getElem?_map] at hj
              obtain ⟨c', hc', rfl⟩ := Option.map_eq_some_iff.1 hj
              exact kill_comp gd hnb (har k c' u hc' hu)) hdp
            have hai := m3 i0 (by omega) (by rw [← m1]; exact hi0)
            obtain ⟨hbody, hc⟩ := hlend f fn rt (.list t) x i0 as r0 hfn hr0 hai
            have hbl : ∀ b, b ∈ blks [π] ↔ ∃ q, π = some q ∧ b = q.b := by
              intro b
              cases π with
              | none => simp [blks]
              | some q => simp [blks, Pl.bs_flat (g5 q rfl)]
            have hc := hc w (fun b => b < w.heap.size ∧ ∀ q, π = some q → b ≠ q.b) G (args.toList.map a.eval) v [v] [π] (fun b hb => hb.1) (fun b hb => hFA b (.inr hb)) (ht.1.more fun b hb => hFA b (.inl hb)) m1 hu0
              ⟨by simp only [OwnRd, if_true]; exact ⟨v, π, rfl, rfl, g3, g4, g5⟩, rfl, fun b hb => by
                obtain ⟨q, hq, rfl⟩ := (hbl b).1 hb
                exact ⟨fun hA => hA.2 q hq rfl, (hblk _ (List.mem_cons_of_mem _ (hπb q hq))).1⟩, by
                cases π with
                | none => simp [blks]
                | some q => simp [blks, Pl.bs_flat (g5 q rfl)]⟩ (fun k a' v' hne hj hv' => m2 k a' v' (by omega) hj hv')
            have hname : (fn.name == "runtime.NumGoroutine") = false := by
              have := Array.all_eq_true.1 good.names
              obtain ⟨hlt, hget⟩ := Array.getElem?_eq_some_iff.1 hfn
              have := this f hlt
              rw [hget] at this
              simpa using this
            have hexec : (execOp a.eval ⟨dst, .call ⟨.value (.func f), args, argTypes⟩, type, pos, after, guard⟩).run C.P w = .ok (.enter f (args.toList.map a.eval).toArray) w := by
              have hb : fn.body.isNone = false := by cases hb : fn.body <;> simp [hb] at hbody ⊢
              have hgv : a.eval (.func f) = .func (.func f) #[] #[] := rfl
              simp only [execOp, resolve, Sem.run_bind, hgv, Deferred.ofValue, Sem.run_pure, Result.andThen_ok, invoke, callFunc, run_program, hfn, hname, hb, Bool.false_eq_true, if_false]
              congr 2
              apply Array.ext'
              simp
            unfold Oper.wp
            rw [hexec]
            refine Calls.mono hc fun e' w' hpost => ?_
            obtain ⟨v', G', qs, rfl, hsz, hstr, hh, hG, hnew, hres, hfresh, hndq, hback, hpsG⟩ := hpost
            show Nxt F0 G w κ r (a.put dst v') w'
            obtain ⟨π', hππ, harr, hlen⟩ := hback
            simp only [List.cons.injEq, and_true] at hππ
            subst hππ
            have hin : ∀ b ∈ p.bs, (∀ q, π = some q → b ≠ q.b) → w'.heap[b]? = w.heap[b]? := fun b hb hne => hh b ⟨(hblk b hb).1, hne⟩
            have hp0 : ∀ q, π = some q → p.b ≠ q.b := fun q hq e => k6.1 (e ▸ hπb q hq)
            have hflat : ∀ {k : Nat} {qs' : List (Option Pl)}, p.inn[k]? = some qs' → ∀ b ∈ blks qs', ∃ q, some q ∈ qs' ∧ b = q.b := by
              intro k qs' hk b hb
              rw [blks_flat (fun q hq' => k7 q (List.mem_flatten.2 ⟨qs', List.mem_of_getElem? hk, hq'⟩))] at hb
              obtain ⟨q, hq', rfl⟩ := List.mem_map.1 hb
              simp only [List.mem_filterMap, id_eq] at hq'
              obtain ⟨_, hq', rfl⟩ := hq'
              exact ⟨q, hq', rfl⟩
            have hGh : ∀ b, G b → w'.heap[b]? = w.heap[b]? := fun b hb => hh b (hFA b (.inr hb))
            have hdeep : DeepAt G' w'.heap u (l.set j y) (some p) := by
              refine ⟨c, e, fz, by rw [hin p.b p.b_mem hp0]; exact k1, k2, k3, by simpa using k4, by simpa using k5, hnd0, k7, fun k x' qs' hk hq => ?_⟩
              by_cases hkj : k = j
              · subst hkj
                rw [List.getElem?_set_self hjl] at hk
                cases hk
                rw [hinn] at hq
                cases hq
                refine ⟨es, g7 G' w'.heap r0.2 y hset hlen harr hG hGh (fun b hb hne => ?_) ?_, hces⟩
                · obtain ⟨q, hq, rfl⟩ := hflat hinn b hb
                  exact hin q.b (List.mem_cons_of_mem _ (Pl.ibs_mem (List.mem_of_getElem? hinn) hq)) hne
                · rw [blks_flat (fun q hq' => k7 q (List.mem_flatten.2 ⟨_, List.mem_of_getElem? hinn, hq'⟩))]
                  obtain ⟨A, B, e1, _⟩ := ibs_set (show k < p.inn.length by omega) []
                  have hn := k6.2
                  simp only [Pl.ibs, e1, List.filterMap_append, List.map_append] at hn
                  exact (List.nodup_append.1 (List.nodup_append.1 hn).1).2.1
              · rw [List.getElem?_set_ne (fun e => hkj e.symm)] at hk
                obtain ⟨es', h4, h5⟩ := k8 k x' qs' hk hq
                refine ⟨es', OwnRd.move hG hGh (fun b hb => ?_) h4, h5⟩
                obtain ⟨q, hq', rfl⟩ := hflat hq b hb
                exact hin q.b (List.mem_cons_of_mem _ (Pl.ibs_mem (List.mem_of_getElem? hq) hq')) fun q2 hq2 => ibs_disj k6.2 hq hinn hkj hq' (hq2 ▸ g2)
            have hG' : ∀ b ∈ p.bs, ¬ G' b := by
              intro b hb hGb
              by_cases hne : ∀ q, π = some q → b ≠ q.b
              · rcases hnew b hGb with h | h
                · exact (hblk b hb).2 (.inr h)
                · exact h.1 ⟨(hblk b hb).1, hne⟩
              · simp only [Classical.not_forall, Classical.not_not] at hne
                obtain ⟨q, hq, rfl⟩ := hne
                exact (hpsG _ ((hbl _).2 ⟨q, hq, rfl⟩)).1 hGb
            obtain ⟨i2, fr⟩ := i.lendback (s2 := { s with sto := upd s.sto id (some (.deep u (l.set j y) (some n))) }) (G' := G') (idl := [id]) rfl rfl (fun k hk => upd_ne _ _ (by simpa using hk)) (fun k hk => by
              simp only [List.mem_singleton] at hk
              subst hk
              refine ⟨_, _, hsto, upd_same _ _ _, .inr ⟨u, l, l.set j y, some n, rfl, rfl, by simp, by rw [hp]; exact hdeep, fun q hq k off hk hfl => ?_⟩, fun q hq b hb => ?_⟩
              · rw [hp] at hq
                cases hq
                unfold hcell
                rw [hin p.b p.b_mem hp0]
              · rw [hp] at hq
                cases hq
                exact ⟨hG' b hb, Nat.lt_of_lt_of_le (hblk b hb).1 hsz⟩) hFA (fun k e q hk => hPA' k e q (by simpa using hk)) hsz (ht.str hstr) hh hG hnew
            obtain ⟨hrows, hslot⟩ := regSlot_ok (key := siteKey (dst.getD 0)) hres
            have hF : ∀ b ∈ blks qs, ¬ (F0 b ∨ G' b) ∧ b < w'.heap.size ∧ ∀ k e q, ({ s with sto := upd s.sto id (some (.deep u (l.set j y) (some n))) } : St).sto k = some e → pl k = some q → b ∉ e.bs q := by
              intro b hb
              obtain ⟨n1, n2, n3⟩ := hfresh b hb
              refine ⟨fun h => ?_, n3, fun k e q hk hq hbq => ?_⟩
              · rcases h with h | h
                · exact n1 (hFA _ (.inl h))
                · exact n2 h
              · have hk : upd s.sto id (some (.deep u (l.set j y) (some n))) k = some e := hk
                by_cases hkid : k = id
                · subst hkid
                  rw [upd_same] at hk
                  cases hk
                  rw [hp] at hq
                  cases hq
                  by_cases hne : ∀ q, π = some q → b ≠ q.b
                  · exact n1 ⟨(hblk b hbq).1, hne⟩
                  · simp only [Classical.not_forall, Classical.not_not] at hne
                    obtain ⟨q, hq, rfl⟩ := hne
                    exact (hpsG _ ((hbl _).2 ⟨q, hq, rfl⟩)).2 hb
                · rw [upd_ne _ _ hkid] at hk
                  exact n1 (hPA' k e q hkid hk hq b hbq)
            rw [T.run_bind] at h
            obtain ⟨s', pl', n1, n2, n3, n4⟩ := allocAll_ok i2 hrows hF hndq h
            obtain ⟨s'', n5, n6, _⟩ := put_ok n2 (hslot _ rfl rfl n3) n1
            exact ⟨s'', G', pl', n5, n6, fr⟩
          · simp at h
        · simp at h
      · simp at h
  · simp at h

theorem box_ok (good : Good C) (hbox : BoxOk C callF) {R : Type} {F0 : Fr0} {G : Nat → Prop} {s : St} {a : Act} {w : World} {pl : Nat → Option Pl} {κ : St → Option R} {r : R} {Q : Exit → Act → World → Prop} {g : Operand} {args : Array Operand} {argTypes : Array TypeId}
    {f : FuncId} {vs : List Comp} {caps : List Cap} {i0 id : Nat} (i : Inv F0 G s a w pl) (ht : TabF C w F0) (hvs : compsOf s args.toList = some vs) (hvi : vs[i0]? = some (.cell (.ptr id 0)))
    (hg : CellRel (mem F0 G w.heap s.sto pl) (.clo f caps) (a.eval g))
    (h : (callBox C s ⟨dst, .call ⟨.value g, args, argTypes⟩, type, pos, after, guard⟩ f vs caps i0 id).run callF κ = some r) :
    (⟨dst, .call ⟨.value g, args, argTypes⟩, type, pos, after, guard⟩ : Oper).wp C.P a w (Nxt F0 G w κ r) Q := by
  obtain ⟨hal, har⟩ := compsOf_ok i hvs
  unfold callBox at h
  split at h
  · rename_i fn T0 cs hfn hsto
    split at h
    · rename_i x ids hof
      cases hnd0 : (nodup ids && (T0.ob || ids.isEmpty)) with
      | false => rw [hnd0] at h; cases h
      | true =>
        rw [hnd0] at h
        simp only [cond_true] at h
        rw [Bool.and_eq_true] at hnd0
        obtain ⟨hnd, hob⟩ := hnd0
        split at h
        · rename_i as cas rt has hcas hrt
          split at h
          · simp at h
          rename_i hdp
          simp only [argDeep, Bool.or_eq_true, not_or, Bool.not_eq_true] at hdp
          simp only [T.run] at h
          rw [Option.bind_eq_some_iff] at h
          obtain ⟨r0, hr0, h⟩ := h
          have hi0 : i0 < (args.toList.map a.eval).length := by rw [hal]; exact (List.getElem?_eq_some_iff.1 hvi).1
          obtain ⟨u0, hu0⟩ : ∃ u0, (args.toList.map a.eval)[i0]? = some u0 := ⟨_, List.getElem?_eq_getElem hi0⟩
          obtain ⟨t9, cs9, p, hs9, hp, hpo, hu⟩ := har i0 _ u0 hvi hu0
          have hs9 : s.sto id = some (.box t9 cs9) := hs9
          rw [hsto] at hs9
          cases hs9
          have hp : pl id = some p := hp
          have hent := i.sto.ent id _ hsto
          obtain ⟨p', c, e, fz, hp', ho, hhp, hfz, hsz0, hcs, hty, hrel, hnF⟩ := hent
          have hp' : pl id = some p' := hp'
          rw [hp] at hp'
          cases hp'
          have hhp : w.heap[p.b]? = some (.cells c e fz) := hhp
          have hnF : ¬ (F0 p.b ∨ G p.b) := hnF
          have hcT : c.size = T0.sz := by rw [hcs]; exact hty T0 rfl
          obtain ⟨⟨ps, hown, hblk⟩, live⟩ := ofCells_ob i.sto hof hob hrel
          have live : ∀ j ∈ ids, Lv s.sto .give j := live
          have hbl : ∀ b, b ∈ blks ps ↔ ∃ j ∈ ids, ∃ p, pl j = some p ∧ b ∈ p.bs := by
            intro b
            rw [hblk]
            simp only [List.mem_flatMap, List.mem_filterMap]
            exact ⟨fun ⟨p, ⟨j, hj, hp⟩, hb⟩ => ⟨j, hj, p, hp, hb⟩, fun ⟨j, hj, p, hp, hb⟩ => ⟨p, ⟨j, hj, hp⟩, hb⟩⟩
          have hfree : ∀ b ∈ blks ps, ¬ (F0 b ∨ G b) ∧ b < w.heap.size := by
            intro b hb
            obtain ⟨j, hj, q, hq, hbq⟩ := (hbl b).1 hb
            obtain ⟨e, he, k1, _, k2⟩ := (live j hj).bs i.sto hq
            exact ⟨k2 rfl b hbq, i.sto.lt_bs he hq b (k1 ▸ hbq)⟩
          have hid : id ∉ ids := fun hm => (live id hm).nobox _ _ hsto
          have hpps : p.b ∉ blks ps := fun hb => by
            obtain ⟨j, hj, q, hq, hbq⟩ := (hbl _).1 hb
            obtain ⟨e2, he2, k1, _, _⟩ := (live j hj).bs i.sto hq
            exact i.sto.apart' id j _ e2 p q hsto he2 (fun e => hid (e ▸ hj)) hp hq p.b (Entry.b_mem _ p) (k1 ▸ hbq)
          obtain ⟨i1, old, kr⟩ := i.dropAll (nodup_spec hnd) (fun j hj => (live j hj).nobox)
          obtain ⟨cs1, hs1⟩ := dropAll_box (ids := ids) hid hsto
          obtain ⟨i2, fk, old2⟩ := i1.forget hs1
          have hFA : ∀ b, F0 b ∨ G b → (b < w.heap.size ∧ b ∉ blks ps ∧ b ≠ p.b) := fun b hb => ⟨i.sto.lt b hb, fun h => (hfree b h).1 hb, fun e => hnF (e ▸ hb)⟩
          have hPA1 : ∀ j e q, j ≠ id → (s.dropAll ids).sto j = some e → pl j = some q → ∀ b ∈ e.bs q, (b < w.heap.size ∧ b ∉ blks ps ∧ b ≠ p.b) := by
            intro j e q hne he hq b hb
            obtain ⟨hj, e', he', hbs⟩ := old j e he
            rw [hbs q] at hb
            refine ⟨i.sto.lt_bs he' hq b hb, fun h => ?_, fun h => ?_⟩
            · obtain ⟨k, hk, q2, hq2, hbq⟩ := (hbl b).1 h
              obtain ⟨e2, he2, k1, _, _⟩ := (live k hk).bs i.sto hq2
              exact i.sto.apart' j k e' e2 q q2 he' he2 (fun e => hj (e ▸ hk)) hq hq2 b hb (k1 ▸ hbq)
            · exact i.sto.apart' j id e' _ q p he' hsto hne hq hp b hb (by rw [h]; exact Entry.b_mem _ p)
          have hPA : ∀ j e q, ((s.dropAll ids).forget id).sto j = some e → pl j = some q → ∀ b ∈ e.bs q, (b < w.heap.size ∧ b ∉ blks ps ∧ b ≠ p.b) := by
            intro j e q he hq b hb
            obtain ⟨hj, e', he', hbs⟩ := old2 j e he
            exact hPA1 j e' q hj he' hq b (hbs q ▸ hb)
          obtain ⟨m1, m2, m3⟩ := toArgsL_ok (A := fun b => b < w.heap.size ∧ b ∉ blks ps ∧ b ≠ p.b) (us := args.toList.map a.eval) i2 hFA hPA has (by simpa using hal) (fun j c u hj hu => by
            rw [List.getElem?_map] at hj
            obtain ⟨c', hc', rfl⟩ := Option.map_eq_some_iff.1 hj
            exact fk _ u (kr c' u (har j c' u hc' hu))) hdp.1
          have hai := m3 i0 (by omega) (by rw [← m1]; exact hi0)
          rw [Option.bind_eq_some_iff] at hcas
          obtain ⟨caps', hcaps', hmap⟩ := hcas
          have hnp : caps.any (Cap.isPtr id) = false := by
            cases hb : caps.any (Cap.isPtr id) with
            | false => rfl
            | true =>
              obtain ⟨cp, hm, hcp⟩ := List.any_eq_true.1 hb
              obtain ⟨c', hc'⟩ := capsRo_mem hcaps' cp hm
              cases cp with
              | ro _ _ => simp [Cap.isPtr] at hcp
              | ptr k =>
                have : k = id := Nat.eq_of_beq_eq_true hcp
                subst this
                have hn : ((s.dropAll ids).forget k).sto k = none := by
                  show upd (fun j => ((s.dropAll ids).sto j).map (·.forget k)) k none k = none
                  exact upd_same _ _ _
                simp [capRo, hn] at hc'
          have hg2 : CompRel (mem F0 G w.heap ((s.dropAll ids).forget id).sto pl) (.cell (.clo f caps)) (a.eval g) := by
            have h1 := fk _ _ (kr (.cell (.clo f caps)) (a.eval g) hg)
            rw [killAll_clo] at h1
            have h1 : CellRel _ (Cell.forget id (.clo f caps)) _ := h1
            simp only [Cell.forget, hnp, cond_false] at h1
            exact h1
          obtain ⟨cvs, hgv, hcl, hcr⟩ := hg2
          have hcp := capsRo_ok (A := fun b => b < w.heap.size ∧ b ∉ blks ps ∧ b ≠ p.b) (Gc := G) i2 (fun _ h => h) hFA hPA hcaps' hcl hcr (fun hd => by rw [hdp.2] at hd; cases hd)
          have hca := capArgs_ok hmap hcp.1 hcp.2
          have hcio := capArgs_io hmap
          have hai' : (as ++ cas)[i0]? = some (.ioBox T0 x) := by rw [List.getElem?_append_left (by rw [← m1]; exact hi0)]; exact hai
          obtain ⟨hbody, hc⟩ := hbox f fn rt T0 x i0 (as ++ cas) r0 hfn hr0 hai'
          have hnd' : (blks ps).Nodup := by rw [hblk]; exact blocks_nodup i.sto (nodup_spec hnd) live
          have hc := hc w (fun b => b < w.heap.size ∧ b ∉ blks ps ∧ b ≠ p.b) G (args.toList.map a.eval ++ cvs) p.b ps (fun b hb => hb.1) (fun b hb => hFA b (.inr hb)) (ht.1.more fun b hb => hFA b (.inl hb))
            (by rw [List.length_append, List.length_append, m1, hca.1]) (by rw [List.getElem?_append_left hi0, hu0, hu])
            ⟨⟨c, e, fz, hhp, hfz, hcT, hown⟩, fun b hb => by
              rcases List.mem_cons.1 hb with rfl | hb
              · exact ⟨fun h => h.2.2 rfl, i.sto.lt_pl hsto hp⟩
              · exact ⟨fun h => h.2.1 hb, (hfree b hb).2⟩, List.nodup_cons.2 ⟨hpps, hnd'⟩⟩ (fun j a' v' hne hj hv' => by
              by_cases hlt : j < as.length
              · rw [List.getElem?_append_left hlt] at hj
                rw [List.getElem?_append_left (by omega)] at hv'
                exact m2 j a' v' (by omega) hj hv'
              · rw [List.getElem?_append_right (by omega)] at hj
                rw [List.getElem?_append_right (by omega), m1] at hv'
                exact ⟨hcio a' (List.mem_of_getElem? hj), hca.2 _ a' v' hj hv'⟩)
          have hname : (fn.name == "runtime.NumGoroutine") = false := by
            have := Array.all_eq_true.1 good.names
            obtain ⟨hlt, hget⟩ := Array.getElem?_eq_some_iff.1 hfn
            have := this f hlt
            rw [hget] at this
            simpa using this
          have hexec : (execOp a.eval ⟨dst, .call ⟨.value g, args, argTypes⟩, type, pos, after, guard⟩).run C.P w = .ok (.enter f (args.toList.map a.eval ++ cvs).toArray) w := by
            have hb : fn.body.isNone = false := by cases hb : fn.body <;> simp [hb] at hbody ⊢
            simp only [execOp, resolve, Sem.run_bind, hgv, Deferred.ofValue, Sem.run_pure, Result.andThen_ok, invoke, callFunc, run_program, hfn, hname, hb, Bool.false_eq_true, if_false]
            congr 2
            apply Array.ext'
            simp
          unfold Oper.wp
          rw [hexec]
          refine Calls.mono hc fun e1 w' hpost => ?_
          obtain ⟨v', G', qs, ps', rfl, hsz, hstr, hh, hG, hnew, hres, ⟨c1, e2, fz1, hh1, hfz1, hc1, hown1⟩, hfresh, hndq, hpG⟩ := hpost
          show Nxt F0 G w κ r (a.put dst v') w'
          obtain ⟨i3, fr⟩ := i1.boxback (G' := G') (A := fun b => b < w.heap.size ∧ b ∉ blks ps ∧ b ≠ p.b) hs1 hp hpo hh1 hfz1 (by rw [hc1, ← hcT]; exact hsz0) hown1.one hpG hFA hPA1 hsz (ht.str hstr) hh hG hnew
          rw [hc1] at i3
          obtain ⟨hrows2, hcells⟩ := regCells_ok (key := ioKey id) 0 hown1
          obtain ⟨hrows, hslot⟩ := regSlot_ok (key := siteKey (dst.getD 0)) hres
          generalize hrc : regCells T0.ob (ioKey id) T0 r0.2 0 = rc at h hrows2 hcells
          obtain ⟨bc, es2, jj⟩ := rc
          generalize hrs : regSlot true (Nat.beq fn.resultTypes.size 1) (siteKey (dst.getD 0)) rt r0.1 = rs at h hrows hslot
          obtain ⟨v, es⟩ := rs
          simp only at h hrows2 hcells hrows hslot
          rw [T.run_bind] at h
          have hbb : ∀ b, b ∈ blks (ps' ++ qs) → b ∈ blks qs ++ blks ps' := fun b hb => by
            simp only [blks, List.filterMap_append, List.flatMap_append, List.mem_append] at hb ⊢
            exact hb.symm
          have hF : ∀ b ∈ blks (ps' ++ qs), ¬ (F0 b ∨ G' b) ∧ b < w'.heap.size ∧ ∀ j e q, ({ s.dropAll ids with sto := upd (s.dropAll ids).sto id (some (.box none (List.replicate T0.sz .undef))) } : St).sto j = some e → pl j = some q → b ∉ e.bs q := by
            intro b hb
            obtain ⟨n1, n2, n3, n4⟩ := hfresh b (hbb b hb)
            refine ⟨fun h => ?_, n3, fun j e q hj hq hbq => ?_⟩
            · rcases h with h | h
              · exact n1 (hFA _ (.inl h))
              · exact n2 h
            · have hj : upd (s.dropAll ids).sto id (some (.box none (List.replicate T0.sz .undef))) j = some e := hj
              by_cases hji : j = id
              · subst hji
                rw [upd_same] at hj
                cases hj
                rw [hp] at hq
                cases hq
                simp only [Entry.bs, List.mem_singleton] at hbq
                exact n4 hbq
              · rw [upd_ne _ _ hji] at hj
                exact n1 (hPA1 j e q hji hj hq b hbq)
          have hnd2 : (blks (ps' ++ qs)).Nodup := by
            have : blks (ps' ++ qs) = blks ps' ++ blks qs := by simp [blks, List.filterMap_append, List.flatMap_append]
            rw [this]
            obtain ⟨k1, k2, k3⟩ := List.nodup_append.1 hndq
            exact List.nodup_append.2 ⟨k2, k1, fun x hx y hy e => k3 y hy x hx e.symm⟩
          obtain ⟨s4, pl4, n1, i4, n3, n4⟩ := allocAll_ok i3 (hrows2.append hrows) hF hnd2 h
          obtain ⟨hb4, hpl4⟩ := n4 id _ (upd_same _ _ _)
          have hp4 : pl4 id = some p := hpl4.trans hp
          have hrl : CellsRel (mem F0 G' w'.heap s4.sto pl4) bc c1.toList := hcells _ rfl rfl (n3.left hrows2.1)
          obtain ⟨i5, _⟩ := i4.write (w' := w') (E' := .box (some T0) bc) hb4 hp4 (by
            intro h
            rcases h with h | h
            · exact hnF (.inl h)
            · exact hpG h) rfl (Str.refl _ _) (fun _ _ => rfl) trivial (fun g5 => ⟨p, c1, e2, fz1, rfl, hpo, hh1, hfz1, by rw [hc1, ← hcT]; exact hsz0, by have := hrl.1; simpa using this, fun u hu => (by cases hu; rw [← hc1]; have := hrl.1; simpa using this.symm), g5.cells (fun _ _ _ _ h => h) hrl, fun h => by
              rcases h with h | h
              · exact hnF (.inl h)
              · exact hpG h⟩)
          have hne : ∀ {k : Nat} {e9 : Entry} {m : Nat}, es[m]? = some (k, e9) → k ≠ id := by
            intro k e9 m hm hk
            subst hk
            have hlt : m < qs.length := by rw [← hrows.1]; exact (List.getElem?_eq_some_iff.1 hm).1
            obtain ⟨h8, _⟩ := n3.right hrows2.1 m k e9 qs[m] hm (List.getElem?_eq_getElem hlt)
            have h8 : s4.sto k = some e9 := h8
            rw [hb4] at h8
            rcases hrows.2 m k e9 qs[m] hm (List.getElem?_eq_getElem hlt) with ⟨_, _, he9, _⟩ | ⟨_, _, he9, _⟩ <;> (subst he9; cases h8)
          obtain ⟨s'', n5, n6, _⟩ := put_ok i5 (hslot _ rfl rfl (fun m k e9 π hm hπ => by
            obtain ⟨h8, h9⟩ := n3.right hrows2.1 m k e9 π hm hπ
            exact ⟨(upd_ne _ _ (hne hm)).trans h8, h9⟩)) n1
          exact ⟨s'', G', pl4, n5, n6, fr⟩
        · simp at h
    · simp at h
  · simp at h

theorem mk_ok (good : Good C) (hmake : MkOk C callF) {R : Type} {F0 : Fr0} {G : Nat → Prop} {s : St} {a : Act} {w : World} {pl : Nat → Option Pl} {κ : St → Option R} {r : R} {Q : Exit → Act → World → Prop} {g : Operand} {args : Array Operand} {argTypes : Array TypeId}
    {f : FuncId} {vs : List Comp} (hmk : (C.sig f).isMk = true) (i : Inv F0 G s a w pl) (ht : TabF C w F0) (hvs : compsOf s args.toList = some vs) (hgv : a.eval g = .func (.func f) #[] #[])
    (h : (callMk C s ⟨dst, .call ⟨.value g, args, argTypes⟩, type, pos, after, guard⟩ f vs).run callF κ = some r) :
    (⟨dst, .call ⟨.value g, args, argTypes⟩, type, pos, after, guard⟩ : Oper).wp C.P a w (Nxt F0 G w κ r) Q := by
  obtain ⟨hal, har⟩ := compsOf_ok i hvs
  unfold callMk at h
  split at h
  · rename_i fn d hfn hdst
    split at h
    · rename_i as has
      split at h
      · simp at h
      · rename_i hio
        simp only [Bool.or_eq_true, not_or, Bool.not_eq_true] at hio
        obtain ⟨hio, hdp⟩ := hio
        simp only [T.run] at h
        rw [Option.bind_eq_some_iff] at h
        obtain ⟨r0, hr0, h⟩ := h
        have hFA : ∀ b, F0 b ∨ G b → b < w.heap.size := fun b hb => i.sto.lt b hb
        have hPA : ∀ id e p, s.sto id = some e → pl id = some p → ∀ b ∈ e.bs p, b < w.heap.size := fun id e p he hp b hb => i.sto.lt_bs he hp b hb
        simp only [argDeep, Bool.or_eq_false_iff] at hdp
        have hargs := toArgs_ok i (fun _ h => h) hFA hPA (fun b hb => hFA b (.inr hb)) has hio hal har (fun h => by rw [hdp.1] at h; cases h)
        have hone : IoOne as := fun x y b c hx hy hb _ => by
          exfalso
          rw [toArgs_io has hio b (List.mem_of_getElem? hx)] at hb
          cases hb
        obtain ⟨hbody, hc⟩ := hmake f fn _ as r0 hfn hr0 hmk
        have hc := hc w (fun b => b < w.heap.size) G (args.toList.map a.eval) (fun b hb => hb) (fun b hb => hFA b (.inr hb)) (ht.1.more fun b hb => hFA b (.inl hb)) hone hargs
        have hname : (fn.name == "runtime.NumGoroutine") = false := by
          have := Array.all_eq_true.1 good.names
          obtain ⟨hlt, hget⟩ := Array.getElem?_eq_some_iff.1 hfn
          have := this f hlt
          rw [hget] at this
          simpa using this
        have hexec : (execOp a.eval ⟨dst, .call ⟨.value g, args, argTypes⟩, type, pos, after, guard⟩).run C.P w = .ok (.enter f (args.toList.map a.eval).toArray) w := by
          have hb : fn.body.isNone = false := by cases hb : fn.body <;> simp [hb] at hbody ⊢
          simp only [execOp, resolve, Sem.run_bind, hgv, Deferred.ofValue, Sem.run_pure, Result.andThen_ok, invoke, callFunc, run_program, hfn, hname, hb, Bool.false_eq_true, if_false]
          congr 2
          apply Array.ext'
          simp
        unfold Oper.wp
        rw [hexec]
        refine Calls.mono hc fun e1 w' hpost => ?_
        obtain ⟨pb, G', rfl, hsz, hstr, hh, hG, hnew, ⟨c, e, fz, hh1, hfz1, hc1, hown1⟩, hpA, hpG⟩ := hpost
        show Nxt F0 G w κ r (a.put dst _) w'
        obtain ⟨i2, fr⟩ := i.grow2 hFA hPA hsz (ht.str hstr) hh hG hnew
        obtain ⟨hrows2, hcells⟩ := regCells_ok (key := siteKey d) 0 hown1
        generalize hrc : regCells false (siteKey d) (C.sig f).made r0 0 = rc at h hrows2 hcells
        obtain ⟨bc, es2, jj⟩ := rc
        simp only at h hrows2 hcells
        rw [T.run_bind] at h
        obtain ⟨hk, h⟩ := alloc_some h
        have hes : es2 = [] := List.length_eq_zero_iff.1 hrows2.1
        subst hes
        have hnF : ¬ (F0 pb ∨ G' pb) := fun h => by
          rcases h with h | h
          · exact hpA (hFA _ (.inl h))
          · exact hpG h
        have hrl : CellsRel (mem F0 G' w'.heap s.sto pl) bc c.toList := hcells _ rfl rfl (fun i k e π hi => by simp at hi)
        have hlen : c.size = bc.length := by have := hrl.1; simpa using this
        have i3 := i2.add (key := siteKey d 0) (E := .box (some (C.sig f).made) bc) (π := some { b := pb, o := 0, size := c.size, inn := [] }) hk
          ⟨_, c, e, fz, rfl, rfl, hh1, hfz1, rfl, hlen, fun u hu => (by cases hu; rw [← hlen]; exact hc1), hrl, hnF⟩
          (fun id e' p q hid hp hq b hb hb' => by
            cases hq
            simp only [Entry.bs, List.mem_singleton] at hb'
            subst hb'
            exact hpA (hPA id e' p hid hp _ hb))
        obtain ⟨s'', k5, k6, _⟩ := put_ok (v := .cell (.ptr (siteKey d 0) 0)) (u := .pointer (some ⟨pb, 0, none⟩)) i3 ⟨_, _, _, upd_same _ _ _, upd_same _ _ _, rfl, rfl⟩ h
        rw [show dst = some d from hdst]
        exact ⟨s'', G', _, k5, k6, fr⟩
    · simp at h
  · simp at h

theorem ok_call (good : Good C) (hcalls : CallsOk C callF) (g : Operand) (args : Array Operand) (argTypes : Array TypeId) : OpOk C callF ⟨dst, .call ⟨.value g, args, argTypes⟩, type, pos, after, guard⟩ := by
  intro R F0 G s a w pl κ r Q i ht h
  simp only [opT] at h
  split at h
  · rename_i f caps vs hsg hvs
    have hg := i.slot g
    rw [hsg] at hg
    obtain ⟨cvs, hgv, hcl, hcr⟩ := hg
    obtain ⟨hal, har⟩ := compsOf_ok i hvs
    have hcall := hcalls.1
    unfold callOp at h
    split at h
    · rename_i il hil
      cases hmk : (C.sig f).isMk with
      | true =>
        rw [hmk] at h
        simp only [cond_true] at h
        split at h
        · obtain rfl : cvs = [] := List.length_eq_zero_iff.1 hcl
          simp only [St.ev] at hsg
          cases hsg
          exact mk_ok good hcalls.2.2.2 hmk i ht hvs hgv h
        · simp at h
      | false =>
      rw [hmk] at h
      simp only [cond_false] at h
      split at h
      · rename_i id hvi
        have hcl : CellRel (mem F0 G w.heap s.sto pl) (.clo f caps) (a.eval g) := by have hh := i.slot g; rw [hsg] at hh; exact hh
        split at h
        · exact box_ok good hcalls.2.2.1 i ht hvs hvi hcl h
        · cases hlo : Oper.lends ⟨dst, .call ⟨.value g, args, argTypes⟩, type, pos, after, guard⟩ C with
          | false => rw [hlo] at h; simp at h
          | true => rw [hlo] at h; exact box_ok good hcalls.2.2.1 i ht hvs hvi hcl h
      · rename_i id j off hvi
        cases g <;> simp only [T.run_fail] at h <;> try (cases h; done)
        simp only [St.ev] at hsg
        cases hsg
        exact inn_ok good hcalls.2.1 i ht hvs hvi h
      · cases g <;> simp only [T.run_fail] at h <;> try (cases h; done)
        simp only [St.ev] at hsg
        cases hsg
        exact lend_ok good hcalls.2.1 i ht hvs h
    rename_i hil
    have hmk : (C.sig f).isMk = false := by unfold Sig.isMk; rw [hil]
    split at h
    · unfold callOld at h
      split at h
      · rename_i dst' fn hfn
        simp only at h
        split at h
        · rename_i as cas rt has hcas hrt
          split at h
          · simp at h
          · rename_i hio
            simp only [Bool.or_eq_true, Bool.and_eq_true, Bool.not_eq_true', not_or, not_and, Bool.not_eq_true, Bool.not_eq_false] at hio
            obtain ⟨hio, hcut⟩ := hio
            simp only [T.run] at h
            rw [Option.bind_eq_some_iff] at h
            obtain ⟨r0, hr0, h⟩ := h
            rw [Option.bind_eq_some_iff] at hcas
            obtain ⟨caps', hcaps', hmap⟩ := hcas
            have hFA : ∀ b, F0 b ∨ G b → b < w.heap.size := fun b hb => i.sto.lt b hb
            have hPA : ∀ id e p, s.sto id = some e → pl id = some p → ∀ b ∈ e.bs p, b < w.heap.size := fun id e p he hp b hb => i.sto.lt_bs he hp b hb
            obtain ⟨Gc, hGc, hGA, hcutG, hDa, hDc, hSo⟩ : ∃ Gc : Nat → Prop, (∀ b, G b → Gc b) ∧ (∀ b, Gc b → b < w.heap.size) ∧ (Gc = G ∨ ((C.sig f).own = true ∧ rt.cut = true)) ∧ (vs.any (fun v => v.cells.any (cellDeep s)) = true → DeepIn s pl Gc) ∧ (caps.any (capDeep s) = true → DeepIn s pl Gc) ∧ (C.solids.contains f = true → ∀ b, b < w.heap.size → Gc b) := by
              cases hso : C.solids.contains f with
              | true =>
                exact ⟨fun b => b < w.heap.size, fun b hb => hFA b (.inr hb), fun _ h => h, .inr (hcut (.inr hso)), fun _ id t l n p h1 h2 b hb => i.sto.lt_bs h1 h2 b (List.mem_cons_of_mem _ hb), fun _ id t l n p h1 h2 b hb => i.sto.lt_bs h1 h2 b (List.mem_cons_of_mem _ hb), fun _ _ h => h⟩
              | false =>
              cases hd : argDeep s vs caps with
              | false =>
                simp only [argDeep, Bool.or_eq_false_iff] at hd
                exact ⟨G, fun _ h => h, fun b hb => hFA b (.inr hb), .inl rfl, fun h => (by rw [hd.1] at h; cases h), fun h => (by rw [hd.2] at h; cases h), fun h => (by cases h)⟩
              | true =>
                refine ⟨fun b => G b ∨ ∃ id t l n p, s.sto id = some (.deep t l n) ∧ pl id = some p ∧ b ∈ p.ibs, fun b hb => .inl hb, fun b hb => ?_, .inr (hcut (.inl hd)), fun _ id t l n p h1 h2 b hb => .inr ⟨id, t, l, n, p, h1, h2, hb⟩, fun _ id t l n p h1 h2 b hb => .inr ⟨id, t, l, n, p, h1, h2, hb⟩, fun h => (by cases h)⟩
                rcases hb with hb | ⟨id, t, l, n, p, h1, h2, hb⟩
                · exact hFA b (.inr hb)
                · exact i.sto.lt_bs h1 h2 b (List.mem_cons_of_mem _ hb)
            have hcp := capsRo_ok i hGc hFA hPA hcaps' hcl hcr hDc
            have hargs0 := toArgs_ok i hGc hFA hPA hGA has hio hal har hDa
            have hsol : ArgsRel (fun b => b < w.heap.size) Gc w.heap (C.solidArgs f as) (args.toList.map a.eval) ∧ ∀ b ∈ C.solidArgs f as, b.isIo = false := by
              unfold Cfg.solidArgs
              cases hso : C.solids.contains f with
              | true =>
                simp only [cond_true]
                refine ⟨hargs0.solid (hSo hso), fun b hb => ?_⟩
                obtain ⟨b', hb', rfl⟩ := List.mem_map.1 hb
                have := toArgs_io has hio b' hb'
                cases b' <;> first | rfl | exact this
              | false => exact ⟨hargs0, fun b hb => toArgs_io has hio b hb⟩
            have hargs := hsol.1.append (capArgs_ok hmap hcp.1 hcp.2)
            rw [T.run_bind] at h
            refine enter_ok good hcall hfn hmk hr0 i ht (fun b hb => hb) hFA hPA hGc hGA hcutG (fun x y b c hx hy hb _ => ?_) hargs hgv rfl h
            exfalso
            rcases List.mem_append.1 (List.mem_of_getElem? hx) with hm | hm
            · rw [hsol.2 b hm] at hb; cases hb
            · rw [capArgs_io hmap b hm] at hb; cases hb
        · simp at h
      · simp at h
    · rename_i x rr hsig
      cases g <;> simp only [T.run_fail] at h <;> try (cases h; done)
      simp only [St.ev] at hsg
      cases hsg
      exact give_ok good hcall hmk i ht hvs h
  · simp at h

/-- An element is taken out of a row whose rows are owned. -/
theorem ok_take (good : Good C) (t : TypeId) (x : Operand) (htk : C.take dst t = true) : OpOk C callF ⟨dst, .load t x, type, pos, after, guard⟩ := by
  intro R F0 G s a w pl κ r Q i ht h
  simp only [opT, htk, cond_true] at h
  unfold takeT at h
  have hx := i.slot x
  split at h
  · rename_i u id ix d hu hs
    rw [hs] at hx
    split at h
    · rename_i hagg
      split at h
      · rename_i v l0 hse
        split at h
        · rename_i l hcl
          obtain ⟨rfl, hl⟩ := castList_some hcl
          have hl : l0 = l := hl
          subst hl
          obtain ⟨t', l', n', p, hs', hix, hpl, hv⟩ := hx
          have hs' : s.sto id = some (.deep t' l' n') := hs'
          rw [hse] at hs'
          cases hs'
          obtain ⟨hd, hrest⟩ := i.sto.ent id _ hse
          have hpl : pl id = some p := hpl
          rw [show (mem F0 G w.heap s.sto pl).pl id = some p from hpl] at hd
          obtain ⟨c, e, fz, hh, hfz, hsz, hlen, k5, k6, k7, k8⟩ := hd
          obtain ⟨hown, _⟩ := hrest p hpl
          obtain ⟨es, hes, hj⟩ := k8 ix _ _ (getD_of (d := v.dflt) hix) (List.getElem?_eq_getElem (by omega : ix < p.inn.length))
          have hqm : p.inn[ix]'(by omega) ∈ p.inn := List.getElem_mem _
          generalize hqs : p.inn[ix]'(by omega) = qs at hes hqm
          have hcell : ∀ j x, es[j]? = some x → hcell w.heap p.b (p.o + ix * v.sz + j) = some x := fun j x hjx => by
            unfold hcell
            rw [show w.heap[p.b]? = _ from hh]
            exact hj j x hjx
          have hsh : C.shape t = some (v.sz, true) := by
            have : C.ty t = some v := hu
            unfold Cfg.ty at this
            unfold Cfg.shape
            cases hass : assoc C.tt t with
            | none => rw [hass] at this; cases this
            | some o =>
              rw [hass] at this
              obtain rfl : o = some v := this
              show some (v.sz, v.isAgg) = _
              rw [hagg]
          have hval : ValIs true es (.agg es.toArray) := by unfold ValIs; simp
          have hexec : (execOp a.eval ⟨some d, .load t x, type, pos, after, guard⟩).run C.P w = .ok (.value (.agg es.toArray)) w := by
            have hv : a.eval x = .pointer (some ⟨p.b, p.o + ix * v.sz, none⟩) := hv
            simp only [execOp, Sem.run_bind, hv, run_loadAt good hsh hcell hes.len hval, Result.andThen_ok, Sem.run_pure]
          obtain ⟨i2, _, hold⟩ := i.drop (id := id) (fun t cs hb => by rw [hse] at hb; cases hb)
          have hflat : ∀ q, some q ∈ qs → q.inn = [] := fun q hq => k7 q (List.mem_flatten.2 ⟨qs, hqm, hq⟩)
          have hsub : ∀ b ∈ blks qs, b ∈ p.bs := fun b hb => by
            rw [blks_flat hflat] at hb
            obtain ⟨q, hq, rfl⟩ := List.mem_map.1 hb
            obtain ⟨o, ho, hoq⟩ := List.mem_filterMap.1 hq
            have hoq : o = some q := hoq
            subst hoq
            exact List.mem_cons_of_mem _ (Pl.ibs_mem hqm ho)
          have hnd : (blks qs).Nodup := by
            rw [blks_flat hflat]
            have h1 : (p.ibs).Nodup := (List.nodup_cons.1 k6).2
            unfold Pl.ibs at h1
            exact (((List.sublist_flatten_of_mem hqm).filterMap _root_.id).map Pl.b).nodup h1
          obtain ⟨hrows, hcells⟩ := regCells_ok (key := siteKey d) 0 hes
          generalize regCells true (siteKey d) v (l0.getD ix v.dflt) 0 = rc at h hrows hcells
          obtain ⟨bc, es2, jj⟩ := rc
          simp only at h hrows hcells
          rw [T.run_bind] at h
          obtain ⟨s', pl', k1, k2, k3, k4⟩ := allocAll_ok i2 hrows (fun b hb => ⟨(hown b (hsub b hb)).2, (hown b (hsub b hb)).1, fun id' e' q hid hq hbq => by
            obtain ⟨hne, e0, he0, rfl⟩ := hold id' e' hid
            rw [Entry.kill_bs] at hbq
            exact i.sto.apart' id id' _ e0 p q hse he0 (Ne.symm hne) hpl hq b (hsub b hb) hbq⟩) hnd h
          obtain ⟨s'', k5', k6', _⟩ := put_ok (v := .one (.agg bc)) (u := .agg es.toArray) k2 ⟨es, rfl, hcells _ rfl rfl k3⟩ k1
          unfold Oper.wp
          rw [hexec]
          show Nxt F0 G w κ r (a.put (some d) _) w
          exact ⟨s'', G, pl', k5', k6', Fr.refl _ _ _⟩
        · simp at h
      · simp at h
    · simp at h
  · simp at h
end

end Go.Flat
