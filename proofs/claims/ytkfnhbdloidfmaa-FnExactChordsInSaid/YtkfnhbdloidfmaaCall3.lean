/- The operation that calls. No condition. -/
import Derived.Test.YtkfnhbdloidfmaaLend
set_option linter.unusedVariables false
set_option linter.unusedSimpArgs false
namespace Go.Flat

theorem toArgs_ok {C : Cfg} {F0 : Fr0} {A G : Nat → Prop} {s : St} {a : Act} {w : World} {pl : Nat → Option Pl} (i : Inv F0 G s a w pl) (hFA : ∀ b, F0 b ∨ G b → A b) (hPA : ∀ id e p, s.sto id = some e → pl id = some p → A p.b) {io : List Nat} : ∀ {ts : List TypeId} {vs : List Comp} {n : Nat} {as : List Arg} {us : List Value},
    toArgs C s io n ts vs = some as → hasIo as = false → us.length = vs.length → (∀ (j : Nat) c u, vs[j]? = some c → us[j]? = some u → CompRel (mem F0 G w.heap s.sto pl) c u) → ArgsRel A G w.heap as us
  | ts, [], n, as, us, h, _, hl, _ => by
    have : as = [] := by cases ts <;> simpa [toArgs] using h.symm
    subst this
    exact ⟨hl, fun i a v hi => by simp at hi⟩
  | [], v :: vs, n, as, us, h, _, _, _ => by simp [toArgs] at h
  | t :: ts, v :: vs, n, as, us, h, hio, hl, hr => by
    simp only [toArgs] at h
    split at h
    · rename_i x rest hx hrest
      simp at h
      subst h
      cases us with
      | nil => simp at hl
      | cons u us =>
        have hio' : hasIo rest = false := by cases x <;> simp [hasIo] at hio <;> exact hio
        obtain ⟨k1, k2⟩ := toArgs_ok i hFA hPA hrest hio' (by simpa using hl) (fun j c u' hj hu => hr (j + 1) c u' (by simpa using hj) (by simpa using hu))
        refine ⟨by simp [k1], fun j a' v' hj hv => ?_⟩
        cases j with
        | succ j => exact k2 j a' v' (by simpa using hj) (by simpa using hv)
        | zero =>
          simp at hj hv
          subst hj hv
          have hval : toArgVal C s t v = some x := by
            unfold toArg at hx
            cases hc : io.contains n with
            | false => rw [hc] at hx; exact hx
            | true =>
              rw [hc] at hx
              have hx : toArgIo s v = some x := hx
              exfalso
              unfold toArgIo at hx
              split at hx
              · split at hx
                · simp at hx; subst hx; simp [hasIo] at hio
                · cases hx
              · split at hx
                · obtain ⟨y, _, rfl⟩ := Option.map_eq_some_iff.1 hx; simp [hasIo] at hio
                · cases hx
              · cases hx
          exact toArg_ok i hFA hPA (hr 0 v u rfl rfl) hval
    · cases h

/-- The arguments of a call to which a row is given away. -/
theorem toArgsIo_ok {C : Cfg} {F0 : Fr0} {A G : Nat → Prop} {s : St} {a : Act} {w : World} {pl : Nat → Option Pl} (i : Inv F0 G s a w pl) (hFA : ∀ b, F0 b ∨ G b → A b) (hPA : ∀ id e p, s.sto id = some e → pl id = some p → A p.b)
    {x : Nat} {t0 : Ty} {l : List t0.den} : ∀ {ts : List TypeId} {vs : List Comp} {n : Nat} {as : List Arg} {us : List Value},
    toArgsIo C s x t0 l n ts vs = some as → us.length = vs.length → (∀ (j : Nat) c u, vs[j]? = some c → us[j]? = some u → CompRel (mem F0 G w.heap s.sto pl) c u) →
    (∀ j u, n + j = x → us[j]? = some u → ArgRel A G w.heap (.ioArr t0 l) u) →
    ArgsRel A G w.heap as us ∧ ∀ j b, as[j]? = some b → b.isIo = true → n + j = x
  | ts, [], n, as, us, h, hl, _, _ => by
    have : as = [] := by cases ts <;> simpa [toArgsIo] using h.symm
    subst this
    exact ⟨⟨hl, fun i a v hi => by simp at hi⟩, fun j b hj => by simp at hj⟩
  | [], v :: vs, n, as, us, h, _, _, _ => by simp [toArgsIo] at h
  | t :: ts, v :: vs, n, as, us, h, hl, hr, hx => by
    simp only [toArgsIo] at h
    split at h
    · rename_i y rest hy hrest
      simp at h
      subst h
      cases us with
      | nil => simp at hl
      | cons u us =>
        obtain ⟨k1, k2⟩ := toArgsIo_ok i hFA hPA hrest (by simpa using hl) (fun j c u' hj hu => hr (j + 1) c u' (by simpa using hj) (by simpa using hu)) (fun j u' hj hu => hx (j + 1) u' (by omega) (by simpa using hu))
        have hy' : ArgRel A G w.heap y u ∧ (y.isIo = true → n = x) := by
          cases hb : Nat.beq n x with
          | true =>
            rw [hb] at hy
            simp only [cond_true, Option.some.injEq] at hy
            subst hy
            exact ⟨hx 0 u (Nat.eq_of_beq_eq_true hb) rfl, fun _ => Nat.eq_of_beq_eq_true hb⟩
          | false =>
            rw [hb] at hy
            simp only [cond_false] at hy
            exact ⟨toArg_ok i hFA hPA (hr 0 v u rfl rfl) hy, fun h => by rw [toArgVal_io hy] at h; cases h⟩
        refine ⟨⟨by simp [k1.1], fun j a' v' hj hv => ?_⟩, fun j b hj hb => ?_⟩
        · cases j with
          | succ j => exact k1.2 j a' v' (by simpa using hj) (by simpa using hv)
          | zero => simp at hj hv; subst hj hv; exact hy'.1
        · cases j with
          | succ j => have := k2 j b (by simpa using hj) hb; omega
          | zero => simp at hj; subst hj; exact hy'.2 hb
    · cases h

theorem toArgs_io {C : Cfg} {s : St} {io : List Nat} : ∀ {ts : List TypeId} {vs : List Comp} {n : Nat} {as : List Arg}, toArgs C s io n ts vs = some as → hasIo as = false → ∀ b ∈ as, b.isIo = false
  | ts, [], n, as, h, _ => by
    have : as = [] := by cases ts <;> simpa [toArgs] using h.symm
    subst this
    simp
  | [], v :: vs, n, as, h, _ => by simp [toArgs] at h
  | t :: ts, v :: vs, n, as, h, hio => by
    simp only [toArgs] at h
    split at h
    · rename_i y rest hy hrest
      simp at h
      subst h
      have hio' : hasIo rest = false ∧ y.isIo = false := by cases y <;> simp [hasIo] at hio <;> exact ⟨hio, rfl⟩
      intro b hb
      rcases List.mem_cons.1 hb with rfl | hb
      · exact hio'.2
      · exact toArgs_io hrest hio'.1 b hb
    · cases h

theorem capArgs_io : ∀ {caps : List Cap} {as : List Arg}, caps.mapM capArg = some as → ∀ b ∈ as, b.isIo = false
  | [], as, h => by simp at h; subst h; simp
  | c :: caps, as, h => by
    rw [List.mapM_cons] at h
    simp only [Option.bind_eq_bind, Option.bind_eq_some_iff, Option.pure_def, Option.some.injEq] at h
    obtain ⟨x, hx, rest, hrest, rfl⟩ := h
    intro b hb
    rcases List.mem_cons.1 hb with rfl | hb
    · exact capArg_io hx
    · exact capArgs_io hrest b hb

theorem capArgs_ok {A G : Nat → Prop} {h : Array Obj} : ∀ {caps : List Cap} {as : List Arg} {us : List Value}, caps.mapM capArg = some as → us.length = caps.length → (∀ (j : Nat) c u, caps[j]? = some c → us[j]? = some u → CapRel (emptyMem A G h) c u) →
    ArgsRel A G h as us
  | [], as, us, h, hl, _ => by
    simp at h
    subst h
    exact ⟨hl, fun i a v hi => by simp at hi⟩
  | c :: caps, as, us, h, hl, hr => by
    rw [List.mapM_cons] at h
    simp only [Option.bind_eq_bind, Option.bind_eq_some_iff, Option.pure_def, Option.some.injEq] at h
    obtain ⟨x, hx, rest, hrest, rfl⟩ := h
    cases us with
    | nil => simp at hl
    | cons u us =>
      obtain ⟨k1, k2⟩ := capArgs_ok hrest (by simpa using hl) (fun j c u' hj hu => hr (j + 1) c u' (by simpa using hj) (by simpa using hu))
      refine ⟨by simp [k1], fun j a' v' hj hv => ?_⟩
      cases j with
      | succ j => exact k2 j a' v' (by simpa using hj) (by simpa using hv)
      | zero =>
        simp at hj hv
        subst hj hv
        have hcr := hr 0 c u rfl rfl
        cases c with
        | ptr _ => simp [capArg] at hx
        | ro t y =>
          simp [capArg] at hx
          subst hx
          obtain ⟨b, o, es, h1, h2, h3, h4⟩ := hcr
          exact ⟨b, o, es, by rw [Nat.add_zero]; exact h1, h2, h3, h4⟩

theorem ArgsRel.append {A G : Nat → Prop} {h : Array Obj} {as bs : List Arg} {us vs : List Value} (h1 : ArgsRel A G h as us) (h2 : ArgsRel A G h bs vs) : ArgsRel A G h (as ++ bs) (us ++ vs) := by
  refine ⟨by simp [h1.1, h2.1], fun i a v hi hv => ?_⟩
  rw [List.getElem?_append] at hi hv
  split at hi
  · rename_i hlt
    rw [if_pos (by rw [h1.1]; exact hlt)] at hv
    exact h1.2 i a v hi hv
  · rename_i hlt
    rw [if_neg (by rw [h1.1]; exact hlt), h1.1] at hv
    exact h2.2 _ a v hi hv

theorem compsOf_ok {F0 : Fr0} {G : Nat → Prop} {s : St} {a : Act} {w : World} {pl : Nat → Option Pl} (i : Inv F0 G s a w pl) : ∀ {xs : List Operand} {vs : List Comp}, compsOf s xs = some vs →
    (xs.map a.eval).length = vs.length ∧ ∀ (j : Nat) c u, vs[j]? = some c → (xs.map a.eval)[j]? = some u → CompRel (mem F0 G w.heap s.sto pl) c u
  | [], vs, h => by simp [compsOf] at h; subst h; exact ⟨rfl, fun j c u hj => by simp at hj⟩
  | x :: xs, vs, h => by
    simp only [compsOf] at h
    split at h
    · rename_i c r hs hr
      simp at h
      subst h
      obtain ⟨k1, k2⟩ := compsOf_ok i hr
      refine ⟨by simpa using k1, fun j c' u hj hu => ?_⟩
      cases j with
      | succ j => exact k2 j c' u (by simpa using hj) (by simpa using hu)
      | zero =>
        simp at hj hu
        subst hj hu
        have := i.slot x
        rw [hs] at this
        exact this
    · cases h

section
variable {C : Cfg} {callF : FuncId → (t : Ty) → List Arg → Option t.den}
  {dst : Option Tmp} {type : TypeId} {pos : String} {after : Array Edge} {guard : Option (Nat × Bool)}

theorem enter_ok (good : Good C) (hcall : CallOk C callF) {R : Type} {F0 : Fr0} {G : Nat → Prop} {s1 : St} {a : Act} {w : World} {pl : Nat → Option Pl} {κ : St → Option R} {r : R} {Q : Exit → Act → World → Prop} {g : Operand} {args : Array Operand} {argTypes : Array TypeId}
    {f : FuncId} {fn : Func} {rt : Ty} {as : List Arg} {us cvs : List Value} {r0 : rt.den} {A : Nat → Prop} (hfn : C.P.funcs[f]? = some fn) (hr0 : callF f rt as = some r0) (i1 : Inv F0 G s1 a w pl) (ht : Tab C w F0) (hA : ∀ b, A b → b < w.heap.size)
    (hFA : ∀ b, F0 b ∨ G b → A b) (hPA : ∀ id e p, s1.sto id = some e → pl id = some p → A p.b) (hone : IoOne as) (hargs : ArgsRel A G w.heap as (us ++ cvs)) (hgv : a.eval g = .func (.func f) #[] cvs.toArray) (hus : args.toList.map a.eval = us)
    (h : (allocAll s1 (regSlot (C.sig f).own (Nat.beq fn.resultTypes.size 1) (siteKey (dst.getD 0)) rt r0).2).run callF (fun s => (s.put dst (regSlot (C.sig f).own (Nat.beq fn.resultTypes.size 1) (siteKey (dst.getD 0)) rt r0).1).run callF κ) = some r) :
    (⟨dst, .call ⟨.value g, args, argTypes⟩, type, pos, after, guard⟩ : Oper).wp C.P a w (Nxt F0 G w κ r) Q := by
  obtain ⟨hbody, hcalls⟩ := hcall f fn rt as r0 hfn hr0
  have hc := hcalls w A G (us ++ cvs) hA (fun b hb => hFA b (.inr hb)) (ht.more fun b hb => hFA b (.inl hb)) hone hargs
  have hname : (fn.name == "runtime.NumGoroutine") = false := by
    have := Array.all_eq_true.1 good.names
    obtain ⟨hlt, hget⟩ := Array.getElem?_eq_some_iff.1 hfn
    have := this f hlt
    rw [hget] at this
    simpa using this
  have hexec : (execOp a.eval ⟨dst, .call ⟨.value g, args, argTypes⟩, type, pos, after, guard⟩).run C.P w = .ok (.enter f (us ++ cvs).toArray) w := by
    have hb : fn.body.isNone = false := by cases hb : fn.body <;> simp [hb] at hbody ⊢
    subst hus
    simp only [execOp, resolve, Sem.run_bind, hgv, Deferred.ofValue, Sem.run_pure, Result.andThen_ok, invoke, callFunc, run_program, hfn, hname, hb, Bool.false_eq_true, if_false]
    congr 2
    apply Array.ext'
    simp
  unfold Oper.wp
  rw [hexec]
  refine Calls.mono hc fun e w' hpost => ?_
  obtain ⟨v, G', ps, rfl, hsz, hstr, hh, hG, hnew, hres, hfresh, hnd⟩ := hpost
  show Nxt F0 G w κ r (a.put dst v) w'
  obtain ⟨i2, fr⟩ := i1.grow2 hFA hPA hsz hstr hh hG hnew
  obtain ⟨hrows, hslot⟩ := regSlot_ok (key := siteKey (dst.getD 0)) hres
  have hF : ∀ p, some p ∈ ps → ¬ (F0 p.b ∨ G' p.b) ∧ ∀ id e q, s1.sto id = some e → pl id = some q → q.b ≠ p.b := by
    intro p hp
    obtain ⟨k1, k2⟩ := hfresh p hp
    refine ⟨fun hb => ?_, fun id e q hid hq e' => k1 (e' ▸ hPA id e q hid hq)⟩
    rcases hb with hb | hb
    · exact k1 (hFA _ (.inl hb))
    · exact k2 hb
  obtain ⟨s', pl', k1, k2, k3, k4⟩ := allocAll_ok i2 hrows hF hnd h
  obtain ⟨s'', k5, k6, _⟩ := put_ok k2 (hslot _ rfl rfl k3) k1
  exact ⟨s'', G', pl', k5, k6, fr⟩

theorem lend_ok (good : Good C) (hlend : LendOk C callF) {R : Type} {F0 : Fr0} {G : Nat → Prop} {s : St} {a : Act} {w : World} {pl : Nat → Option Pl} {κ : St → Option R} {r : R} {Q : Exit → Act → World → Prop} {args : Array Operand} {argTypes : Array TypeId}
    {f : FuncId} {vs : List Comp} {i0 : Nat} (i : Inv F0 G s a w pl) (ht : Tab C w F0) (hvs : compsOf s args.toList = some vs)
    (h : (callLend C s ⟨dst, .call ⟨.value (.func f), args, argTypes⟩, type, pos, after, guard⟩ f vs [] i0).run callF κ = some r) :
    (⟨dst, .call ⟨.value (.func f), args, argTypes⟩, type, pos, after, guard⟩ : Oper).wp C.P a w (Nxt F0 G w κ r) Q := by
  obtain ⟨hal, har⟩ := compsOf_ok i hvs
  unfold callLend at h
  split at h
  · rename_i fn v hfn hv
    split at h
    · rename_i T0 hT
      split at h
      · rename_i hka
        simp only [Bool.and_eq_true] at hka
        split at h
        · rename_i x ids hlo
          cases hnd : nodup (ids.filterMap id) with
          | false => rw [hnd] at h; cases h
          | true =>
            rw [hnd] at h
            simp only [cond_true] at h
            split at h
            · rename_i as cas rt has hcas hrt
              simp only [T.run] at h
              rw [Option.bind_eq_some_iff] at h
              obtain ⟨r0, hr0, h⟩ := h
              split at h
              · rename_i s2 hset
                have hcas' : cas = [] := by simpa [capsRo] using hcas.symm
                subst hcas'
                rw [List.append_nil] at hr0
                have hi0 : i0 < (args.toList.map a.eval).length := by rw [hal]; exact (List.getElem?_eq_some_iff.1 hv).1
                obtain ⟨u0, hu0⟩ : ∃ u0, (args.toList.map a.eval)[i0]? = some u0 := ⟨_, List.getElem?_eq_getElem hi0⟩
                have hc0 := har i0 v u0 hv hu0
                obtain ⟨ws, us', hws, how, hrest, hrel⟩ := lendOf_own i.sto hlo (cells_of_comp hka.1 hc0)
                have hus' : us' = [] := List.eq_nil_of_length_eq_zero hrest.1
                subst hus'
                rw [List.append_nil] at hws
                subst hws
                have hval := valIs_of hka.1 hka.2 hc0
                have mem : ∀ {j}, j ∈ ids.filterMap id ↔ some j ∈ ids := by
                  intro j
                  rw [List.mem_filterMap]
                  exact ⟨fun ⟨y, hy, e⟩ => by rw [← e]; exact hy, fun h => ⟨some j, h, rfl⟩⟩
                have live : ∀ j ∈ ids.filterMap id, ∃ t l o, s.sto j = some (.arr t l o) ∧ o ≠ .frozen := fun j hj => hrel.live j (mem.1 hj)
                obtain ⟨i1, old, kr⟩ := i.dropAll (nodup_spec hnd) (fun j hj => let ⟨t, l, o, h, _⟩ := live j hj; ⟨t, l, o, h⟩)
                have hFA : ∀ b, F0 b ∨ G b → (b < w.heap.size ∧ ∀ j ∈ ids.filterMap id, ∀ p, pl j = some p → b ≠ p.b) := fun b hb => ⟨i.sto.lt b hb, fun j hj p hp e => by
                  obtain ⟨t, l, o, h1, h2⟩ := live j hj
                  exact ((i.sto.ent j _ h1).2 p hp).2 h2 (e ▸ hb)⟩
                have hPA' : ∀ j e p, j ∉ ids.filterMap id → s.sto j = some e → pl j = some p → (p.b < w.heap.size ∧ ∀ k ∈ ids.filterMap id, ∀ q, pl k = some q → p.b ≠ q.b) := by
                  intro j e p hj he hp
                  refine ⟨i.sto.lt_pl he hp, fun k hk q hq => ?_⟩
                  obtain ⟨t, l, o, h1, _⟩ := live k hk
                  exact i.sto.apart j k e _ p q he h1 (fun e => hj (e ▸ hk)) hp hq
                have hPA : ∀ j e p, (s.dropAll (ids.filterMap id)).sto j = some e → pl j = some p → (p.b < w.heap.size ∧ ∀ k ∈ ids.filterMap id, ∀ q, pl k = some q → p.b ≠ q.b) := by
                  intro j e p he hp
                  obtain ⟨hj, e', he'⟩ := old j e he
                  exact hPA' j e' p hj he' hp
                obtain ⟨m1, m2, m3⟩ := toArgsL_ok (A := fun b => b < w.heap.size ∧ ∀ j ∈ ids.filterMap id, ∀ p, pl j = some p → b ≠ p.b) (us := args.toList.map a.eval) i1 hFA hPA has (by simpa using hal) (fun j c u hj hu => by
                  rw [List.getElem?_map] at hj
                  obtain ⟨c', hc', rfl⟩ := Option.map_eq_some_iff.1 hj
                  exact kr c' u (har j c' u hc' hu))
                have hai := m3 i0 (by omega) (by rw [← m1]; exact hi0)
                obtain ⟨hbody, hc⟩ := hlend f fn rt T0 x i0 as r0 hfn hr0 hai
                have hps : ∀ p, some p ∈ ids.map (fun j => j.bind pl) → ∃ j, j ∈ ids.filterMap id ∧ pl j = some p := by
                  intro p hp
                  obtain ⟨j, hj, hjp⟩ := List.mem_map.1 hp
                  cases j with
                  | none => cases hjp
                  | some j => exact ⟨j, mem.2 hj, hjp⟩
                have hfm : ((ids.map fun j => j.bind pl).filterMap id) = (ids.filterMap id).filterMap pl := by
                  rw [List.filterMap_map, List.filterMap_filterMap]
                  rfl
                have how' : OwnRd true G w.heap T0 x u0.cells.toList (ids.map fun j => Option.bind j pl) := how
                have hc := hc w (fun b => b < w.heap.size ∧ ∀ j ∈ ids.filterMap id, ∀ p, pl j = some p → b ≠ p.b) G (args.toList.map a.eval) u0 u0.cells.toList (ids.map fun j => Option.bind j pl) (fun b hb => hb.1) (fun b hb => hFA b (.inr hb)) (ht.more fun b hb => hFA b (.inl hb)) m1 hu0
                  ⟨how', hval, fun p hp hA => by
                    obtain ⟨j, hj, hjp⟩ := hps p hp
                    exact hA.2 j hj p hjp rfl, by
                    rw [hfm]
                    exact blocks_nodup i.sto (nodup_spec hnd) fun j hj => let ⟨t, l, o, h, _⟩ := live j hj; ⟨_, h⟩⟩ (fun j a' v' hne hj hv' => m2 j a' v' (by omega) hj hv')
                have hname : (fn.name == "runtime.NumGoroutine") = false := by
                  have := Array.all_eq_true.1 good.names
                  obtain ⟨hlt, hget⟩ := Array.getElem?_eq_some_iff.1 hfn
                  have := this f hlt
                  rw [hget] at this
                  simpa using this
                have hexec : (execOp a.eval ⟨dst, .call ⟨.value (.func f), args, argTypes⟩, type, pos, after, guard⟩).run C.P w = .ok (.enter f (args.toList.map a.eval).toArray) w := by
                  have hb : fn.body.isNone = false := by cases hb : fn.body <;> simp [hb] at hbody ⊢
                  have hgv : a.eval (.func f) = .func (.func f) #[] #[] := rfl
                  simp only [execOp, resolve, Sem.run_bind, hgv, Deferred.ofValue, Sem.run_pure, Result.andThen_ok, invoke, callFunc, run_program, hfn, hname, hb, Bool.false_eq_true, if_false]
                  congr 2
                  apply Array.ext'
                  simp
                unfold Oper.wp
                rw [hexec]
                refine Calls.mono hc fun e w' hpost => ?_
                obtain ⟨v', G', qs, rfl, hsz, hstr, hh, hG, hnew, hres, hfresh, hndq, hback, hpsG⟩ := hpost
                show Nxt F0 G w κ r (a.put dst v') w'
                obtain ⟨_, e1, e2, k1, k2⟩ := setRows_spec (rest := []) hrel (fun _ _ => rfl) (nodup_spec hnd) hback (by rw [List.append_nil]; exact hset)
                have inps : ∀ {j p}, j ∈ ids.filterMap id → pl j = some p → some p ∈ ids.map (fun j => j.bind pl) := fun {j p} hj hp => List.mem_map.2 ⟨some j, mem.1 hj, hp⟩
                obtain ⟨i2, fr⟩ := i.lendback (G' := G') (idl := ids.filterMap id) e1 e2 (fun j hj => k1 j (fun h => hj (mem.2 h))) (fun j hj => by
                  obtain ⟨u, l, l', o, h1, h2, h3, h4, h5⟩ := k2 j (mem.1 hj)
                  exact ⟨u, l, l', o, h1, h2, h3, h4, h5, fun p hp => ⟨(hpsG p (inps hj hp)).1, Nat.lt_of_lt_of_le (i.sto.lt_pl h1 hp) hsz⟩⟩) hFA hPA' hsz hstr hh hG hnew
                obtain ⟨hrows, hslot⟩ := regSlot_ok (key := siteKey (dst.getD 0)) hres
                have hF : ∀ p, some p ∈ qs → ¬ (F0 p.b ∨ G' p.b) ∧ ∀ j e q, s2.sto j = some e → pl j = some q → q.b ≠ p.b := by
                  intro p hp
                  obtain ⟨n1, n2⟩ := hfresh p hp
                  refine ⟨fun hb => ?_, fun j e q hj hq e' => ?_⟩
                  · rcases hb with hb | hb
                    · exact n1 (hFA _ (.inl hb))
                    · exact n2 hb
                  · by_cases hji : j ∈ ids.filterMap id
                    · exact (hpsG q (inps hji hq)).2 p hp e'.symm
                    · have hj' : s.sto j = some e := (k1 j (fun h => hji (mem.2 h))).symm.trans hj
                      exact n1 (e' ▸ hPA' j e q hji hj' hq)
                rw [T.run_bind] at h
                obtain ⟨s', pl', n1, n2, n3, n4⟩ := allocAll_ok i2 hrows hF hndq h
                obtain ⟨s'', n5, n6, _⟩ := put_ok n2 (hslot _ rfl rfl n3) n1
                exact ⟨s'', G', pl', n5, n6, fr⟩
              · simp at h
            · simp at h
        · simp at h
      · simp at h
    · simp at h
  · simp at h

theorem ok_call (good : Good C) (hcalls : CallsOk C callF) (g : Operand) (args : Array Operand) (argTypes : Array TypeId) : OpOk C callF ⟨dst, .call ⟨.value g, args, argTypes⟩, type, pos, after, guard⟩ := by
  intro R F0 G s a w pl κ r Q i ht h
  simp only [opT] at h
  split at h
  · rename_i f caps vs hsg hvs
    have hg := i.slot g
    rw [hsg] at hg
    obtain ⟨cvs, hgv, hcl, hcr⟩ := hg
    obtain ⟨hal, har⟩ := compsOf_ok i hvs
    have hcall := hcalls.1
    unfold callOp at h
    split at h
    · cases g <;> simp only [T.run_fail] at h <;> try (cases h; done)
      simp only [St.ev] at hsg
      cases hsg
      exact lend_ok good hcalls.2 i ht hvs h
    split at h
    · unfold callOld at h
      split at h
      · rename_i dst' fn hfn
        simp only at h
        split at h
        · rename_i as cas rt has hcas hrt
          split at h
          · simp at h
          · rename_i hio
            have hio : hasIo as = false := by simpa using hio
            simp only [T.run] at h
            rw [Option.bind_eq_some_iff] at h
            obtain ⟨r0, hr0, h⟩ := h
            rw [Option.bind_eq_some_iff] at hcas
            obtain ⟨caps', hcaps', hmap⟩ := hcas
            have hFA : ∀ b, F0 b ∨ G b → b < w.heap.size := fun b hb => i.sto.lt b hb
            have hPA : ∀ id e p, s.sto id = some e → pl id = some p → p.b < w.heap.size := fun id e p he hp => i.sto.lt_pl he hp
            have hargs := (toArgs_ok i hFA hPA has hio hal har).append (capArgs_ok hmap (capsRo_ok i hFA hPA hcaps' hcl hcr).1 (capsRo_ok i hFA hPA hcaps' hcl hcr).2)
            rw [T.run_bind] at h
            refine enter_ok good hcall hfn hr0 i ht (fun b hb => hb) hFA hPA (fun x y b c hx hy hb _ => ?_) hargs hgv rfl h
            exfalso
            rcases List.mem_append.1 (List.mem_of_getElem? hx) with hm | hm
            · rw [toArgs_io has hio b hm] at hb; cases hb
            · rw [capArgs_io hmap b hm] at hb; cases hb
        · simp at h
      · simp at h
    · rename_i x rr hsig
      cases g <;> simp only [T.run_fail] at h <;> try (cases h; done)
      rename_i f'
      unfold callIo at h
      split at h
      · rename_i fn id hfn hvx
        split at h
        · rename_i u l hsto
          split at h
          · rename_i as cas rt has hcas hrt
            simp only [T.run] at h
            rw [Option.bind_eq_some_iff] at h
            obtain ⟨r0, hr0, h⟩ := h
            rw [Option.bind_eq_some_iff] at hcas
            obtain ⟨caps', hcaps', hmap⟩ := hcas
            obtain ⟨i1, gd, old⟩ := i.drop hsto
            have hnF : ∀ p, pl id = some p → ¬ (F0 p.b ∨ G p.b) := fun p hp => ((i.sto.ent id _ hsto).2 p hp).2 (by simp)
            have hFA : ∀ b, F0 b ∨ G b → (b < w.heap.size ∧ ∀ p, pl id = some p → b ≠ p.b) := fun b hb => ⟨i.sto.lt b hb, fun p hp e => hnF p hp (e ▸ hb)⟩
            have hPA : ∀ j e p, (s.drop id).sto j = some e → pl j = some p → (p.b < w.heap.size ∧ ∀ q, pl id = some q → p.b ≠ q.b) := by
              intro j e p he hp
              obtain ⟨hj, e', he'⟩ := old j e he
              exact ⟨i.sto.lt_pl he' hp, fun q hq => i.sto.apart j id e' _ p q he' hsto hj hp hq⟩
            have hkr : ∀ (j : Nat) c v, (vs.map (Comp.kill id))[j]? = some c → (args.toList.map a.eval)[j]? = some v → CompRel (mem F0 G w.heap (s.drop id).sto pl) c v := by
              intro j c v hj hv
              rw [List.getElem?_map] at hj
              obtain ⟨c', hc', rfl⟩ := Option.map_eq_some_iff.1 hj
              exact kill_comp gd hsto (har j c' v hc' hv)
            obtain ⟨hra, hio⟩ := toArgsIo_ok (A := fun b => b < w.heap.size ∧ ∀ p, pl id = some p → b ≠ p.b) i1 hFA hPA has (by simpa using hal) hkr (fun j v hj hv => by
              obtain rfl : j = x := by omega
              obtain ⟨t', l', o', h1, h2⟩ := har j _ v hvx hv
              rw [show s.sto id = some (.arr t' l' o') from h1] at hsto
              cases hsto
              exact ⟨pl id, h2, (i.sto.ent id _ h1).1, fun p hp hb => hb.2 p hp rfl⟩)
            have hcr' : ∀ (j : Nat) c v, caps[j]? = some c → cvs[j]? = some v → CapRel (mem F0 G w.heap (s.drop id).sto pl) c v := fun j c v hj hv => kill_cap gd hsto (hcr j c v hj hv)
            have hargs := hra.append (capArgs_ok hmap (capsRo_ok i1 hFA hPA hcaps' hcl hcr').1 (capsRo_ok i1 hFA hPA hcaps' hcl hcr').2)
            rw [T.run_bind] at h
            refine enter_ok good hcall hfn hr0 i1 ht (fun b hb => hb.1) hFA hPA (fun y z b c hy hz hb hc => ?_) hargs hgv rfl h
            have key : ∀ {y b}, (as ++ cas)[y]? = some b → b.isIo = true → y = x := by
              intro y b hy hb
              rw [List.getElem?_append] at hy
              split at hy
              · have := hio y b hy hb; omega
              · rw [capArgs_io hmap b (List.mem_of_getElem? hy)] at hb; cases hb
            exact (key hy hb).trans (key hz hc).symm
          · simp at h
        · simp at h
      · simp at h
  · simp at h
end

end Go.Flat
