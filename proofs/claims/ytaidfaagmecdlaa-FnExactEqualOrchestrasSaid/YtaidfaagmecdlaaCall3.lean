/- The operation that calls. No condition. -/
import Derived.Test.YtaidfaagmecdlaaCall2
set_option linter.unusedVariables false
set_option linter.unusedSimpArgs false
namespace Go.Flat

theorem toArgs_ok {C : Cfg} {F0 G : Nat → Prop} {s : St} {a : Act} {w : World} {pl : Nat → Option Pl} (i : Inv F0 G s a w pl) {io : List Nat} : ∀ {ts : List TypeId} {vs : List Comp} {n : Nat} {as : List Arg} {us : List Value},
    toArgs C s io n ts vs = some as → hasIo as = false → us.length = vs.length → (∀ (j : Nat) c u, vs[j]? = some c → us[j]? = some u → CompRel (mem F0 G w.heap s.sto pl) c u) → ArgsRel (· < w.heap.size) G w.heap as us
  | ts, [], n, as, us, h, _, hl, _ => by
    have : as = [] := by cases ts <;> simpa [toArgs] using h.symm
    subst this
    exact ⟨hl, fun i a v hi => by simp at hi⟩
  | [], v :: vs, n, as, us, h, _, _, _ => by simp [toArgs] at h
  | t :: ts, v :: vs, n, as, us, h, hio, hl, hr => by
    simp only [toArgs] at h
    split at h
    · rename_i x rest hx hrest
      simp at h
      subst h
      cases us with
      | nil => simp at hl
      | cons u us =>
        have hio' : hasIo rest = false := by cases x <;> simp [hasIo] at hio <;> exact hio
        obtain ⟨k1, k2⟩ := toArgs_ok i hrest hio' (by simpa using hl) (fun j c u' hj hu => hr (j + 1) c u' (by simpa using hj) (by simpa using hu))
        refine ⟨by simp [k1], fun j a' v' hj hv => ?_⟩
        cases j with
        | succ j => exact k2 j a' v' (by simpa using hj) (by simpa using hv)
        | zero =>
          simp at hj hv
          subst hj hv
          have hval : toArgVal C s t v = some x := by
            unfold toArg at hx
            cases hc : io.contains n with
            | false => rw [hc] at hx; exact hx
            | true =>
              rw [hc] at hx
              have hx : toArgIo s v = some x := hx
              exfalso
              unfold toArgIo at hx
              split at hx
              · split at hx
                · simp at hx; subst hx; simp [hasIo] at hio
                · simp at hx; subst hx; simp [hasIo] at hio
                · cases hx
              · split at hx
                · obtain ⟨y, _, rfl⟩ := Option.map_eq_some_iff.1 hx; simp [hasIo] at hio
                · cases hx
              · cases hx
          exact toArg_ok i (hr 0 v u rfl rfl) hval
    · cases h

theorem capArgs_ok {A G : Nat → Prop} {h : Array Obj} : ∀ {caps : List Cap} {as : List Arg} {us : List Value}, caps.mapM capArg = some as → us.length = caps.length → (∀ (j : Nat) c u, caps[j]? = some c → us[j]? = some u → CapRel (emptyMem A G h) c u) →
    ArgsRel A G h as us
  | [], as, us, h, hl, _ => by
    simp at h
    subst h
    exact ⟨hl, fun i a v hi => by simp at hi⟩
  | c :: caps, as, us, h, hl, hr => by
    rw [List.mapM_cons] at h
    simp only [Option.bind_eq_bind, Option.bind_eq_some_iff, Option.pure_def, Option.some.injEq] at h
    obtain ⟨x, hx, rest, hrest, rfl⟩ := h
    cases us with
    | nil => simp at hl
    | cons u us =>
      obtain ⟨k1, k2⟩ := capArgs_ok hrest (by simpa using hl) (fun j c u' hj hu => hr (j + 1) c u' (by simpa using hj) (by simpa using hu))
      refine ⟨by simp [k1], fun j a' v' hj hv => ?_⟩
      cases j with
      | succ j => exact k2 j a' v' (by simpa using hj) (by simpa using hv)
      | zero =>
        simp at hj hv
        subst hj hv
        have hcr := hr 0 c u rfl rfl
        cases c with
        | ptr _ => simp [capArg] at hx
        | ro t y =>
          simp [capArg] at hx
          subst hx
          obtain ⟨b, o, es, h1, h2, h3, h4⟩ := hcr
          exact ⟨b, o, es, by rw [Nat.add_zero]; exact h1, h2, h3, h4⟩

theorem ArgsRel.append {A G : Nat → Prop} {h : Array Obj} {as bs : List Arg} {us vs : List Value} (h1 : ArgsRel A G h as us) (h2 : ArgsRel A G h bs vs) : ArgsRel A G h (as ++ bs) (us ++ vs) := by
  refine ⟨by simp [h1.1, h2.1], fun i a v hi hv => ?_⟩
  rw [List.getElem?_append] at hi hv
  split at hi
  · rename_i hlt
    rw [if_pos (by rw [h1.1]; exact hlt)] at hv
    exact h1.2 i a v hi hv
  · rename_i hlt
    rw [if_neg (by rw [h1.1]; exact hlt), h1.1] at hv
    exact h2.2 _ a v hi hv

theorem compsOf_ok {F0 G : Nat → Prop} {s : St} {a : Act} {w : World} {pl : Nat → Option Pl} (i : Inv F0 G s a w pl) : ∀ {xs : List Operand} {vs : List Comp}, compsOf s xs = some vs →
    (xs.map a.eval).length = vs.length ∧ ∀ (j : Nat) c u, vs[j]? = some c → (xs.map a.eval)[j]? = some u → CompRel (mem F0 G w.heap s.sto pl) c u
  | [], vs, h => by simp [compsOf] at h; subst h; exact ⟨rfl, fun j c u hj => by simp at hj⟩
  | x :: xs, vs, h => by
    simp only [compsOf] at h
    split at h
    · rename_i c r hs hr
      simp at h
      subst h
      obtain ⟨k1, k2⟩ := compsOf_ok i hr
      refine ⟨by simpa using k1, fun j c' u hj hu => ?_⟩
      cases j with
      | succ j => exact k2 j c' u (by simpa using hj) (by simpa using hu)
      | zero =>
        simp at hj hu
        subst hj hu
        have := i.slot x
        rw [hs] at this
        exact this
    · cases h

section
variable {C : Cfg} {callF : FuncId → (t : Ty) → List Arg → Option t.den}
  {dst : Option Tmp} {type : TypeId} {pos : String} {after : Array Edge} {guard : Option (Nat × Bool)}

theorem ok_call (good : Good C) (hcall : CallOk C callF) (g : Operand) (args : Array Operand) (argTypes : Array TypeId) : OpOk C callF ⟨dst, .call ⟨.value g, args, argTypes⟩, type, pos, after, guard⟩ := by
  intro R F0 G s a w pl κ r Q i h
  simp only [opT] at h
  split at h
  · rename_i f caps vs hsg hvs
    have hg := i.slot g
    rw [hsg] at hg
    obtain ⟨cvs, hgv, hcl, hcr⟩ := hg
    obtain ⟨hal, har⟩ := compsOf_ok i hvs
    unfold callOp at h
    split at h
    · rename_i dst' fn hfn
      simp only at h
      split at h
      · rename_i as cas rt has hcas hrt
        split at h
        · simp at h
        · rename_i hio
          have hio : hasIo as = false := by simpa using hio
          simp only [T.run] at h
          rw [Option.bind_eq_some_iff] at h
          obtain ⟨r0, hr0, h⟩ := h
          obtain ⟨hbody, hcalls⟩ := hcall f fn rt (as ++ cas) r0 hfn hr0
          rw [Option.bind_eq_some_iff] at hcas
          obtain ⟨caps', hcaps', hmap⟩ := hcas
          have hargs := (toArgs_ok i has hio hal har).append (capArgs_ok hmap (capsRo_ok i hcaps' hcl hcr).1 (capsRo_ok i hcaps' hcl hcr).2)
          have hc := hcalls w G (args.toList.map a.eval ++ cvs) (fun b hb => i.sto.lt b (.inr hb)) hargs
          have hname : (fn.name == "runtime.NumGoroutine") = false := by
            have := Array.all_eq_true.1 good.names
            obtain ⟨hlt, hget⟩ := Array.getElem?_eq_some_iff.1 hfn
            have := this f hlt
            rw [hget] at this
            simpa using this
          have hexec : (execOp a.eval ⟨dst, .call ⟨.value g, args, argTypes⟩, type, pos, after, guard⟩).run C.P w = .ok (.enter f (args.toList.map a.eval ++ cvs).toArray) w := by
            have hb : fn.body.isNone = false := by cases hb : fn.body <;> simp [hb] at hbody ⊢
            simp only [execOp, resolve, Sem.run_bind, hgv, Deferred.ofValue, Sem.run_pure, Result.andThen_ok, invoke, callFunc, run_program, hfn, hname, hb, Bool.false_eq_true, if_false]
            congr 2
            apply Array.ext'
            simp
          unfold Oper.wp
          rw [hexec]
          refine Calls.mono hc fun e w' hpost => ?_
          obtain ⟨v, G', ps, rfl, hsz, hstr, hh, hG, hnew, hres, hfresh, hnd⟩ := hpost
          show Nxt F0 G w κ r (a.put dst v) w'
          obtain ⟨i1, fr⟩ := i.grow hsz hstr hh hG hnew
          obtain ⟨hrows, hslot⟩ := regSlot_ok (key := siteKey (dst.getD 0)) hres
          rw [T.run_bind] at h
          have hF : ∀ p, some p ∈ ps → ¬ (F0 p.b ∨ G' p.b) ∧ ∀ id e q, s.sto id = some e → pl id = some q → q.b ≠ p.b := by
            intro p hp
            obtain ⟨k1, k2⟩ := hfresh p hp
            refine ⟨fun hb => ?_, fun id e q hid hq => Nat.ne_of_lt (Nat.lt_of_lt_of_le (i.sto.lt_pl hid hq) k1)⟩
            rcases hb with hb | hb
            · exact Nat.lt_irrefl _ (Nat.lt_of_lt_of_le (i.sto.lt _ (.inl hb)) k1)
            · exact k2 hb
          obtain ⟨s', pl', k1, k2, k3, k4⟩ := allocAll_ok i1 hrows hF hnd h
          obtain ⟨s'', k5, k6, _⟩ := put_ok k2 (hslot _ rfl rfl k3) k1
          exact ⟨s'', G', pl', k5, k6, fr⟩
      · simp at h
    · simp at h
  · simp at h
end

end Go.Flat
