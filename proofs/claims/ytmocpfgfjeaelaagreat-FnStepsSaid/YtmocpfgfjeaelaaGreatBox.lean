/- A box that is lent: no way of the caller's leads to it meanwhile. No condition. -/
import Derived.Test.YtmocpfgfjeaelaaGreatLend
set_option linter.unusedVariables false
set_option linter.unusedSimpArgs false
namespace Go.Flat
theorem Entry.DY (id : Nat) (e : Entry) (p : Pl) : (e.forget id).bs p = e.bs p := by cases e <;> rfl
theorem EW {M M' : Mem} {id : Nat} {tb : Option Ty} {cb : List Cell} (g : Goes (· = id) M M') (ha : M.ak id = some (.box tb cb)) {c : Cell} {v : Value} (h : fE M c v) : fE M' (c.forget id) v := by
 have ne : ∀ {j}, Nat.beq j id = false -> j ≠ id := fun h e => by subst e; simp at h
 cases c with
 | ptr j off =>
  simp only [Cell.forget]
  cases hb : Nat.beq j id with
  | true => exact trivial
  | false => exact g.cell (c := .ptr j off) (fun k hk => by simp [Cell.ids] at hk; rw [hk]; exact ne hb) h
 | oq f caps =>
  simp only [Cell.forget]
  cases hb : caps.any (Cap.Kj id) with
  | true => exact trivial
  | false =>
   refine g.cell (c := .oq f caps) (fun k hk BD => ?_) h
   subst BD
   simp only [Cell.ids, List.mem_filterMap] at hk
   obtain ⟨cp, hm, hcp⟩ := hk
   cases cp with
   | ro _ _ => simp at hcp
   | ptr j =>
    simp at hcp
    subst hcp
    have := List.any_eq_false.1 hb _ hm
    simp [Cap.Kj] at this
 | ref j =>
  refine g.cell (c := .ref j) (fun k hk BD => ?_) h
  simp [Cell.ids] at hk
  obtain ⟨_, _, _, hs, _⟩ := h
  rw [<- hk, BD, ha] at hs
  cases hs
 | sub j off n =>
  refine g.cell (c := .sub j off n) (fun k hk BD => ?_) h
  simp [Cell.ids] at hk
  obtain ⟨_, _, _, hs, _⟩ := h
  rw [<- hk, BD, ha] at hs
  cases hs
 | lD j ix off =>
  refine g.cell (c := .lD j ix off) (fun k hk BD => ?_) h
  simp [Cell.ids] at hk
  obtain ⟨_, _, _, _, hs, _⟩ := h
  rw [<- hk, BD, ha] at hs
  cases hs
 | nk j =>
  refine g.cell (c := .nk j) (fun k hk BD => ?_) h
  simp [Cell.ids] at hk
  obtain ⟨_, _, _, hs, _⟩ := h
  rw [<- hk, BD, ha] at hs
  cases hs
 | ny j ix off =>
  refine g.cell (c := .ny j ix off) (fun k hk BD => ?_) h
  simp [Cell.ids] at hk
  obtain ⟨_, _, _, _, hs, _⟩ := h
  rw [<- hk, BD, ha] at hs
  cases hs
 | inn j ix off =>
  refine g.cell (c := .inn j ix off) (fun k hk BD => ?_) h
  simp [Cell.ids] at hk
  obtain ⟨_, _, _, hs, _⟩ := h
  rw [<- hk, BD, ha] at hs
  cases hs
 | undef => exact trivial
 | void => exact h
 | bool b => exact h
 | prop p d => exact h
 | int k n => exact h
 | str s => exact h
 | nil => exact h
 | list fr t l => exact g.cell (c := .list fr t l) (fun k hk => by simp [Cell.ids] at hk) h
 | pF fr t x off => exact g.cell (c := .pF fr t x off) (fun k hk => by simp [Cell.ids] at hk) h
theorem CF {M M' : Mem} {id : Nat} {tb : Option Ty} {cb : List Cell} (g : Goes (· = id) M M') (ha : M.ak id = some (.box tb cb)) {cs : List Cell} {vs : List Value} (h : aD M cs vs) : aD M' (cs.map (·.forget id)) vs := by
 refine ⟨by rw [h.1]; simp, fun i c v hi hv => ?_⟩
 rw [List.getElem?_map] at hi
 obtain ⟨c', hc', rfl⟩ := Option.map_eq_some_iff.1 hi
 exact ⟨EW g ha (h.2 i c' v hc' hv).1, (h.2 i c' v hc' hv).2⟩
theorem zD {M M' : Mem} {id : Nat} {tb : Option Ty} {cb : List Cell} (g : Goes (· = id) M M') (ha : M.ak id = some (.box tb cb)) {c : aH} {v : Value} (h : eX M c v) : eX M' (c.forget id) v := by
 cases c with
 | cell c => exact EW g ha h
 | agg cs =>
  obtain ⟨vs, hv, hc⟩ := h
  exact ⟨vs, hv, CF g ha hc⟩
theorem Nr {M M' : Mem} {id : Nat} {tb : Option Ty} {cb : List Cell} (g : Goes (· = id) M M') (ha : M.ak id = some (.box tb cb)) {s : Slot} {v : Value} (h : gI M s v) : gI M' (s.forget id) v := by
 cases s with
 | one c => exact zD g ha h
 | Co cs =>
  obtain ⟨vs, hv, hl, hc⟩ := h
  refine ⟨vs, hv, by rw [hl]; simp, fun i c u hi hu => ?_⟩
  rw [List.getElem?_map] at hi
  obtain ⟨c', hc', rfl⟩ := Option.map_eq_some_iff.1 hi
  exact zD g ha (hc i c' u hc' hu)
theorem Inv.forget {F0 : lH} {G : Nat -> Prop} {s : St} {a : Act} {w : World} {pl : Nat -> Option Pl} (i : Inv F0 G s a w pl) {id : Nat} {tb : Option Ty} {cb : List Cell} (hs : s.ak id = some (.box tb cb)) :
  Inv F0 G (s.forget id) a w pl /\ (∀ c v, eX (mem F0 G w.heap s.ak pl) c v -> eX (mem F0 G w.heap (s.forget id).ak pl) (c.forget id) v) /\ (∀ j e, (s.forget id).ak j = some e -> j ≠ id /\ ∃ e', s.ak j = some e' /\ ∀ p, e.bs p = e'.bs p) := by
 have g : Goes (· = id) (mem F0 G w.heap s.ak pl) (mem F0 G w.heap (s.forget id).ak pl) :=
  ⟨fun _ h => h, fun _ h => h, i.ak.gf, fun _ _ => rfl, fun j e hj he => by
   refine ⟨e.forget id, ?_, ?_, jD.refl _⟩
   ·show upd (fun k => (s.ak k).map (·.forget id)) id none j = _
    rw [upd_ne _ _ hj]
    show (s.ak j).map (·.forget id) = _
    rw [show s.ak j = some e from he]
    rfl
   ·cases e with
    | box _ _ => trivial
    | arr _ _ _ => exact ⟨rfl, rfl⟩
    | deep _ _ _ => exact ⟨rfl, rfl, rfl⟩, rfl⟩
 have old : ∀ {j e}, (s.forget id).ak j = some e -> j ≠ id /\ ∃ e', s.ak j = some e' /\ e = e'.forget id := by
  intro j e he
  have he : upd (fun k => (s.ak k).map (·.forget id)) id none j = some e := he
  by_cases hj : j = id
  ·subst hj
   rw [upd_same] at he
   cases he
  ·rw [upd_ne _ _ hj] at he
   obtain ⟨e', h1, h2⟩ := Option.map_eq_some_iff.1 he
   exact ⟨hj, e', h1, h2.symm⟩
 refine ⟨⟨i.size, fun t' => Nr g hs (i.env t'), ⟨i.ak.gf, i.ak.lt, fun j e he => ?_, fun x y ex ey p q hx hy hxy hp hq => ?_, fun j t l n he => by
  obtain ⟨_, e', he', hee⟩ := old he
  cases e' with
  | box _ _ => cases hee
  | arr t' l' o' => cases hee; exact i.ak.pin j t l n he'
  | deep _ _ _ => (cases hee), fun j t l n he => by
  obtain ⟨_, e', he', hee⟩ := old he
  cases e' with
  | box _ _ => cases hee
  | arr t' l' o' => cases hee
  | deep _ _ _ => cases hee; exact i.ak.Fv j t l n he'⟩, i.defers⟩, fun c v h => zD g hs h, fun j e he => ?_⟩
 ·obtain ⟨hj, e', he', rfl⟩ := old he
  have hent := i.ak.ent j e' he'
  cases e' with
  | box tt cs =>
   obtain ⟨p, c, e, fz, hp, ho, hhh, hfz, hsz', hcs, hty, hrel, hFF⟩ := hent
   exact ⟨p, c, e, fz, hp, ho, hhh, hfz, hsz', by simpa using hcs, fun u hu => by simpa using hty u hu, CF g hs hrel, hFF⟩
  | arr tt ll oo =>
   obtain ⟨h1, h2⟩ := hent
   exact ⟨g.QD (fun _ _ => rfl) h1, h2⟩
  | deep tt ll nn =>
   obtain ⟨h1, h2⟩ := hent
   exact ⟨g.Pf (fun _ _ _ _ => rfl) h1, h2⟩
 ·obtain ⟨_, ex', hx', e1⟩ := old hx
  obtain ⟨_, Pn, hy', e2⟩ := old hy
  rw [e1, e2, Entry.DY, Entry.DY]
  exact i.ak.apart' x y ex' Pn p q hx' hy' hxy hp hq
 ·obtain ⟨hj, e', he', rfl⟩ := old he
  exact ⟨hj, e', he', fun p => Entry.DY id e' p⟩
theorem EX {id : Nat} {t : Option Ty} : ∀ {ids : List Nat} {s : St} {cs : List Cell}, id ∉ ids -> s.ak id = some (.box t cs) -> ∃ cs', (s.bW ids).ak id = some (.box t cs')
 | [], s, cs, _, h => ⟨cs, h⟩
 | j :: ids, s, cs, hn, h => by
  refine EX (s := s.drop j) (cs := cs.map (·.kill j)) (fun hm => hn (by simp [hm])) ?_
  have hne : id ≠ j := fun e => hn (by simp [e])
  show upd (s.kill j).ak j none id = _
  rw [upd_ne _ _ hne]
  show (s.ak id).map (·.kill j) = _
  rw [h]
  rfl
theorem EY {f : FuncId} {caps : List Cap} : ∀ {ids : List Nat}, sD (.cell (.oq f caps)) ids = .cell (.oq f caps)
 | [] => rfl
 | id :: ids => EY (ids := ids)
theorem Hw {s : St} : ∀ {caps l : List Cap}, kF s caps = some l -> ∀ c ∈ caps, ∃ c', xu s c = some c'
 | [], l, h, c, hc => by simp at hc
 | c0 :: caps, l, h, c, hc => by
  simp only [kF] at h
  split at h
  ·rename_i c' r h1 h2
   rcases List.mem_cons.1 hc with rfl | hc
   ·exact ⟨_, h1⟩
   ·exact Hw h2 c hc
  ·cases h
theorem Inv.WJ {F0 : lH} {G G' A : Nat -> Prop} {s : St} {a : Act} {w w' : World} {pl : Nat -> Option Pl} (i : Inv F0 G s a w pl) {id : Nat} {t : Option Ty} {cs : List Cell} {p : Pl} (hs : s.ak id = some (.box t cs)) (hp : pl id = some p) (hpo : p.o = 0)
  {c : Array Value} {e : TypeId} {fz : Nat × Nat} (hc : w'.heap[p.b]? = some (.cells c e fz)) (hfz : Free fz c.size) (hcs : c.size = p.size) (hone : ∀ v ∈ c.toList, one v = true) (Za : ¬ G' p.b)
  (qZ : ∀ b, F0 b \/ G b -> A b) (yU : ∀ j e q, j ≠ id -> s.ak j = some e -> pl j = some q -> ∀ b ∈ e.bs q, A b)
  (hsz : w.heap.size <= w'.heap.size) (hstr : Str F0.mono w w') (hh : ∀ b, A b -> w'.heap[b]? = w.heap[b]?)
  (hG : ∀ b, G b -> G' b) (hnew : ∀ b, G' b -> G b \/ (¬ A b /\ b < w'.heap.size)) :
  Inv F0 G' { s with ak := upd s.ak id (some (.box none (List.replicate c.size .undef))) } a w' pl /\ Fr F0 G w G' w' := by
 have hpF : ¬ F0 p.b := fun h => by
  obtain ⟨p', _, _, _, hp', _, _, _, _, _, _, _, hF⟩ := i.ak.ent id _ hs
  have hp' : pl id = some p' := hp'
  rw [hp] at hp'
  cases hp'
  exact hF (.inl h)
 have g : Goes (fun _ => False) (mem F0 G w.heap s.ak pl) (mem F0 G' w'.heap (upd s.ak id (some (.box none (List.replicate c.size .undef)))) pl) :=
  ⟨fun b hb => hb.imp (fun h => h) (hG b), hG, i.ak.gf, fun b hb => hh b (qZ b hb), fun j e _ MX => by
   by_cases hj : j = id
   ·subst hj
    have MX : s.ak j = some e := MX
    rw [hs] at MX
    cases MX
    exact ⟨_, upd_same _ _ _, trivial, jD.refl _⟩
   ·exact ⟨e, (upd_ne _ _ hj).trans MX, e.mK, jD.refl _⟩, rfl⟩
 have old : ∀ {j e}, upd s.ak id (some (.box none (List.replicate c.size .undef))) j = some e -> ∃ e', s.ak j = some e' /\ (∀ p, e.bs p = e'.bs p) /\ (j ≠ id -> e = e') /\ (j = id -> e = .box none (List.replicate c.size .undef)) := by
  intro j e hj
  by_cases hji : j = id
  ·subst hji
   rw [upd_same] at hj
   cases hj
   exact ⟨_, hs, fun _ => rfl, fun h => absurd rfl h, fun _ => rfl⟩
  ·rw [upd_ne _ _ hji] at hj
   exact ⟨e, hj, fun _ => rfl, fun _ => rfl, fun h => absurd h hji⟩
 refine ⟨i.slots g rfl rfl ⟨fun b hb => .inr hb, fun b hb => ?_, fun j e' MX => ?_, fun x y ex ey p q hx hy hxy hp hq => ?_, fun j t l n hj => ?_, fun j t l n hj => ?_⟩, fun b hb => hh b (qZ b hb), hG, fun b hb hf => ?_, hsz, hstr⟩
 ·rcases hb with hb | hb
  ·exact Nat.lt_of_lt_of_le (i.ak.lt b (.inl hb)) hsz
  ·rcases hnew b hb with h | h
   ·exact Nat.lt_of_lt_of_le (i.ak.lt b (.inr h)) hsz
   ·exact h.2
 ·obtain ⟨e0, he0, _, h1, h2⟩ := old MX
  by_cases hji : j = id
  ·subst hji
   rw [h2 rfl]
   refine ⟨p, c, e, fz, hp, hpo, hc, hfz, hcs, by simp, fun u hu => (by cases hu), ⟨by simp, fun m c0 v hm hv => ⟨?_, hone v (List.mem_of_getElem? hv)⟩⟩, fun h => ?_⟩
   ·have := List.eq_of_mem_replicate (List.mem_of_getElem? hm)
    subst this
    exact trivial
   ·rcases h with h | h
    ·exact hpF h
    ·exact Za h
  ·have := h1 hji
   subst this
   refine g.entry (fun q hq b hb => hh b (yU j e' q hji he0 hq b hb)) (fun q hq b hb hnF hF' => ?_) (fun _ _ h => h) (i.ak.ent j e' he0)
   rcases hF' with h | h
   ·exact hnF (.inl h)
   ·rcases hnew _ h with h | h
    ·exact hnF (.inr h)
    ·exact h.1 (yU j e' q hji he0 hq b hb)
 ·obtain ⟨ex', hx', bx, _⟩ := old hx
  obtain ⟨Pn, hy', bY, _⟩ := old hy
  rw [bx, bY]
  exact i.ak.apart' x y ex' Pn p q hx' hy' hxy hp hq
 ·obtain ⟨e', he', _, h1, h2⟩ := old hj
  by_cases hji : j = id
  ·have := h2 hji
   cases this
  ·have := h1 hji
   subst this
   exact i.ak.pin j t l n he'
 ·obtain ⟨e', he', _, h1, h2⟩ := old hj
  by_cases hji : j = id
  ·have := h2 hji
   cases this
  ·have := h1 hji
   subst this
   exact i.ak.Fv j t l n he'
 ·rcases hnew b hb with h | h
  ·exact h
  ·exact absurd (qZ b (.inl hf)) h.1
theorem sZ {G : Nat -> Prop} {h : Array Obj} : ∀ {t : Ty} {x : t.den} {cs : List Value}, Rd G h t G x cs -> dH false G h t x cs []
 | .bool, _, _, e => ⟨rfl, e⟩
 | .int _, _, _, e => ⟨rfl, e⟩
 | .str, _, _, e => ⟨rfl, e⟩
 | .unit, _, _, e => ⟨rfl, e⟩
 | .list t, _, _, e => by simp only [dH, Bool.false_eq_true, if_false]; exact ⟨trivial, e⟩
 | .dh t, _, _, e => by simp only [dH, Bool.false_eq_true, if_false]; exact ⟨trivial, e⟩
 | .pair a b, _, _, ⟨c, d, e, h1, h2⟩ => ⟨c, d, [], [], e, rfl, sZ h1, sZ h2⟩
theorem Hy {M : Mem} (hM : pJ M) {T : Ty} {cs : List Cell} {x : T.den} {ids : List Nat} {vs : List Value} (h : bH M.ak (bif T.ob then .give else .keep) T cs = some (x, ids)) (hi : (T.ob || ids.isEmpty) = true) (hc : aD M cs vs) :
  (∃ ps, dH T.ob M.G M.h T x vs ps /\ blks ps = (ids.filterMap M.pl).flatMap Pl.bs) /\ ∀ j ∈ ids, Lv M.ak .give j := by
 cases hb : T.ob with
 | true =>
  rw [hb] at h
  exact ⟨vB hM h hc, mo h⟩
 | false =>
  rw [hb] at h hi
  obtain rfl : ids = [] := by simpa using hi
  exact ⟨⟨[], sZ (jm hM (fun _ h => h) (fun _ h => h) (fun h => by cases h) h hc (by simp) (by simp)), rfl⟩, by simp⟩
end Go.Flat
