/- How the state goes on when memory grows, a row is added, written, laid for good, or no longer named. No condition. -/
import Derived.Test.YtkfnhbdloidfmaaOps2
set_option linter.unusedVariables false
set_option linter.unusedSimpArgs false
namespace Go.Flat

def Entry.ids : Entry → List Nat
  | .box _ cs => cs.flatMap Cell.ids
  | .arr _ _ _ => []

theorem Goes.entry {D : Nat → Prop} {M M' : Mem} (g : Goes D M M') {e : Entry} {π : Option Pl} (hb : ∀ p, π = some p → M'.h[p.b]? = M.h[p.b]?) (hn : ∀ p, π = some p → ¬ M.F p.b → ¬ M'.F p.b)
    (hd : ∀ id ∈ e.ids, ¬ D id) (h : EntryRel M e π) : EntryRel M' e π := by
  cases e with
  | box t cs =>
    obtain ⟨p, c, e, fz, hp, ho, hh, hfz, hsz, hcs, hty, hrel, hF⟩ := h
    exact ⟨p, c, e, fz, hp, ho, by rw [hb p hp]; exact hh, hfz, hsz, hcs, hty, g.cells (fun c hc id hid => hd id (by simp only [Entry.ids, List.mem_flatMap]; exact ⟨c, hc, hid⟩)) hrel, hn p hp hF⟩
  | arr t l o =>
    obtain ⟨ha, hp⟩ := h
    exact ⟨g.arrAt hb ha, fun p hpp => ⟨fun ho => g.G _ ((hp p hpp).1 ho), fun ho => hn p hpp ((hp p hpp).2 ho)⟩⟩

theorem EntryRel.lt {M : Mem} {e : Entry} {p : Pl} (h : EntryRel M e (some p)) : p.b < M.h.size := by
  cases e with
  | box t cs =>
    obtain ⟨p', c, e, fz, hp, ho, hh, _⟩ := h
    simp at hp
    subst hp
    exact (Array.getElem?_eq_some_iff.1 hh).1
  | arr t l o =>
    obtain ⟨⟨c, e, fz, hh, _⟩, _⟩ := h
    exact (Array.getElem?_eq_some_iff.1 hh).1

theorem StoRel.lt_pl {M : Mem} (h : StoRel M) {id : Nat} {e : Entry} {p : Pl} (he : M.sto id = some e) (hp : M.pl id = some p) : p.b < M.h.size := by
  have := h.ent id e he
  rw [hp] at this
  exact this.lt

theorem Inv.slots {F0 : Fr0} {G G' : Nat → Prop} {s s' : St} {a : Act} {w w' : World} {pl pl' : Nat → Option Pl} (i : Inv F0 G s a w pl) (g : Goes (fun _ => False) (mem F0 G w.heap s.sto pl) (mem F0 G' w'.heap s'.sto pl'))
    (he : s'.env = s.env) (hn : s'.n = s.n) (hs : StoRel (mem F0 G' w'.heap s'.sto pl')) : Inv F0 G' s' a w' pl' :=
  ⟨by rw [hn]; exact i.size, fun t => by rw [he]; exact g.slot (fun _ _ h => h) (i.env t), hs, i.defers⟩

/-- Memory grows: what was there is as it was. -/
theorem Inv.grow {F0 : Fr0} {G G' : Nat → Prop} {s : St} {a : Act} {w w' : World} {pl : Nat → Option Pl} (i : Inv F0 G s a w pl) (hsz : w.heap.size ≤ w'.heap.size) (hstr : Str w w') (hh : ∀ b, b < w.heap.size → w'.heap[b]? = w.heap[b]?)
    (hG : ∀ b, G b → G' b) (hn : ∀ b, G' b → G b ∨ (w.heap.size ≤ b ∧ b < w'.heap.size)) : Inv F0 G' s a w' pl ∧ Fr F0 G w G' w' := by
  have hF : ∀ b, (F0 b ∨ G' b) → (F0 b ∨ G b) ∨ w.heap.size ≤ b := by
    intro b hb
    rcases hb with hb | hb
    · exact .inl (.inl hb)
    · rcases hn b hb with h | h
      · exact .inl (.inr h)
      · exact .inr h.1
  have g : Goes (fun _ => False) (mem F0 G w.heap s.sto pl) (mem F0 G' w'.heap s.sto pl) :=
    ⟨fun b hb => hb.imp id (hG b), hG, i.sto.gf, fun b hb => hh b (i.sto.lt b hb), fun id e _ he => ⟨e, he, e.like_refl, rfl⟩⟩
  refine ⟨i.slots g rfl rfl ⟨fun b hb => .inr hb, fun b hb => ?_, fun id e he => ?_, i.sto.apart, i.sto.pin⟩, fun b hb => hh b (i.sto.lt b hb), hG, fun b hb hf => ?_, hsz, hstr⟩
  · rcases hb with hb | hb
    · exact Nat.lt_of_lt_of_le (i.sto.lt b (.inl hb)) hsz
    · rcases hn b hb with h | h
      · exact Nat.lt_of_lt_of_le (i.sto.lt b (.inr h)) hsz
      · exact h.2
  · refine g.entry (fun p hp => hh _ (i.sto.lt_pl he hp)) (fun p hp hnF hF' => ?_) (fun _ _ h => h) (i.sto.ent id e he)
    rcases hF p.b hF' with h | h
    · exact hnF h
    · have := i.sto.lt_pl he hp
      exact absurd this (Nat.not_lt.2 h)
  · rcases hn b hb with h | h
    · exact h
    · have := i.sto.lt b (.inl hf)
      exact absurd this (Nat.not_lt.2 h.1)

/-- A row of one's own more. -/
theorem Inv.add {F0 : Fr0} {G : Nat → Prop} {s : St} {a : Act} {w : World} {pl : Nat → Option Pl} (i : Inv F0 G s a w pl) {key : Nat} {E : Entry} {π : Option Pl} (hk : s.sto key = none)
    (hE : EntryRel (mem F0 G w.heap s.sto pl) E π) (hd : ∀ id e p q, s.sto id = some e → pl id = some p → π = some q → p.b ≠ q.b) (hpin : ∀ t l n, E ≠ .arr t l (.pinned n) := by intro _ _ _ h; cases h) :
    Inv F0 G { s with sto := upd s.sto key (some E) } a w (upd pl key π) := by
  have hne : ∀ {id e}, s.sto id = some e → id ≠ key := by
    intro id e he h
    subst h
    rw [hk] at he
    cases he
  have g : Goes (fun _ => False) (mem F0 G w.heap s.sto pl) (mem F0 G w.heap (upd s.sto key (some E)) (upd pl key π)) :=
    ⟨fun _ h => h, fun _ h => h, i.sto.gf, fun _ _ => rfl, fun id e _ he => ⟨e, by
      show upd s.sto key (some E) id = some e
      rw [upd_ne _ _ (hne he)]; exact he, e.like_refl, by
      show upd pl key π id = pl id
      rw [upd_ne _ _ (hne he)]⟩⟩
  refine i.slots g rfl rfl ⟨i.sto.gf, i.sto.lt, fun id e he => ?_, fun x y ex ey p q hx hy hxy hp hq => ?_, fun id t l n he => by
    have he : upd s.sto key (some E) id = some (.arr t l (.pinned n)) := he
    by_cases h : id = key
    · subst h
      rw [upd_same] at he
      exact absurd (Option.some.inj he) (hpin t l n)
    · rw [upd_ne _ _ h] at he
      show upd pl key π id = _ ∧ _
      rw [upd_ne _ _ h]
      exact i.sto.pin id t l n he⟩
  · by_cases h : id = key
    · subst h
      have he : upd s.sto id (some E) id = some e := he
      rw [upd_same] at he
      cases he
      show EntryRel _ _ (upd pl id π id)
      rw [upd_same]
      exact g.entry (fun _ _ => rfl) (fun _ _ h => h) (fun _ _ h => h) hE
    · have he : upd s.sto key (some E) id = some e := he
      rw [upd_ne _ _ h] at he
      show EntryRel _ _ (upd pl key π id)
      rw [upd_ne _ _ h]
      exact g.entry (fun _ _ => rfl) (fun _ _ h => h) (fun _ _ h => h) (i.sto.ent id e he)
  · have hx : upd s.sto key (some E) x = some ex := hx
    have hy : upd s.sto key (some E) y = some ey := hy
    have hp : upd pl key π x = some p := hp
    have hq : upd pl key π y = some q := hq
    by_cases h1 : x = key
    · have h2 : y ≠ key := fun e => hxy (h1.trans e.symm)
      exact fun e => hd y ey q p ((upd_ne _ _ h2).symm.trans hy) ((upd_ne _ _ h2).symm.trans hq) (by rw [h1, upd_same] at hp; exact hp) e.symm
    · by_cases h2 : y = key
      · exact hd x ex p q ((upd_ne _ _ h1).symm.trans hx) ((upd_ne _ _ h1).symm.trans hp) (by rw [h2, upd_same] at hq; exact hq)
      · exact i.sto.apart x y ex ey p q ((upd_ne _ _ h1).symm.trans hx) ((upd_ne _ _ h2).symm.trans hy) hxy ((upd_ne _ _ h1).symm.trans hp) ((upd_ne _ _ h2).symm.trans hq)

/-- A block is written that one entry alone holds. -/
theorem Inv.write {F0 : Fr0} {G : Nat → Prop} {s : St} {a : Act} {w w' : World} {pl : Nat → Option Pl} (i : Inv F0 G s a w pl) {id : Nat} {E E' : Entry} {p : Pl} (hs : s.sto id = some E) (hp : pl id = some p) (hF : ¬ (F0 p.b ∨ G p.b))
    (hsz : w'.heap.size = w.heap.size) (hstr : Str w w') (hh : ∀ b, b ≠ p.b → w'.heap[b]? = w.heap[b]?) (hlike : E.like E')
    (hE : Goes (fun _ => False) (mem F0 G w.heap s.sto pl) (mem F0 G w'.heap (upd s.sto id (some E')) pl) → EntryRel (mem F0 G w'.heap (upd s.sto id (some E')) pl) E' (some p))
    (hpin : ∀ t l n, E' = .arr t l (.pinned n) → ∃ l0, E = .arr t l0 (.pinned n) := by intro _ _ _ h; first | (cases h; done) | (cases h; exact ⟨_, rfl⟩)) :
    Inv F0 G { s with sto := upd s.sto id (some E') } a w' pl ∧ Fr F0 G w G w' := by
  have hFne : ∀ b, F0 b ∨ G b → b ≠ p.b := fun b hb e => hF (e ▸ hb)
  have g : Goes (fun _ => False) (mem F0 G w.heap s.sto pl) (mem F0 G w'.heap (upd s.sto id (some E')) pl) :=
    ⟨fun _ h => h, fun _ h => h, i.sto.gf, fun b hb => hh b (hFne b hb), fun j e _ he => by
      by_cases h : j = id
      · subst h
        have he : s.sto j = some e := he
        rw [hs] at he
        cases he
        exact ⟨E', upd_same _ _ _, hlike, rfl⟩
      · exact ⟨e, (upd_ne _ _ h).trans he, e.like_refl, rfl⟩⟩
  refine ⟨i.slots g rfl rfl ⟨i.sto.gf, fun b hb => by show b < w'.heap.size; rw [hsz]; exact i.sto.lt b hb, fun j e he => ?_, fun x y ex ey q q' hx hy hxy hq hq' => ?_, fun j t l n he => by
    have he : upd s.sto id (some E') j = some (.arr t l (.pinned n)) := he
    by_cases h : j = id
    · subst h
      rw [upd_same] at he
      have he := Option.some.inj he
      obtain ⟨l0, rfl⟩ := hpin t l n he
      subst he
      obtain ⟨_, hll⟩ := hlike
      obtain ⟨k1, k2⟩ := i.sto.pin j t l0 n hs
      exact ⟨k1, hll.symm.trans k2⟩
    · rw [upd_ne _ _ h] at he
      exact i.sto.pin j t l n he⟩, fun b hb => hh b (hFne b hb), fun _ h => h, fun _ h _ => h, by rw [hsz]; exact Nat.le_refl _, hstr⟩
  · by_cases h : j = id
    · subst h
      have he : upd s.sto j (some E') j = some e := he
      rw [upd_same] at he
      cases he
      show EntryRel _ _ (pl j)
      rw [hp]
      exact hE g
    · have he : upd s.sto id (some E') j = some e := he
      rw [upd_ne _ _ h] at he
      refine g.entry (fun q hq => hh _ ?_) (fun _ _ h => h) (fun _ _ h => h) (i.sto.ent j e he)
      exact i.sto.apart j id e E q p he hs h hq hp
  · have key : ∀ {z ez}, upd s.sto id (some E') z = some ez → ∃ ez', s.sto z = some ez' := by
      intro z ez hz
      by_cases h : z = id
      · subst h; exact ⟨E, hs⟩
      · rw [upd_ne _ _ h] at hz; exact ⟨ez, hz⟩
    obtain ⟨ex', hx'⟩ := key hx
    obtain ⟨ey', hy'⟩ := key hy
    exact i.sto.apart x y ex' ey' q q' hx' hy' hxy hq hq'

/-- A row is laid for good. -/
theorem Inv.freeze {F0 : Fr0} {G : Nat → Prop} {s : St} {a : Act} {w : World} {pl : Nat → Option Pl} (i : Inv F0 G s a w pl) {id : Nat} {t : Ty} {l : List t.den} {o : Own} (hs : s.sto id = some (.arr t l o))
    (ho : ∀ n, o ≠ .pinned n) :
    Inv F0 (fun b => G b ∨ ∃ p, pl id = some p ∧ b = p.b) { s with sto := upd s.sto id (some (.arr t l .frozen)) } a w pl ∧ Fr F0 G w (fun b => G b ∨ ∃ p, pl id = some p ∧ b = p.b) w := by
  have hent := i.sto.ent id _ hs
  have g : Goes (fun _ => False) (mem F0 G w.heap s.sto pl) (mem F0 (fun b => G b ∨ ∃ p, pl id = some p ∧ b = p.b) w.heap (upd s.sto id (some (.arr t l .frozen))) pl) :=
    ⟨fun b h => h.imp (fun x => x) .inl, fun b h => .inl h, i.sto.gf, fun _ _ => rfl, fun j e _ he => by
      by_cases h : j = id
      · subst h
        have he : s.sto j = some e := he
        rw [hs] at he
        cases he
        exact ⟨_, upd_same _ _ _, ⟨rfl, rfl⟩, rfl⟩
      · exact ⟨e, (upd_ne _ _ h).trans he, e.like_refl, rfl⟩⟩
  refine ⟨i.slots g rfl rfl ⟨fun b hb => .inr hb, fun b hb => ?_, fun j e he => ?_, fun x y ex ey q q' hx hy hxy hq hq' => ?_, fun j t' l' n he => by
    have he : upd s.sto id (some (.arr t l .frozen)) j = some (.arr t' l' (.pinned n)) := he
    by_cases h : j = id
    · subst h
      rw [upd_same] at he
      cases he
    · rw [upd_ne _ _ h] at he
      exact i.sto.pin j t' l' n he⟩, fun _ _ => rfl, fun b h => .inl h, fun b hb hf => ?_, Nat.le_refl _, Str.refl _⟩
  · rcases hb with hb | hb | ⟨p, hp, rfl⟩
    · exact i.sto.lt b (.inl hb)
    · exact i.sto.lt b (.inr hb)
    · exact i.sto.lt_pl hs hp
  · by_cases h : j = id
    · subst h
      have he : upd s.sto j (some (.arr t l .frozen)) j = some e := he
      rw [upd_same] at he
      cases he
      exact ⟨g.arrAt (fun _ _ => rfl) hent.1, fun p hp => ⟨fun _ => .inr ⟨p, hp, rfl⟩, fun h => absurd rfl h⟩⟩
    · have he : upd s.sto id (some (.arr t l .frozen)) j = some e := he
      rw [upd_ne _ _ h] at he
      refine g.entry (fun _ _ => rfl) (fun q hq hn hF => ?_) (fun _ _ h => h) (i.sto.ent j e he)
      rcases hF with hF | hF | ⟨p, hp, hqp⟩
      · exact hn (.inl hF)
      · exact hn (.inr hF)
      · exact i.sto.apart j id e _ q p he hs h hq hp hqp
  · have key : ∀ {z ez}, upd s.sto id (some (.arr t l .frozen)) z = some ez → ∃ ez', s.sto z = some ez' := by
      intro z ez hz
      by_cases h : z = id
      · subst h; exact ⟨_, hs⟩
      · rw [upd_ne _ _ h] at hz; exact ⟨ez, hz⟩
    obtain ⟨ex', hx'⟩ := key hx
    obtain ⟨ey', hy'⟩ := key hy
    exact i.sto.apart x y ex' ey' q q' hx' hy' hxy hq hq'
  · rcases hb with hb | ⟨p, hp, rfl⟩
    · exact hb
    · have := hent.2 p hp
      cases o with
      | frozen => exact this.1 rfl
      | «open» => exact absurd (.inl hf) (this.2 (by simp))
      | pinned n => exact absurd rfl (ho n)

theorem freezeAll_ok {F0 : Fr0} {a : Act} {w : World} {pl : Nat → Option Pl} : ∀ {ids : List Nat} {G : Nat → Prop} {s : St}, Inv F0 G s a w pl →
    (∀ id ∈ ids, ∀ t l n, s.sto id ≠ some (.arr t l (.pinned n))) →
    ∃ G', Inv F0 G' { s with sto := freezeAll s.sto ids } a w pl ∧ Fr F0 G w G' w ∧ (∀ id ∈ ids, ∀ t l o, s.sto id = some (.arr t l o) → ∀ p, pl id = some p → G' p.b) ∧
      (∀ k, s.sto k = none → freezeAll s.sto ids k = none) := by
  intro ids
  induction ids with
  | nil => intro G s i _; exact ⟨G, i, Fr.refl _ _ _, fun id h => by simp at h, fun k h => h⟩
  | cons id ids ih =>
    intro G s i hp
    have hno : ∀ {σ : Nat → Option Entry}, (∀ t l o, σ id ≠ some (.arr t l o)) → freezeAll σ (id :: ids) = freezeAll σ ids := by
      intro σ h
      simp only [freezeAll]
    by_cases h : ∃ t l o, s.sto id = some (.arr t l o)
    · obtain ⟨t, l, o, hs⟩ := h
      have ho : ∀ n, o ≠ .pinned n := fun n e => hp id (by simp) t l n (e ▸ hs)
      obtain ⟨i', fr⟩ := i.freeze hs ho
      have hp' : ∀ j ∈ ids, ∀ t' l' n', ({ s with sto := upd s.sto id (some (.arr t l .frozen)) } : St).sto j ≠ some (.arr t' l' (.pinned n')) := by
        intro j hj t' l' n' he
        by_cases hji : j = id
        · subst hji
          have he : upd s.sto j (some (.arr t l .frozen)) j = _ := he
          rw [upd_same] at he
          cases he
        · exact hp j (by simp [hj]) t' l' n' ((upd_ne s.sto _ hji).symm.trans he)
      obtain ⟨G', i'', fr', hG, hk⟩ := ih i' hp'
      have heq : freezeAll s.sto (id :: ids) = freezeAll (upd s.sto id (some (.arr t l .frozen))) ids := by simp only [freezeAll, hs]
      refine ⟨G', by rw [heq]; exact i'', fr.trans fr', fun j hj t' l' o' he p hpp => ?_, fun k hk0 => ?_⟩
      · by_cases hji : j = id
        · subst hji
          exact fr'.more _ (.inr ⟨p, hpp, rfl⟩)
        · rcases List.mem_cons.1 hj with hj | hj
          · exact absurd hj hji
          · exact hG j hj t' l' o' ((upd_ne s.sto _ hji).trans he) p hpp
      · rw [heq]
        refine hk k ?_
        by_cases hki : k = id
        · subst hki; rw [hs] at hk0; cases hk0
        · exact (upd_ne s.sto _ hki).trans hk0
    · have hne : ∀ t l o, s.sto id ≠ some (.arr t l o) := fun t l o he => h ⟨t, l, o, he⟩
      obtain ⟨G', i', fr, hG, hk⟩ := ih i (fun j hj => hp j (by simp [hj]))
      rw [hno hne]
      refine ⟨G', i', fr, fun j hj t l o he p hpp => ?_, hk⟩
      rcases List.mem_cons.1 hj with rfl | hj
      · exact absurd he (hne t l o)
      · exact hG j hj t l o he p hpp

end Go.Flat
