/- A call to which rows of one's own are lent. No condition. -/
import Derived.Test.YtmocpfgfjeaelaaGreatCall2
set_option linter.unusedVariables false
set_option linter.unusedSimpArgs false
namespace Go.Flat
def Gn (σ : Nat -> Option Entry) : (T : Ty) -> T.den -> List (Option Nat) -> Prop
 | .list t, l, ids => (ids = [none] /\ l = []) \/ ∃ id o, ids = [some id] /\ σ id = some (.arr t l o) /\ o ≠ .frozen
 | .dh t, l, ids => (ids = [none] /\ l = []) \/ ∃ id n, ids = [some id] /\ σ id = some (.deep t l n)
 | .pair a b, x, ids => ∃ p q, ids = p ++ q /\ Gn σ a x.1 p /\ Gn σ b x.2 q
 | .bool, _, ids => ids = []
 | .int _, _, ids => ids = []
 | .str, _, ids => ids = []
 | .unit, _, ids => ids = []
def aax (e : Entry) : Prop := (∃ u l o, e = .arr u l o /\ o ≠ .frozen) \/ ∃ u l n, e = .deep u l n
theorem Gn.live {σ : Nat -> Option Entry} : ∀ {T : Ty} {x : T.den} {ids : List (Option Nat)}, Gn σ T x ids -> ∀ id, some id ∈ ids -> ∃ e, σ id = some e /\ aax e
 | .list t, l, ids, h, id, hid => by
  rcases h with ⟨rfl, _⟩ | ⟨j, o, rfl, h1, h2⟩
  ·simp at hid
  ·simp at hid; subst hid; exact ⟨_, h1, .inl ⟨t, l, o, rfl, h2⟩⟩
 | .dh t, l, ids, h, id, hid => by
  rcases h with ⟨rfl, _⟩ | ⟨j, o, rfl, h1⟩
  ·simp at hid
  ·simp at hid; subst hid; exact ⟨_, h1, .inr ⟨t, l, o, rfl⟩⟩
 | .pair a b, x, ids, ⟨p, q, e, h1, h2⟩, id, hid => by
  subst e
  rcases List.mem_append.1 hid with hid | hid
  ·exact h1.live id hid
  ·exact h2.live id hid
 | .bool, _, ids, h, id, hid => by have h : ids = [] := h; subst h; simp at hid
 | .int _, _, ids, h, id, hid => by have h : ids = [] := h; subst h; simp at hid
 | .str, _, ids, h, id, hid => by have h : ids = [] := h; subst h; simp at hid
 | .unit, _, ids, h, id, hid => by have h : ids = [] := h; subst h; simp at hid
def aay (G : Nat -> Prop) (h0 h : Array Obj) (e e' : Entry) (π : Option Pl) : Prop :=
 (∃ u l l' o, e = .arr u l o /\ o ≠ .frozen /\ e' = .arr u l' o /\ l'.length = l.length /\ oJ G h u l' π) \/
 ∃ u l l' n, e = .deep u l n /\ e' = .deep u l' n /\ l'.length = l.length /\ oF G h u l' π /\ ∀ p, π = some p -> ∀ i off, i < l.length -> (oD u)[off]? = some true -> hcell h p.b (p.o + i * u.sz + off) = hcell h0 p.b (p.o + i * u.sz + off)
theorem aay.bs {G : Nat -> Prop} {h0 h : Array Obj} {e e' : Entry} {π : Option Pl} (b : aay G h0 h e e' π) (p : Pl) : e'.bs p = e.bs p := by
 rcases b with ⟨_, _, _, _, rfl, _, rfl, _⟩ | ⟨_, _, _, _, rfl, rfl, _⟩ <;> rfl
theorem BI {C : dA} {F0 : lH} {A G : Nat -> Prop} {s : St} {a : Act} {w : World} {pl : Nat -> Option Pl} (i : Inv F0 G s a w pl) (qZ : ∀ b, F0 b \/ G b -> A b) (yU : ∀ id e p, s.ak id = some e -> pl id = some p -> ∀ b ∈ e.bs p, A b)
  {x : Nat} {b : Arg} : ∀ {ts : List TypeId} {vs : List aH} {n : Nat} {as : List Arg} {us : List Value},
  lg C s x b n ts vs = some as -> us.length = vs.length -> (∀ (j : Nat) c u, vs[j]? = some c -> us[j]? = some u -> eX (mem F0 G w.heap s.ak pl) c u) -> vs.any (fun v => v.cells.any (kK s)) = false ->
  us.length = as.length /\ (∀ j a' u, n + j ≠ x -> as[j]? = some a' -> us[j]? = some u -> a'.sV = false /\ ArgRel A G w.heap a' u) /\ ∀ j, n + j = x -> j < as.length -> as[j]? = some b
 | ts, [], n, as, us, h, hl, _, _ => by
  have : as = [] := by cases ts <;> simpa [lg] using h.symm
  subst this
  exact ⟨hl, fun j a' u _ hj => by simp at hj, fun j _ hj => by simp at hj⟩
 | [], v :: vs, n, as, us, h, hl, _, _ => by simp [lg] at h
 | t :: ts, v :: vs, n, as, us, h, hl, hr, hdp => by
  rw [List.any_cons, Bool.or_eq_false_iff] at hdp
  simp only [lg] at h
  split at h
  ·rename_i y rest hy hrest
   simp at h
   subst h
   cases us with
   | nil => simp at hl
   | cons u us =>
    obtain ⟨k1, k2, k3⟩ := BI i qZ yU hrest (by simpa using hl) (fun j c u' hj hu => hr (j + 1) c u' (by simpa using hj) (by simpa using hu)) hdp.2
    refine ⟨by simp [k1], fun j a' u' hne hj hu => ?_, fun j hj hlt => ?_⟩
    ·cases j with
     | succ j => exact k2 j a' u' (by omega) (by simpa using hj) (by simpa using hu)
     | zero =>
      simp at hj hu
      subst hj hu
      have hb : Nat.beq n x = false := by
       cases hb : Nat.beq n x with
       | false => rfl
       | true => exact absurd (Nat.eq_of_beq_eq_true hb) (by simpa using hne)
      rw [hb] at hy
      simp only [cond_false] at hy
      exact ⟨Nl hy, Nq i (fun _ h => h) qZ yU (hr 0 v u rfl rfl) hy (fun b hb => qZ b (.inr hb)) (fun h => by rw [hdp.1] at h; cases h)⟩
    ·cases j with
     | succ j => simpa using k3 j (by omega) (by simpa using hlt)
     | zero =>
      have : Nat.beq n x = true := by rw [show n = x by simpa using hj]; simp
      rw [this] at hy
      simp only [cond_true, Option.some.injEq] at hy
      simp [hy]
  ·cases h
end Go.Flat
