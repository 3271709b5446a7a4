/- The whole code of a function. No condition. -/
import Derived.Test.YtmocpfgfjeaelaaGreatCode2
import Derived.Deep.LoopGhost
set_option linter.unusedVariables false
set_option linter.unusedSimpArgs false
namespace Go.Flat
def rz : Ex -> Exit -> Prop
 | .normal, .normal => True
 | .exit i, .exit j => i = j
 | .ret, .ret => True
 | _, _ => False
def Post {R : Type} (F0 : mo) (G : Nat -> Prop) (w : World) (κ : K R) (r : R) : Exit -> Act -> World -> Prop := fun e a' w' =>
 ∃ x s' G' nX, rz x e /\ κ x s' = some r /\ Inv F0 G' s' a' w' nX /\ Fr F0 G w G' w'
section
variable {C : dn} {ah : FuncId -> (t : Ty) -> List Arg -> Option t.den}
def PS (C : dn) (ah : FuncId -> (t : Ty) -> List Arg -> Option t.den) : Prop :=
 ∀ {R : Type} {F0 : mo} {G : Nat -> Prop} {s : St} {a : Act} {w : World} {pl : Nat -> Option Pl} {κ : St -> Option R} {r : R} {Q : Exit -> Act -> World -> Prop} {ops : Array Oper} {id : Nat},
  (Pj C ops.toList || Ga C ops.toList s || Gb C ops.toList s || Gf C ops.toList s || (Gg C ops.toList s || (CB C ops.toList s || CF C ops.toList s))) = true -> Inv F0 G s a w pl -> xI C w F0 -> (DJ C ops.toList ops.toList.zipIdx s).run ah κ = some r -> (∀ a' w', AO F0 G w κ r a' w' -> Q .normal a' w') -> (Code.region id ops true).wp C.P Q a w
theorem Post.trans {R : Type} {F0 : mo} {G G1 : Nat -> Prop} {w w1 : World} {κ : K R} {r : R} (fr : Fr F0 G w G1 w1) {e : Exit} {a' : Act} {w' : World} (h : Post F0 G1 w1 κ r e a' w') : Post F0 G w κ r e a' w' := by
 obtain ⟨x, s', G', nX, h1, h2, h4, h5⟩ := h
 exact ⟨x, s', G', nX, h1, h2, h4, fr.trans h5⟩
theorem LQ (hop : ∀ o, mK C ah o) (Nr : PS C ah) (vars : List Nat) (k : Nat) : ∀ (c : Code) {R : Type} {F0 : mo} {G : Nat -> Prop} {s : St} {a : Act} {w : World} {pl : Nat -> Option Pl} {κ : K R} {r : R},
  lG C ah vars k c s κ = some r -> Inv F0 G s a w pl -> xI C w F0 -> c.wp C.P (Post F0 G w κ r) a w := by
 intro c
 induction c with
 | skip =>
  intro R F0 G s a w pl κ r h i ht
  exact wp_skip ⟨.normal, s, G, pl, trivial, h, i, Fr.refl _ _ _⟩
 | ret =>
  intro R F0 G s a w pl κ r h i ht
  exact wp_ret ⟨.ret, s, G, pl, trivial, h, i, Fr.refl _ _ _⟩
 | exit id =>
  intro R F0 G s a w pl κ r h i ht
  exact wp_exit ⟨.exit id, s, G, pl, rfl, h, i, Fr.refl _ _ _⟩
 | region id ops draw =>
  intro R F0 G s a w pl κ r h i ht
  simp only [lG] at h
  have fin : ∀ a' w', AO F0 G w (κ .normal) r a' w' -> Post F0 G w κ r .normal a' w' := fun a' w' hx => by
   obtain ⟨s', G', nX, hk, i', fr⟩ := hx
   exact ⟨.normal, s', G', nX, trivial, hk, i', fr⟩
  cases draw with
  | false =>
   simp only [Bool.false_and, cond_false] at h
   exact RP (fun o _ => hop o) i ht h fin
  | true =>
   simp only [Bool.true_and] at h
   cases hd : (Pj C ops.toList || Ga C ops.toList s || Gb C ops.toList s || Gf C ops.toList s || (Gg C ops.toList s || (CB C ops.toList s || CF C ops.toList s))) with
   | false => rw [hd] at h; simp at h
   | true =>
    rw [hd] at h
    exact Nr hd i ht (by simpa using h) fin
 | seq x y Tp ihy =>
  intro R F0 G s a w pl κ r h i ht
  simp only [lG] at h
  refine wp_seq (wp_mono (Tp h i ht) fun e a' w' hp => ?_)
  obtain ⟨ex, s', G', nX, h1, h2, h4, h5⟩ := hp
  cases ex with
  | normal =>
   cases e <;> simp [rz] at h1
   exact wp_mono (ihy (κ := κ) h2 h4 (ht.fr h5)) fun e a'' w'' hp => hp.trans h5
  | exit j =>
   cases e <;> simp [rz] at h1
   subst h1
   exact ⟨.exit _, s', G', nX, rfl, h2, h4, h5⟩
  | ret =>
   cases e <;> simp [rz] at h1
   exact ⟨.ret, s', G', nX, trivial, h2, h4, h5⟩
 | cond cnd x y Tp ihy =>
  intro R F0 G s a w pl κ r h i ht
  simp only [lG] at h
  have hc := i.slot cnd
  split at h
  ·rename_i hs; rw [hs] at hc; exact wp_cond_true hc (Tp h i ht)
  ·rename_i hs; rw [hs] at hc; exact wp_cond_false hc (ihy h i ht)
  ·rename_i p d hs
   rw [hs] at hc
   cases d with
   | isTrue hp => exact wp_cond_true hc (Tp h i ht)
   | isFalse hp => exact wp_cond_false hc (ihy h i ht)
  ·cases h
 | block id b ih =>
  intro R F0 G s a w pl κ r h i ht
  simp only [lG] at h
  refine wp_block (wp_mono (ih h i ht) fun e a' w' hp => ?_)
  obtain ⟨ex, s', G', nX, h1, h2, h4, h5⟩ := hp
  cases ex with
  | normal =>
   cases e <;> simp [rz] at h1
   exact ⟨.normal, s', G', nX, trivial, h2, h4, h5⟩
  | exit j =>
   cases e <;> simp [rz] at h1
   subst h1
   simp only [Pt] at h2
   simp only [Exit.inBlock]
   split
   ·rename_i hj
    subst hj
    have : Nat.beq j j = true := by simp
    rw [this] at h2
    exact ⟨.normal, s', G', nX, trivial, h2, h4, h5⟩
   ·rename_i hj
    have : Nat.beq j id = false := by
     cases hb : Nat.beq j id with
     | false => rfl
     | true => exact absurd (Nat.eq_of_beq_eq_true hb) hj
    rw [this] at h2
    exact ⟨.exit j, s', G', nX, rfl, h2, h4, h5⟩
  | ret =>
   cases e <;> simp [rz] at h1
   exact ⟨.ret, s', G', nX, trivial, h2, h4, h5⟩
 | loop b ih =>
  intro R F0 G s a w pl κ r h i ht
  simp only [lG] at h
  split at h
  ·rename_i hd hh
   obtain ⟨RQ, i0⟩ := QW i hh
   refine wp_loop_ghost (fun m a' w' => ∃ hd' G' nX, iter (Pv vars s) s.n (fun s κ => lG C ah vars k b s κ) κ m hd' = some r /\ Inv F0 G' (hd'.st s.n (Pv vars s)) a' w' nX /\ Fr F0 G w G' w') k ⟨hd, G, RQ, h, i0, Fr.refl _ _ _⟩ ?_
   intro m a1 w1 hI
   obtain ⟨hd1, G1, pl1, hit, i1, LG⟩ := hI
   cases m with
   | zero => simp [iter] at hit
   | succ m =>
    simp only [iter] at hit
    refine wp_mono (ih hit i1 (ht.fr LG)) fun e a2 w2 hp => ?_
    obtain ⟨ex, s2, G2, pl2, h1, h2, h4, h5⟩ := hp
    cases ex with
    | normal =>
     cases e <;> simp [rz] at h1
     simp only [Pq] at h2
     cases hb : Nat.beq s2.n s.n with
     | false => rw [hb] at h2; simp at h2
     | true =>
      rw [hb] at h2
      simp only [cond_true] at h2
      split at h2
      ·rename_i hd2 hh2
       obtain ⟨pl3, i3⟩ := QW h4 hh2
       rw [Nat.eq_of_beq_eq_true hb] at i3
       exact ⟨m, Nat.lt_succ_self m, hd2, G2, pl3, h2, i3, LG.trans h5⟩
      ·cases h2
    | exit j =>
     cases e <;> simp [rz] at h1
     subst h1
     exact ⟨.exit _, s2, G2, pl2, rfl, h2, h4, LG.trans h5⟩
    | ret =>
     cases e <;> simp [rz] at h1
     exact ⟨.ret, s2, G2, pl2, trivial, h2, h4, LG.trans h5⟩
  ·cases h
 | rangeFunc f ps x y _ _ => intro R F0 G s a w pl κ r h i ht; simp [lG] at h
 | scope b _ => intro R F0 G s a w pl κ r h i ht; simp [lG] at h
 | label l => intro R F0 G s a w pl κ r h i ht; simp [lG] at h
 | goto l => intro R F0 G s a w pl κ r h i ht; simp [lG] at h
 | refuse y => intro R F0 G s a w pl κ r h i ht; simp [lG] at h
end
end Go.Flat
