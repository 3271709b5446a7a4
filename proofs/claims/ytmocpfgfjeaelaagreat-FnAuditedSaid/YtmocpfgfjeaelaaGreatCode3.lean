/- The whole code of a function. No condition. -/
import Derived.Test.YtmocpfgfjeaelaaGreatCode2
import Derived.Deep.LoopGhost
set_option linter.unusedVariables false
set_option linter.unusedSimpArgs false
namespace Go.Flat

def ExIs : Ex → Exit → Prop
  | .normal, .normal => True
  | .exit i, .exit j => i = j
  | .ret, .ret => True
  | _, _ => False

/-- What follows a piece of code. -/
def Post {R : Type} (F0 : Fr0) (G : Nat → Prop) (w : World) (κ : K R) (r : R) : Exit → Act → World → Prop := fun e a' w' =>
  ∃ x s' G' pl', ExIs x e ∧ κ x s' = some r ∧ Inv F0 G' s' a' w' pl' ∧ Fr F0 G w G' w'

section
variable {C : Cfg} {callF : FuncId → (t : Ty) → List Arg → Option t.den}

/-- What is owed of the regions that draw. -/
def DrawOk (C : Cfg) (callF : FuncId → (t : Ty) → List Arg → Option t.den) : Prop :=
  ∀ {R : Type} {F0 : Fr0} {G : Nat → Prop} {s : St} {a : Act} {w : World} {pl : Nat → Option Pl} {κ : St → Option R} {r : R} {Q : Exit → Act → World → Prop} {ops : Array Oper} {id : Nat},
    (drawOk C ops.toList || drawDyn C ops.toList s || drawApp C ops.toList s || drawMov C ops.toList s || (drawBox C ops.toList s || (drawLook C ops.toList s || drawSide C ops.toList s))) = true → Inv F0 G s a w pl → TabF C w F0 → (opsT C ops.toList ops.toList.zipIdx s).run callF κ = some r → (∀ a' w', Nxt F0 G w κ r a' w' → Q .normal a' w') → (Code.region id ops true).wp C.P Q a w

theorem Post.trans {R : Type} {F0 : Fr0} {G G1 : Nat → Prop} {w w1 : World} {κ : K R} {r : R} (fr : Fr F0 G w G1 w1) {e : Exit} {a' : Act} {w' : World} (h : Post F0 G1 w1 κ r e a' w') : Post F0 G w κ r e a' w' := by
  obtain ⟨x, s', G', pl', h1, h2, h4, h5⟩ := h
  exact ⟨x, s', G', pl', h1, h2, h4, fr.trans h5⟩

theorem code_ok (hop : ∀ o, OpOk C callF o) (hdraw : DrawOk C callF) (vars : List Nat) (k : Nat) : ∀ (c : Code) {R : Type} {F0 : Fr0} {G : Nat → Prop} {s : St} {a : Act} {w : World} {pl : Nat → Option Pl} {κ : K R} {r : R},
    codeC C callF vars k c s κ = some r → Inv F0 G s a w pl → TabF C w F0 → c.wp C.P (Post F0 G w κ r) a w := by
  intro c
  induction c with
  | skip =>
    intro R F0 G s a w pl κ r h i ht
    exact wp_skip ⟨.normal, s, G, pl, trivial, h, i, Fr.refl _ _ _⟩
  | ret =>
    intro R F0 G s a w pl κ r h i ht
    exact wp_ret ⟨.ret, s, G, pl, trivial, h, i, Fr.refl _ _ _⟩
  | exit id =>
    intro R F0 G s a w pl κ r h i ht
    exact wp_exit ⟨.exit id, s, G, pl, rfl, h, i, Fr.refl _ _ _⟩
  | region id ops draw =>
    intro R F0 G s a w pl κ r h i ht
    simp only [codeC] at h
    have fin : ∀ a' w', Nxt F0 G w (κ .normal) r a' w' → Post F0 G w κ r .normal a' w' := fun a' w' hx => by
      obtain ⟨s', G', pl', hk, i', fr⟩ := hx
      exact ⟨.normal, s', G', pl', trivial, hk, i', fr⟩
    cases draw with
    | false =>
      simp only [Bool.false_and, cond_false] at h
      exact region_ok (fun o _ => hop o) i ht h fin
    | true =>
      simp only [Bool.true_and] at h
      cases hd : (drawOk C ops.toList || drawDyn C ops.toList s || drawApp C ops.toList s || drawMov C ops.toList s || (drawBox C ops.toList s || (drawLook C ops.toList s || drawSide C ops.toList s))) with
      | false => rw [hd] at h; simp at h
      | true =>
        rw [hd] at h
        exact hdraw hd i ht (by simpa using h) fin
  | seq x y ihx ihy =>
    intro R F0 G s a w pl κ r h i ht
    simp only [codeC] at h
    refine wp_seq (wp_mono (ihx h i ht) fun e a' w' hp => ?_)
    obtain ⟨ex, s', G', pl', h1, h2, h4, h5⟩ := hp
    cases ex with
    | normal =>
      cases e <;> simp [ExIs] at h1
      exact wp_mono (ihy (κ := κ) h2 h4 (ht.fr h5)) fun e a'' w'' hp => hp.trans h5
    | exit j =>
      cases e <;> simp [ExIs] at h1
      subst h1
      exact ⟨.exit _, s', G', pl', rfl, h2, h4, h5⟩
    | ret =>
      cases e <;> simp [ExIs] at h1
      exact ⟨.ret, s', G', pl', trivial, h2, h4, h5⟩
  | cond cnd x y ihx ihy =>
    intro R F0 G s a w pl κ r h i ht
    simp only [codeC] at h
    have hc := i.slot cnd
    split at h
    · rename_i hs; rw [hs] at hc; exact wp_cond_true hc (ihx h i ht)
    · rename_i hs; rw [hs] at hc; exact wp_cond_false hc (ihy h i ht)
    · rename_i p d hs
      rw [hs] at hc
      cases d with
      | isTrue hp => exact wp_cond_true hc (ihx h i ht)
      | isFalse hp => exact wp_cond_false hc (ihy h i ht)
    · cases h
  | block id b ih =>
    intro R F0 G s a w pl κ r h i ht
    simp only [codeC] at h
    refine wp_block (wp_mono (ih h i ht) fun e a' w' hp => ?_)
    obtain ⟨ex, s', G', pl', h1, h2, h4, h5⟩ := hp
    cases ex with
    | normal =>
      cases e <;> simp [ExIs] at h1
      exact ⟨.normal, s', G', pl', trivial, h2, h4, h5⟩
    | exit j =>
      cases e <;> simp [ExIs] at h1
      subst h1
      simp only [blockK] at h2
      simp only [Exit.inBlock]
      split
      · rename_i hj
        subst hj
        have : Nat.beq j j = true := by simp
        rw [this] at h2
        exact ⟨.normal, s', G', pl', trivial, h2, h4, h5⟩
      · rename_i hj
        have : Nat.beq j id = false := by
          cases hb : Nat.beq j id with
          | false => rfl
          | true => exact absurd (Nat.eq_of_beq_eq_true hb) hj
        rw [this] at h2
        exact ⟨.exit j, s', G', pl', rfl, h2, h4, h5⟩
    | ret =>
      cases e <;> simp [ExIs] at h1
      exact ⟨.ret, s', G', pl', trivial, h2, h4, h5⟩
  | loop b ih =>
    intro R F0 G s a w pl κ r h i ht
    simp only [codeC] at h
    split at h
    · rename_i hd hh
      obtain ⟨pl0, i0⟩ := head_ok i hh
      refine wp_loop_ghost (fun m a' w' => ∃ hd' G' pl', iter (keepOf vars s) s.n (fun s κ => codeC C callF vars k b s κ) κ m hd' = some r ∧ Inv F0 G' (hd'.st s.n (keepOf vars s)) a' w' pl' ∧ Fr F0 G w G' w') k ⟨hd, G, pl0, h, i0, Fr.refl _ _ _⟩ ?_
      intro m a1 w1 hI
      obtain ⟨hd1, G1, pl1, hit, i1, fr1⟩ := hI
      cases m with
      | zero => simp [iter] at hit
      | succ m =>
        simp only [iter] at hit
        refine wp_mono (ih hit i1 (ht.fr fr1)) fun e a2 w2 hp => ?_
        obtain ⟨ex, s2, G2, pl2, h1, h2, h4, h5⟩ := hp
        cases ex with
        | normal =>
          cases e <;> simp [ExIs] at h1
          simp only [againK] at h2
          cases hb : Nat.beq s2.n s.n with
          | false => rw [hb] at h2; simp at h2
          | true =>
            rw [hb] at h2
            simp only [cond_true] at h2
            split at h2
            · rename_i hd2 hh2
              obtain ⟨pl3, i3⟩ := head_ok h4 hh2
              rw [Nat.eq_of_beq_eq_true hb] at i3
              exact ⟨m, Nat.lt_succ_self m, hd2, G2, pl3, h2, i3, fr1.trans h5⟩
            · cases h2
        | exit j =>
          cases e <;> simp [ExIs] at h1
          subst h1
          exact ⟨.exit _, s2, G2, pl2, rfl, h2, h4, fr1.trans h5⟩
        | ret =>
          cases e <;> simp [ExIs] at h1
          exact ⟨.ret, s2, G2, pl2, trivial, h2, h4, fr1.trans h5⟩
    · cases h
  | rangeFunc f ps x y _ _ => intro R F0 G s a w pl κ r h i ht; simp [codeC] at h
  | scope b _ => intro R F0 G s a w pl κ r h i ht; simp [codeC] at h
  | label l => intro R F0 G s a w pl κ r h i ht; simp [codeC] at h
  | goto l => intro R F0 G s a w pl κ r h i ht; simp [codeC] at h
  | refuse y => intro R F0 G s a w pl κ r h i ht; simp [codeC] at h
end

end Go.Flat
