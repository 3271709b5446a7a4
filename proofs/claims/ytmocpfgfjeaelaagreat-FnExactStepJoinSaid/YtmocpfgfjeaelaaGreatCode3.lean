/- The whole code of a function. No condition. -/
import Derived.Test.YtmocpfgfjeaelaaGreatCode2
import Derived.Deep.LoopGhost
set_option linter.unusedVariables false
set_option linter.unusedSimpArgs false
namespace Go.Flat
def mJ:Ex->Exit->Prop
 | .normal,.normal=>True
 | .exit i,.exit j=>i=j
 | .ret,.ret=>True
 | _,_=>False
def Post {R:Type} (F0:jo) (G:Nat->Prop) (w:World) (κ:K R) (r:R):Exit->Act->World->Prop:=fun e a' w'=>
 ∃ x s' G' kK,mJ x e/\κ x s'=some r/\Inv F0 G' s' a' w' kK/\Fr F0 G w G' w'
section
variable {C:aZ} {ah:FuncId->(t:Ty)->List Arg->Option t.den}
def NT (C:aZ) (ah:FuncId->(t:Ty)->List Arg->Option t.den):Prop:=
 ∀ {R:Type} {F0:jo} {G:Nat->Prop} {s:St} {a:Act} {w:World} {pl:Nat->Option Pl} {κ:St->Option R} {r:R} {Q:Exit->Act->World->Prop} {ops:Array Oper} {id:Nat},
  (Np C ops.toList || EK C ops.toList s || EL C ops.toList s || EM C ops.toList s || (EN C ops.toList s || (Av C ops.toList s || Aw C ops.toList s)))=true->Inv F0 G s a w pl->qz C w F0->(BS C ops.toList ops.toList.zipIdx s).run ah κ=some r->(∀ a' w',sS F0 G w κ r a' w'->Q .normal a' w')->(Code.region id ops true).wp C.P Q a w
theorem Post.trans {R:Type} {F0:jo} {G G1:Nat->Prop} {w w1:World} {κ:K R} {r:R} (fr:Fr F0 G w G1 w1) {e:Exit} {a':Act} {w':World} (h:Post F0 G1 w1 κ r e a' w'):Post F0 G w κ r e a' w':=by
 obtain ⟨x,s',G',kK,h1,h2,h4,h5⟩:=h
 exact ⟨x,s',G',kK,h1,h2,h4,fr.trans h5⟩
theorem Pb {R:Type} {F0:jo} {κ:St->Option R} {r:R} {Q:Exit->Act->World->Prop} {ops:Array Oper} {vars:List Nat} {k id:Nat} (hop:∀ o ∈ ops,kD C ah o) :
  ∀ {l:List (Oper × Nat)} (hl:∀ o j,(o,j) ∈ l->ops[j]? = some o) {G:Nat->Prop} {s:St} {a:Act} {w:World} {pl:Nat->Option Pl},Inv F0 G s a w pl->qz C w F0->Nz C ah vars k ops.toList id κ l s=some r->
   (∀ a' w',sS F0 G w κ r a' w'->Q .normal a' w')->wpOps C.P ops Q (l.map (·.2)) a w
 | [],hl,G,s,a,w,pl,i,ht,h,hQ=>hQ a w ⟨s,G,pl,h,i,Fr.refl _ _ _⟩
 | (o,j) :: l,hl,G,s,a,w,pl,i,ht,h,hQ=>by
  have ho:=hl o j (by simp)
  have step:∀ {s:St} {pl:Nat->Option Pl},Inv F0 G s a w pl->(stepT C ops.toList j o s).run ah (Nz C ah vars k ops.toList id κ l)=some r->wpOps C.P ops Q (((o,j) :: l).map (·.2)) a w:=by
   intro s pl i h
   rw [List.map_cons,wpOps_cons]
   refine wpOp_mono (fun a' w' hn=>?_) (step_ok ho (hop o (Array.mem_of_getElem? ho)) i ht h)
   obtain ⟨s',G',kK,hk,i',fr⟩:=hn
   exact Pb hop (fun o j h=>hl o j (by simp [h])) i' (ht.fr fr) hk (fun a'' w'' hn'=>hQ a'' w'' (hn'.trans fr))
  simp only [Nz] at h
  cases hc:Uq vars id j with
  | false=>rw [hc] at h;exact step i h
  | true=>
   rw [hc] at h
   simp only [cond_true] at h
   split at h
   ·rename_i hd hh
    obtain ⟨Lb,i0⟩:=Ko i hh
    have:∃ k',k=k'+1:=by
     cases k with
     | zero=>simp [once] at h
     | succ k=>exact ⟨k,rfl⟩
    obtain ⟨k',hk⟩:=this
    refine step i0 ?_
    rw [hk] at h ⊢
    exact h
   ·cases h
theorem NU {R:Type} {F0:jo} {G:Nat->Prop} {s:St} {a:Act} {w:World} {pl:Nat->Option Pl} {κ:St->Option R} {r:R} {Q:Exit->Act->World->Prop} {ops:Array Oper} {vars:List Nat} {k id:Nat} (hop:∀ o ∈ ops,kD C ah o)
  (i:Inv F0 G s a w pl) (ht:qz C w F0) (h:Nz C ah vars k ops.toList id κ ops.toList.zipIdx s=some r) (hQ:∀ a' w',sS F0 G w κ r a' w'->Q .normal a' w'):(Code.region id ops false).wp C.P Q a w:=by
 refine wp_region ?_
 have:=Pb (Q:=Q) hop (l:=ops.toList.zipIdx) (fun o j hm=>by
  obtain ⟨h1,h2⟩:=List.mem_zipIdx' hm
  rw [<- Array.getElem?_toList,h2]
  exact List.getElem?_eq_getElem h1) i ht h hQ
 have hr:ops.toList.zipIdx.map (·.2)=List.range ops.size:=by
  rw [List.zipIdx_map_snd]
  simp [List.range_eq_range']
 rw [hr] at this
 exact this
theorem ES (hop:∀ o,kD C ah o) (Jm:NT C ah) (vars:List Nat) (k:Nat):∀ (c:Code) {R:Type} {F0:jo} {G:Nat->Prop} {s:St} {a:Act} {w:World} {pl:Nat->Option Pl} {κ:K R} {r:R},
  jN C ah vars k c s κ=some r->Inv F0 G s a w pl->qz C w F0->c.wp C.P (Post F0 G w κ r) a w:=by
 intro c
 induction c with
 | skip=>
  intro R F0 G s a w pl κ r h i ht
  exact wp_skip ⟨.normal,s,G,pl,trivial,h,i,Fr.refl _ _ _⟩
 | ret=>
  intro R F0 G s a w pl κ r h i ht
  exact wp_ret ⟨.ret,s,G,pl,trivial,h,i,Fr.refl _ _ _⟩
 | exit id=>
  intro R F0 G s a w pl κ r h i ht
  exact wp_exit ⟨.exit id,s,G,pl,rfl,h,i,Fr.refl _ _ _⟩
 | region id ops draw=>
  intro R F0 G s a w pl κ r h i ht
  simp only [jN] at h
  have reg:∀ {s:St} {pl:Nat->Option Pl},UH C ah ops draw s κ=some r->Inv F0 G s a w pl->(Code.region id ops draw).wp C.P (Post F0 G w κ r) a w:=by
   intro s pl h i
   unfold UH at h
   have fin:∀ a' w',sS F0 G w (κ .normal) r a' w'->Post F0 G w κ r .normal a' w':=fun a' w' hx=>by
    obtain ⟨s',G',kK,hk,i',fr⟩:=hx
    exact ⟨.normal,s',G',kK,trivial,hk,i',fr⟩
   cases draw with
   | false=>
    simp only [Bool.false_and,cond_false] at h
    exact PZ (fun o _=>hop o) i ht h fin
   | true=>
    simp only [Bool.true_and] at h
    cases hd:(Np C ops.toList || EK C ops.toList s || EL C ops.toList s || EM C ops.toList s || (EN C ops.toList s || (Av C ops.toList s || Aw C ops.toList s))) with
    | false=>rw [hd] at h;simp at h
    | true=>
     rw [hd] at h
     exact Jm hd i ht (by simpa using h) fin
  cases hc:(!draw && Rm vars id) with
  | false=>rw [hc] at h;exact reg (by simpa using h) i
  | true=>
   rw [hc] at h
   simp only [cond_true] at h
   have hd:draw=false:=by cases draw <;> simp_all
   subst hd
   exact NU (fun o _=>hop o) i ht h fun a' w' hx=>by
    obtain ⟨s',G',kK,hk,i',fr⟩:=hx
    exact ⟨.normal,s',G',kK,trivial,hk,i',fr⟩
 | seq x y QU ihy=>
  intro R F0 G s a w pl κ r h i ht
  simp only [jN] at h
  refine wp_seq (wp_mono (QU h i ht) fun e a' w' hp=>?_)
  obtain ⟨ex,s',G',kK,h1,h2,h4,h5⟩:=hp
  cases ex with
  | normal=>
   cases e <;> simp [mJ] at h1
   exact wp_mono (ihy (κ:=κ) h2 h4 (ht.fr h5)) fun e a'' w'' hp=>hp.trans h5
  | exit j=>
   cases e <;> simp [mJ] at h1
   subst h1
   exact ⟨.exit _,s',G',kK,rfl,h2,h4,h5⟩
  | ret=>
   cases e <;> simp [mJ] at h1
   exact ⟨.ret,s',G',kK,trivial,h2,h4,h5⟩
 | cond cnd x y QU ihy=>
  intro R F0 G s a w pl κ r h i ht
  simp only [jN] at h
  have hc:=i.slot cnd
  split at h
  ·rename_i hs;rw [hs] at hc;exact wp_cond_true hc (QU h i ht)
  ·rename_i hs;rw [hs] at hc;exact wp_cond_false hc (ihy h i ht)
  ·rename_i p d hs
   rw [hs] at hc
   cases d with
   | isTrue hp=>exact wp_cond_true hc (QU h i ht)
   | isFalse hp=>exact wp_cond_false hc (ihy h i ht)
  ·cases h
 | block id b ih=>
  intro R F0 G s a w pl κ r h i ht
  simp only [jN] at h
  refine wp_block (wp_mono (ih h i ht) fun e a' w' hp=>?_)
  obtain ⟨ex,s',G',kK,h1,h2,h4,h5⟩:=hp
  cases ex with
  | normal=>
   cases e <;> simp [mJ] at h1
   exact ⟨.normal,s',G',kK,trivial,h2,h4,h5⟩
  | exit j=>
   cases e <;> simp [mJ] at h1
   subst h1
   simp only [Ny] at h2
   simp only [Exit.inBlock]
   split
   ·rename_i hj
    subst hj
    have:Nat.beq j j=true:=by simp
    rw [this] at h2
    exact ⟨.normal,s',G',kK,trivial,h2,h4,h5⟩
   ·rename_i hj
    have:Nat.beq j id=false:=by
     cases hb:Nat.beq j id with
     | false=>rfl
     | true=>exact absurd (Nat.eq_of_beq_eq_true hb) hj
    rw [this] at h2
    exact ⟨.exit j,s',G',kK,rfl,h2,h4,h5⟩
  | ret=>
   cases e <;> simp [mJ] at h1
   exact ⟨.ret,s',G',kK,trivial,h2,h4,h5⟩
 | loop b ih=>
  intro R F0 G s a w pl κ r h i ht
  simp only [jN] at h
  split at h
  ·rename_i hd hh
   obtain ⟨Lb,i0⟩:=Ko i hh
   refine wp_loop_ghost (fun m a' w'=>∃ hd' G' kK,iter (Fw vars s) s.n (fun s κ=>jN C ah vars k b s κ) κ m hd'=some r/\Inv F0 G' (hd'.st s.n (Fw vars s)) a' w' kK/\Fr F0 G w G' w') k ⟨hd,G,Lb,h,i0,Fr.refl _ _ _⟩ ?_
   intro m a1 w1 hI
   obtain ⟨hd1,G1,pl1,hit,i1,Kg⟩:=hI
   cases m with
   | zero=>simp [iter] at hit
   | succ m=>
    simp only [iter] at hit
    refine wp_mono (ih hit i1 (ht.fr Kg)) fun e a2 w2 hp=>?_
    obtain ⟨ex,s2,G2,YO,h1,h2,h4,h5⟩:=hp
    cases ex with
    | normal=>
     cases e <;> simp [mJ] at h1
     simp only [Nw] at h2
     cases hb:Nat.beq s2.n s.n with
     | false=>rw [hb] at h2;simp at h2
     | true=>
      rw [hb] at h2
      simp only [cond_true] at h2
      split at h2
      ·rename_i hd2 Zy
       obtain ⟨Zz,i3⟩:=Ko h4 Zy
       rw [Nat.eq_of_beq_eq_true hb] at i3
       exact ⟨m,Nat.lt_succ_self m,hd2,G2,Zz,h2,i3,Kg.trans h5⟩
      ·cases h2
    | exit j=>
     cases e <;> simp [mJ] at h1
     subst h1
     exact ⟨.exit _,s2,G2,YO,rfl,h2,h4,Kg.trans h5⟩
    | ret=>
     cases e <;> simp [mJ] at h1
     exact ⟨.ret,s2,G2,YO,trivial,h2,h4,Kg.trans h5⟩
  ·cases h
 | rangeFunc f ps x y _ _=>intro R F0 G s a w pl κ r h i ht;simp [jN] at h
 | scope b _=>intro R F0 G s a w pl κ r h i ht;simp [jN] at h
 | label l=>intro R F0 G s a w pl κ r h i ht;simp [jN] at h
 | goto l=>intro R F0 G s a w pl κ r h i ht;simp [jN] at h
 | refuse y=>intro R F0 G s a w pl κ r h i ht;simp [jN] at h
end
end Go.Flat
