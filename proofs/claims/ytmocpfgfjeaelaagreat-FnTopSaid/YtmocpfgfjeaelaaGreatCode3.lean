/- The whole code of a function. No condition. -/
import Derived.Test.YtmocpfgfjeaelaaGreatCode2
import Derived.Deep.LoopGhost
set_option linter.unusedVariables false
set_option linter.unusedSimpArgs false
namespace Go.Flat
def sw:Ex->Exit->Prop
 | .normal,.normal=>True
 | .exit i,.exit j=>i=j
 | .ret,.ret=>True
 | _,_=>False
def Post {R:Type} (F0:lS) (G:Nat->Prop) (w:World) (κ:K R) (r:R):Exit->Act->World->Prop:=fun e a' w'=>
 ∃ x s' G' nP,sw x e/\κ x s'=some r/\Inv F0 G' s' a' w' nP/\Fr F0 G w G' w'
section
variable {C:dh} {ah:FuncId->(t:Ty)->List Arg->Option t.den}
def Rm (C:dh) (ah:FuncId->(t:Ty)->List Arg->Option t.den):Prop:=
 ∀ {R:Type} {F0:lS} {G:Nat->Prop} {s:St} {a:Act} {w:World} {pl:Nat->Option Pl} {κ:St->Option R} {r:R} {Q:Exit->Act->World->Prop} {ops:Array Oper} {id:Nat},
  (QU C ops.toList || Hy C ops.toList s || Hz C ops.toList s || HV C ops.toList s || (HY C ops.toList s || (Dw C ops.toList s || Dx C ops.toList s)))=true->Inv F0 G s a w pl->wB C w F0->(EH C ops.toList ops.toList.zipIdx s).run ah κ=some r->(∀ a' w',zJ F0 G w κ r a' w'->Q .normal a' w')->(Code.region id ops true).wp C.P Q a w
theorem Post.trans {R:Type} {F0:lS} {G G1:Nat->Prop} {w w1:World} {κ:K R} {r:R} (fr:Fr F0 G w G1 w1) {e:Exit} {a':Act} {w':World} (h:Post F0 G1 w1 κ r e a' w'):Post F0 G w κ r e a' w':=by
 obtain ⟨x,s',G',nP,h1,h2,h4,h5⟩:=h
 exact ⟨x,s',G',nP,h1,h2,h4,fr.trans h5⟩
theorem SL {R:Type} {F0:lS} {κ:St->Option R} {r:R} {Q:Exit->Act->World->Prop} {ops:Array Oper} {vars:List Nat} {k id:Nat} (hop:∀ o ∈ ops,mM C ah o) :
  ∀ {l:List (Oper × Nat)} (hl:∀ o j,(o,j) ∈ l->ops[j]? = some o) {G:Nat->Prop} {s:St} {a:Act} {w:World} {pl:Nat->Option Pl},Inv F0 G s a w pl->wB C w F0->QY C ah vars k ops.toList id κ l s=some r->
   (∀ a' w',zJ F0 G w κ r a' w'->Q .normal a' w')->wpOps C.P ops Q (l.map (·.2)) a w
 | [],hl,G,s,a,w,pl,i,ht,h,hQ=>hQ a w ⟨s,G,pl,h,i,Fr.refl _ _ _⟩
 | (o,j) :: l,hl,G,s,a,w,pl,i,ht,h,hQ=>by
  have ho:=hl o j (by simp)
  have step:∀ {s:St} {pl:Nat->Option Pl},Inv F0 G s a w pl->(stepT C ops.toList j o s).run ah (QY C ah vars k ops.toList id κ l)=some r->wpOps C.P ops Q (((o,j) :: l).map (·.2)) a w:=by
   intro s pl i h
   rw [List.map_cons,wpOps_cons]
   refine wpOp_mono (fun a' w' hn=>?_) (step_ok ho (hop o (Array.mem_of_getElem? ho)) i ht h)
   obtain ⟨s',G',nP,hk,i',fr⟩:=hn
   exact SL hop (fun o j h=>hl o j (by simp [h])) i' (ht.fr fr) hk (fun a'' w'' hn'=>hQ a'' w'' (hn'.trans fr))
  simp only [QY] at h
  cases hc:YH vars id j with
  | false=>rw [hc] at h;exact step i h
  | true=>
   rw [hc] at h
   simp only [cond_true] at h
   split at h
   ·rename_i hd hh
    obtain ⟨SN,i0⟩:=Nt i hh
    have:∃ k',k=k'+1:=by
     cases k with
     | zero=>simp [once] at h
     | succ k=>exact ⟨k,rfl⟩
    obtain ⟨k',hk⟩:=this
    refine step i0 ?_
    rw [hk] at h ⊢
    exact h
   ·cases h
theorem Rn {R:Type} {F0:lS} {G:Nat->Prop} {s:St} {a:Act} {w:World} {pl:Nat->Option Pl} {κ:St->Option R} {r:R} {Q:Exit->Act->World->Prop} {ops:Array Oper} {vars:List Nat} {k id:Nat} (hop:∀ o ∈ ops,mM C ah o)
  (i:Inv F0 G s a w pl) (ht:wB C w F0) (h:QY C ah vars k ops.toList id κ ops.toList.zipIdx s=some r) (hQ:∀ a' w',zJ F0 G w κ r a' w'->Q .normal a' w'):(Code.region id ops false).wp C.P Q a w:=by
 refine wp_region ?_
 have:=SL (Q:=Q) hop (l:=ops.toList.zipIdx) (fun o j hm=>by
  obtain ⟨h1,h2⟩:=List.mem_zipIdx' hm
  rw [<- Array.getElem?_toList,h2]
  exact List.getElem?_eq_getElem h1) i ht h hQ
 have hr:ops.toList.zipIdx.map (·.2)=List.range ops.size:=by
  rw [List.zipIdx_map_snd]
  simp [List.range_eq_range']
 rw [hr] at this
 exact this
theorem Nu (hop:∀ o,mM C ah o) (OL:Rm C ah) (vars:List Nat) (k:Nat):∀ (c:Code) {R:Type} {F0:lS} {G:Nat->Prop} {s:St} {a:Act} {w:World} {pl:Nat->Option Pl} {κ:K R} {r:R},
  lQ C ah vars k c s κ=some r->Inv F0 G s a w pl->wB C w F0->c.wp C.P (Post F0 G w κ r) a w:=by
 intro c
 induction c with
 | skip=>
  intro R F0 G s a w pl κ r h i ht
  exact wp_skip ⟨.normal,s,G,pl,trivial,h,i,Fr.refl _ _ _⟩
 | ret=>
  intro R F0 G s a w pl κ r h i ht
  exact wp_ret ⟨.ret,s,G,pl,trivial,h,i,Fr.refl _ _ _⟩
 | exit id=>
  intro R F0 G s a w pl κ r h i ht
  exact wp_exit ⟨.exit id,s,G,pl,rfl,h,i,Fr.refl _ _ _⟩
 | region id ops draw=>
  intro R F0 G s a w pl κ r h i ht
  simp only [lQ] at h
  have reg:∀ {s:St} {pl:Nat->Option Pl},Zj C ah ops draw s κ=some r->Inv F0 G s a w pl->(Code.region id ops draw).wp C.P (Post F0 G w κ r) a w:=by
   intro s pl h i
   unfold Zj at h
   have fin:∀ a' w',zJ F0 G w (κ .normal) r a' w'->Post F0 G w κ r .normal a' w':=fun a' w' hx=>by
    obtain ⟨s',G',nP,hk,i',fr⟩:=hx
    exact ⟨.normal,s',G',nP,trivial,hk,i',fr⟩
   cases draw with
   | false=>
    simp only [Bool.false_and,cond_false] at h
    exact TM (fun o _=>hop o) i ht h fin
   | true=>
    simp only [Bool.true_and] at h
    cases hd:(QU C ops.toList || Hy C ops.toList s || Hz C ops.toList s || HV C ops.toList s || (HY C ops.toList s || (Dw C ops.toList s || Dx C ops.toList s))) with
    | false=>rw [hd] at h;simp at h
    | true=>
     rw [hd] at h
     exact OL hd i ht (by simpa using h) fin
  cases hc:(!draw && Vi vars id) with
  | false=>rw [hc] at h;exact reg (by simpa using h) i
  | true=>
   rw [hc] at h
   simp only [cond_true] at h
   have hd:draw=false:=by cases draw <;> simp_all
   subst hd
   exact Rn (fun o _=>hop o) i ht h fun a' w' hx=>by
    obtain ⟨s',G',nP,hk,i',fr⟩:=hx
    exact ⟨.normal,s',G',nP,trivial,hk,i',fr⟩
 | seq x y UQ ihy=>
  intro R F0 G s a w pl κ r h i ht
  simp only [lQ] at h
  refine wp_seq (wp_mono (UQ h i ht) fun e a' w' hp=>?_)
  obtain ⟨ex,s',G',nP,h1,h2,h4,h5⟩:=hp
  cases ex with
  | normal=>
   cases e <;> simp [sw] at h1
   exact wp_mono (ihy (κ:=κ) h2 h4 (ht.fr h5)) fun e a'' w'' hp=>hp.trans h5
  | exit j=>
   cases e <;> simp [sw] at h1
   subst h1
   exact ⟨.exit _,s',G',nP,rfl,h2,h4,h5⟩
  | ret=>
   cases e <;> simp [sw] at h1
   exact ⟨.ret,s',G',nP,trivial,h2,h4,h5⟩
 | cond cnd x y UQ ihy=>
  intro R F0 G s a w pl κ r h i ht
  simp only [lQ] at h
  have hc:=i.slot cnd
  split at h
  ·rename_i hs;rw [hs] at hc;exact wp_cond_true hc (UQ h i ht)
  ·rename_i hs;rw [hs] at hc;exact wp_cond_false hc (ihy h i ht)
  ·rename_i p d hs
   rw [hs] at hc
   cases d with
   | isTrue hp=>exact wp_cond_true hc (UQ h i ht)
   | isFalse hp=>exact wp_cond_false hc (ihy h i ht)
  ·cases h
 | block id b ih=>
  intro R F0 G s a w pl κ r h i ht
  simp only [lQ] at h
  refine wp_block (wp_mono (ih h i ht) fun e a' w' hp=>?_)
  obtain ⟨ex,s',G',nP,h1,h2,h4,h5⟩:=hp
  cases ex with
  | normal=>
   cases e <;> simp [sw] at h1
   exact ⟨.normal,s',G',nP,trivial,h2,h4,h5⟩
  | exit j=>
   cases e <;> simp [sw] at h1
   subst h1
   simp only [QX] at h2
   simp only [Exit.inBlock]
   split
   ·rename_i hj
    subst hj
    have:Nat.beq j j=true:=by simp
    rw [this] at h2
    exact ⟨.normal,s',G',nP,trivial,h2,h4,h5⟩
   ·rename_i hj
    have:Nat.beq j id=false:=by
     cases hb:Nat.beq j id with
     | false=>rfl
     | true=>exact absurd (Nat.eq_of_beq_eq_true hb) hj
    rw [this] at h2
    exact ⟨.exit j,s',G',nP,rfl,h2,h4,h5⟩
  | ret=>
   cases e <;> simp [sw] at h1
   exact ⟨.ret,s',G',nP,trivial,h2,h4,h5⟩
 | loop b ih=>
  intro R F0 G s a w pl κ r h i ht
  simp only [lQ] at h
  split at h
  ·rename_i hd hh
   obtain ⟨SN,i0⟩:=Nt i hh
   refine wp_loop_ghost (fun m a' w'=>∃ hd' G' nP,iter (II vars s) s.n (fun s κ=>lQ C ah vars k b s κ) κ m hd'=some r/\Inv F0 G' (hd'.st s.n (II vars s)) a' w' nP/\Fr F0 G w G' w') k ⟨hd,G,SN,h,i0,Fr.refl _ _ _⟩ ?_
   intro m a1 w1 hI
   obtain ⟨hd1,G1,pl1,hit,i1,Nk⟩:=hI
   cases m with
   | zero=>simp [iter] at hit
   | succ m=>
    simp only [iter] at hit
    refine wp_mono (ih hit i1 (ht.fr Nk)) fun e a2 w2 hp=>?_
    obtain ⟨ex,s2,G2,pl2,h1,h2,h4,h5⟩:=hp
    cases ex with
    | normal=>
     cases e <;> simp [sw] at h1
     simp only [QW] at h2
     cases hb:Nat.beq s2.n s.n with
     | false=>rw [hb] at h2;simp at h2
     | true=>
      rw [hb] at h2
      simp only [cond_true] at h2
      split at h2
      ·rename_i hd2 hh2
       obtain ⟨pl3,i3⟩:=Nt h4 hh2
       rw [Nat.eq_of_beq_eq_true hb] at i3
       exact ⟨m,Nat.lt_succ_self m,hd2,G2,pl3,h2,i3,Nk.trans h5⟩
      ·cases h2
    | exit j=>
     cases e <;> simp [sw] at h1
     subst h1
     exact ⟨.exit _,s2,G2,pl2,rfl,h2,h4,Nk.trans h5⟩
    | ret=>
     cases e <;> simp [sw] at h1
     exact ⟨.ret,s2,G2,pl2,trivial,h2,h4,Nk.trans h5⟩
  ·cases h
 | rangeFunc f ps x y _ _=>intro R F0 G s a w pl κ r h i ht;simp [lQ] at h
 | scope b _=>intro R F0 G s a w pl κ r h i ht;simp [lQ] at h
 | label l=>intro R F0 G s a w pl κ r h i ht;simp [lQ] at h
 | goto l=>intro R F0 G s a w pl κ r h i ht;simp [lQ] at h
 | refuse y=>intro R F0 G s a w pl κ r h i ht;simp [lQ] at h
end
end Go.Flat
