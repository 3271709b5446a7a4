/- The plain half of FnTop. No condition. -/
import Derived.Test.YtmocpfgfjeaelaaGreatQFnTop
import Derived.Test.YtmocpfgfjeaelaaGreatPur
set_option linter.unusedVariables false
set_option linter.unusedSimpArgs false
open Go Go.Flat
namespace Go.pK
theorem dS (x lo hi:Int):Ev (fun k=>gq k x lo hi) (decide (lo<=x/\x<=hi)):=by
 by_cases c:lo<=x
 ·exact Ev.eq (fun k=>EA k x lo hi) (Ev.pos c (Ev.ret.val (by simp [c])))
 ·exact Ev.eq (fun k=>EA k x lo hi) (Ev.neg c (Ev.ret.val (by simp [c])))
theorem aB (x lo hi:Int):Ev (fun k=>aK k x lo hi) (decide (lo<=x/\x<=hi)):=by
 by_cases c:lo<=x
 ·exact Ev.eq (fun k=>nk k x lo hi) (Ev.pos c (Ev.ret.val (by simp [c])))
 ·exact Ev.eq (fun k=>nk k x lo hi) (Ev.neg c (Ev.ret.val (by simp [c])))
def qP (a b:Int):Int:=(Nat.gcd a.toNat b.toNat:Int)
theorem ZR {F:Int->Int->Nat->Nat->Option Int} (h0:∀ a,E2 (F a 0) a) (h1:∀ a b,b ≠ 0->∀ v,E2 (F b (Int.tmod a b)) v->E2 (F a b) v):∀ (n:Nat) (a b:Int),0<=a->0<=b->b.toNat<=n->E2 (F a b) (qP a b):=by
 intro n
 induction n with
 | zero=>
  intro a b ha hb hn
  have:b=0:=by omega
  subst this
  refine (h0 a).val ?_
  unfold qP
  simp
  omega
 | succ n ih=>
  intro a b ha hb hn
  by_cases c:b=0
  ·subst c
   refine (h0 a).val ?_
   unfold qP
   simp
   omega
  ·have hm:Int.tmod a b=((a.toNat % b.toNat:Nat):Int):=by
    obtain ⟨x,rfl⟩:=Int.eq_ofNat_of_zero_le ha
    obtain ⟨y,rfl⟩:=Int.eq_ofNat_of_zero_le hb
    rfl
   have hlt:a.toNat % b.toNat<b.toNat:=Nat.mod_lt _ (by omega)
   refine (h1 a b c _ (ih b (Int.tmod a b) hb (by rw [hm];omega) (by rw [hm];omega))).val ?_
   unfold qP
   rw [hm,Int.toNat_natCast]
   congr 1
   rw [Nat.gcd_comm a.toNat b.toNat,Nat.gcd_rec b.toNat a.toNat,Nat.gcd_comm]
theorem Ke (a b:Int) (ha:0<=a) (hb:0<=b):Ev (fun k=>gF k a b) (qP a b):=
 Ev.eq (fun k=>GR k a b) (Ev.loop (f:=fun k m=>gF.l0 k m a b) (ZR (F:=fun a b k m=>gF.l0 k m a b) (fun a=>E2.eq (fun k m=>gF.aj k m a 0) (E2.neg (by simp) E2.ret)) (fun a b hb v e=>E2.eq (fun k m=>gF.aj k m a b) (E2.pos hb (E2.neg hb e))) _ a b ha hb (Nat.le_refl _)))
def qm (n:Int):Int:=(n.natAbs:Int)
theorem Tn (n:Int) (h1:-4611686018427387904<=n) (h2:n<=4611686018427387904):(max n (IntKind.wrap .i64 (-n)):Int)=qm n:=by
 unfold qm
 rw [fO (by omega) (by omega)]
 omega
def yF (n d:Int):Bool:=decide ((1<=d/\d<=1000000)/\(-1000000000<=n/\n<=1000000000)/\qP (qm n) d=1)
theorem bP (r:aZ):Ev (fun k=>jd k r) (yF r.1 r.2.1):=by
 by_cases c1:1<=r.2.1/\r.2.1<=1000000
 ·by_cases c2:-1000000000<=r.1/\r.1<=1000000000
  ·refine Ev.eq (fun k=>vg k r) (Ev.bind (aB _ _ _) (Ev.pos (by simp [c1]) (Ev.bind (aB _ _ _) (Ev.pos (by simp [c2]) ?_))))
   simp only [Tn r.1 (by omega) (by omega)]
   exact Ev.bind (Ke _ _ (by unfold qm;omega) (by omega)) (Ev.ret.val (by unfold yF;simp [c1,c2]))
  ·exact Ev.eq (fun k=>vg k r) (Ev.bind (aB _ _ _) (Ev.pos (by simp [c1]) (Ev.bind (aB _ _ _) (Ev.neg (by simpa using c2) (Ev.ret.val (by unfold yF;simp only [c2,false_and,and_false,decide_false]))))))
 ·exact Ev.eq (fun k=>vg k r) (Ev.bind (aB _ _ _) (Ev.neg (by simpa using c1) (Ev.ret.val (by unfold yF;simp only [c1,false_and,decide_false]))))
theorem Kg (a b:Int) (hb:0<b):0<qP a b:=by
 unfold qP
 have:0<Nat.gcd a.toNat b.toNat:=Nat.gcd_pos_of_pos_right _ (by omega)
 omega
theorem MF (n g:Int) (h1:-4611686018427387904<=n) (h2:n<=4611686018427387904):IntKind.wrap .i64 (Int.tdiv n g)=Int.tdiv n g:=by
 have:=Int.natAbs_tdiv_le_natAbs n g
 exact fO (by omega) (by omega)
abbrev Gr:Type:=aZ × (Bool × Unit)
def Dp:Gr:=((0,(0,())),(false,()))
def mk (n d:Int):Gr:=
 if yF (Int.tdiv n (qP (qm n) d)) (Int.tdiv d (qP (qm n) d))=true then ((Int.tdiv n (qP (qm n) d),(Int.tdiv d (qP (qm n) d),())),(true,())) else Dp
theorem FM (n d:Int) (h1:-4611686018427387904<=n) (h2:n<=4611686018427387904) (h3:1<=d) (h4:d<=4611686018427387904):Ev (fun k=>uK k n d) (mk n d):=by
 have hg:=Kg (qm n) d (by omega)
 refine Ev.eq (fun k=>JX k n d) (Ev.neg (by omega) (Ev.neg (by omega) ?_))
 simp only [Tn n h1 h2]
 refine Ev.bind (Ke _ _ (by unfold qm;omega) (by omega)) (Ev.neg (by omega) (Ev.neg (by omega) ?_))
 simp only [MF n _ h1 h2,MF d _ (by omega) h4]
 refine Ev.bind (bP _) ?_
 unfold mk
 by_cases c:yF (Int.tdiv n (qP (qm n) d)) (Int.tdiv d (qP (qm n) d))=true
 ·exact Ev.neg (by simp [c]) (Ev.ret.val (by rw [if_pos c]))
 ·exact Ev.pos (by simpa using c) (Ev.ret.val (by rw [if_neg c];rfl))
theorem uM (n d:Int) (h1:-1000000000000000<=n) (h2:n<=1000000000000000) (h3:1<=d) (h4:d<=1000000000000000):Ev (fun k=>iK k n d) (mk n d):=by
 refine Ev.eq (fun k=>Et k n d) (Ev.bind (aB _ _ _) (Ev.neg (by simp;omega) (Ev.bind (aB _ _ _) (Ev.neg (by simp;omega) (Ev.bind (FM n d (by omega) (by omega) h3 (by omega)) (Ev.ret.val ?_))))))
 obtain ⟨a,b,_⟩:=mk n d
 simp
def mO (a b:aZ):Gr:=if yF a.1 a.2.1=true/\yF b.1 b.2.1=true then mk (a.1*b.2.1+b.1*a.2.1) (a.2.1*b.2.1) else Dp
theorem je {n d:Int} (h:yF n d=true):(1<=d/\d<=1000000)/\(-1000000000<=n/\n<=1000000000):=by
 unfold yF at h
 have:=of_decide_eq_true h
 exact ⟨this.1,this.2.1⟩
theorem AO {x y A B:Int} (hx:-A<=x/\x<=A) (hy:0<=y/\y<=B):-(A*B)<=x*y/\x*y<=A*B:=by
 have hA:0<=A:=by omega
 have h1:A*y<=A*B:=Int.mul_le_mul_of_nonneg_left hy.2 hA
 have h2:x*y<=A*y:=Int.mul_le_mul_of_nonneg_right hx.2 hy.1
 have h3:-A*y<=x*y:=Int.mul_le_mul_of_nonneg_right hx.1 hy.1
 rw [Int.neg_mul] at h3
 omega
theorem kM (a b:aZ):Ev (fun k=>gU k a b) (mO a b):=by
 unfold mO
 by_cases ca:yF a.1 a.2.1=true
 ·by_cases cb:yF b.1 b.2.1=true
  ·obtain ⟨a1,a2⟩:=je ca
   obtain ⟨b1,b2⟩:=je cb
   have m1:=AO (x:=a.1) (y:=b.2.1) (A:=1000000000) (B:=1000000) ⟨a2.1,a2.2⟩ ⟨by omega,b1.2⟩
   have m2:=AO (x:=b.1) (y:=a.2.1) (A:=1000000000) (B:=1000000) ⟨b2.1,b2.2⟩ ⟨by omega,a1.2⟩
   have m3:=AO (x:=a.2.1) (y:=b.2.1) (A:=1000000) (B:=1000000) ⟨by omega,a1.2⟩ ⟨by omega,b1.2⟩
   have m4:1<=a.2.1*b.2.1:=Int.mul_pos (by omega) (by omega)
   refine Ev.eq (fun k=>tL k a b) (Ev.bind (bP a) (Ev.neg (by simp [ca]) (Ev.bind (bP b) (Ev.neg (by simp [cb]) ?_))))
   rw [fO (n:=a.1*b.2.1) (by omega) (by omega),fO (n:=b.1*a.2.1) (by omega) (by omega),fO (n:=a.1*b.2.1+b.1*a.2.1) (by omega) (by omega),fO (n:=a.2.1*b.2.1) (by omega) (by omega)]
   refine Ev.bind (FM _ _ (by omega) (by omega) m4 (by omega)) (Ev.ret.val ?_)
   rw [if_pos ⟨ca,cb⟩]
   obtain ⟨r,o,_⟩:=mk (a.1*b.2.1+b.1*a.2.1) (a.2.1*b.2.1)
   simp
  ·exact Ev.eq (fun k=>tL k a b) (Ev.bind (bP a) (Ev.neg (by simp [ca]) (Ev.bind (bP b) (Ev.pos (by simpa using cb) (Ev.ret.val (by rw [if_neg (fun h=>cb h.2)];rfl))))))
 ·exact Ev.eq (fun k=>tL k a b) (Ev.bind (bP a) (Ev.pos (by simpa using ca) (Ev.ret.val (by rw [if_neg (fun h=>ca h.1)];rfl))))
def acJ (n m:Int):Int:=if 1<=m/\m<=1000000000000 then Int.tmod (IntKind.wrap .i64 ((Int.tmod n m)+m)) m else 0
theorem mD (x:Int):Ev (fun k=>cmp_isNaN_int k x) false:=Ev.eq (fun k=>mq k x) (Ev.ret.val (by simp))
def vO (x y:Int):Int:=if x<y then -1 else if y<x then 1 else 0
theorem pJ (x y:Int):Ev (fun k=>cmp_Compare_int k x y) (vO x y):=by
 unfold vO
 by_cases c:x<y
 ·exact Ev.eq (fun k=>eU k x y) (Ev.bind (mD x) (Ev.bind (mD y) (Ev.neg (by simp) (Ev.neg (by simp) (Ev.pos c (Ev.ret.val (by rw [if_pos c])))))))
 ·by_cases c2:y<x
  ·exact Ev.eq (fun k=>eU k x y) (Ev.bind (mD x) (Ev.bind (mD y) (Ev.neg (by simp) (Ev.neg (by simp) (Ev.neg c (Ev.pos c2 (Ev.ret.val (by rw [if_neg c,if_pos c2]))))))))
  ·exact Ev.eq (fun k=>eU k x y) (Ev.bind (mD x) (Ev.bind (mD y) (Ev.neg (by simp) (Ev.neg (by simp) (Ev.neg c (Ev.neg c2 (Ev.ret.val (by rw [if_neg c,if_neg c2]))))))))
theorem Ar {f:Nat->Option Bool} {p:Prop} [d:Decidable p] (h:∃ r,Ev f r/\(r=true ↔ p)):Ev f (decide p):=by
 obtain ⟨r,e,hr⟩:=h
 exact e.val (by rw [Bool.eq_iff_iff,hr];simp)
theorem wh {F:Int->Nat->Nat->Option Bool} {n:Nat} (Q:Nat->Prop) (c:Bool) (hend:E2 (F (n:Int)) c)
  (hgo:∀ i,i<n->Q i->∀ v,E2 (F ((i+1:Nat):Int)) v->E2 (F (i:Int)) v) (hstop:∀ i,i<n->¬ Q i->E2 (F (i:Int)) false) :
  ∃ r,E2 (F 0) r/\(r=true ↔ (∀ i,i<n->Q i)/\c=true):=by
 have key:∀ d i,i+d=n->∃ r,E2 (F (i:Int)) r/\(r=true ↔ (∀ j,i<=j->j<n->Q j)/\c=true):=by
  intro d
  induction d with
  | zero=>
   intro i hi
   have hi:i=n:=by omega
   subst hi
   exact ⟨c,hend,⟨fun h=>⟨fun j _ _=>by omega,h⟩,fun h=>h.2⟩⟩
  | succ d ih=>
   intro i hi
   obtain ⟨r,er,hr⟩:=ih (i+1) (by omega)
   by_cases hq:Q i
   ·refine ⟨r,hgo i (by omega) hq r er,hr.trans ⟨fun h=>⟨fun j h1 h2=>?_,h.2⟩,fun h=>⟨fun j h1 h2=>h.1 j (by omega) h2,h.2⟩⟩⟩
    by_cases hj:j=i
    ·subst hj;exact hq
    ·exact h.1 j (by omega) h2
   ·exact ⟨false,hstop i (by omega) hq,by simp only [Bool.false_eq_true,false_iff];exact fun h=>hq (h.1 i (Nat.le_refl _) (by omega))⟩
 obtain ⟨r,er,hr⟩:=key n 0 (by omega)
 exact ⟨r,er,hr.trans ⟨fun h=>⟨fun i hi=>h.1 i (Nat.zero_le _) hi,h.2⟩,fun h=>⟨fun i _ hi=>h.1 i hi,h.2⟩⟩⟩
theorem kL {i:Nat} (h:0<i) (h2:i<9223372036854775807):IntKind.wrap .i64 ((i:Int) - 1)=((i - 1:Nat):Int):=by
 rw [fO (by omega) (by omega)];omega
def Uf (e:aC):Prop:=(0<=(e.1:Int)/\(e.1:Int)<=2000)/\(1<=(e.2.1:Int)/\(e.2.1:Int)<=96)/\(21<=(e.2.2.1:Int)/\(e.2.2.1:Int)<=108)/\1<=(e.2.2.2.1:Int)/\(e.2.2.2.1:Int)<=4
instance (e:aC):Decidable (Uf e):=by unfold Uf;infer_instance
theorem Tp (e:aC):Ev (fun k=>Fw k e) (decide (Uf e)):=by
 refine Ev.eq (fun k=>NY k e) (Ev.bind (dS _ _ _) ?_)
 unfold Uf
 by_cases c1:0<=(e.1:Int)/\(e.1:Int)<=2000
 ·refine Ev.pos (by simp [c1]) (Ev.bind (dS _ _ _) ?_)
  by_cases c2:1<=(e.2.1:Int)/\(e.2.1:Int)<=96
  ·refine Ev.pos (by simp [c2]) (Ev.bind (dS _ _ _) ?_)
   by_cases c3:21<=(e.2.2.1:Int)/\(e.2.2.1:Int)<=108
   ·exact Ev.pos (by simp [c3]) (Ev.bind (dS _ _ _) (Ev.ret.val (by simp only [c1,c2,c3,true_and,and_self,decide_eq_true_eq])))
   ·exact Ev.neg (by simpa using c3) (Ev.ret.val (by simp only [c3,false_and,and_false,decide_false]))
  ·exact Ev.neg (by simpa using c2) (Ev.ret.val (by simp only [c2,false_and,and_false,decide_false]))
 ·exact Ev.neg (by simpa using c1) (Ev.ret.val (by simp only [c1,false_and,decide_false]))
def ze (a b:aC):Prop:=(a.1:Int)<b.1\/(a.1:Int)=b.1/\((a.2.2.2.1:Int)<b.2.2.2.1\/(a.2.2.2.1:Int)=b.2.2.2.1/\(a.2.2.1:Int)<b.2.2.1)
instance (a b:aC):Decidable (ze a b):=by unfold ze;infer_instance
theorem Br (a b:aC):Ev (fun k=>um k a b) (decide (ze a b)):=by
 refine Ev.eq (fun k=>FL k a b) ?_
 unfold ze
 by_cases c1:(a.1:Int)=b.1
 ·refine Ev.neg (by omega) ?_
  by_cases c2:(a.2.2.2.1:Int)=b.2.2.2.1
  ·exact Ev.neg (by omega) (Ev.ret.val (by congr 1;exact propext ⟨fun h=>.inr ⟨c1,.inr ⟨c2,h⟩⟩,fun h=>by omega⟩))
  ·exact Ev.pos (by omega) (Ev.ret.val (by congr 1;exact propext ⟨fun h=>.inr ⟨c1,.inl h⟩,fun h=>by omega⟩))
 ·exact Ev.pos (by omega) (Ev.ret.val (by congr 1;exact propext ⟨fun h=>.inl h,fun h=>by omega⟩))
def GH (x y:Int):Int:=if x ≠ 0 then x else y
theorem MC (x y z:Int):Ev (fun k=>aS k [x,y,z]) (GH x (GH y z)):=by
 refine Ev.eq (fun k=>nI k _) (Ev.loop (f:=fun k m=>aS.l0 k m 0 [x,y,z] ((List.length [x,y,z]:Nat):Int) 0) ?_)
 have w0:IntKind.wrap .i64 ((0:Int)+1)=1:=fO (by omega) (by omega)
 have w1:IntKind.wrap .i64 ((1:Int)+1)=2:=fO (by omega) (by omega)
 have w2:IntKind.wrap .i64 ((2:Int)+1)=3:=fO (by omega) (by omega)
 have r0:rd (.int .i64) [x,y,z] 0=x:=rfl
 have r1:rd (.int .i64) [x,y,z] 1=y:=rfl
 have r2:rd (.int .i64) [x,y,z] 2=z:=rfl
 have hl:((List.length [x,y,z]:Nat):Int)=3:=rfl
 unfold GH
 refine E2.eq (fun k m=>aS.aj k m 0 [x,y,z] _ 0) (E2.pos (by rw [hl];omega) (E2.pos (by omega) (E2.pos (by rw [hl];omega) ?_)))
 simp only [r0,w0]
 by_cases c0:x=0
 ·refine E2.neg (fun h=>h c0) ?_
  rw [if_neg (show ¬ x ≠ 0 by omega)]
  refine E2.eq (fun k m=>aS.aj k m 0 [x,y,z] _ 1) (E2.pos (by rw [hl];omega) (E2.pos (by omega) (E2.pos (by rw [hl];omega) ?_)))
  simp only [r1,w1]
  by_cases c1:y=0
  ·refine E2.neg (fun h=>h c1) ?_
   rw [if_neg (show ¬ y ≠ 0 by omega)]
   refine E2.eq (fun k m=>aS.aj k m 0 [x,y,z] _ 2) (E2.pos (by rw [hl];omega) (E2.pos (by omega) (E2.pos (by rw [hl];omega) ?_)))
   simp only [r2,w2]
   by_cases c2:z=0
   ·exact E2.neg (fun h=>h c2) (E2.eq (fun k m=>aS.aj k m 0 [x,y,z] _ 3) (E2.neg (by rw [hl];omega) (E2.ret.val c2.symm)))
   ·exact E2.pos c2 E2.ret
  ·rw [if_pos c1];exact E2.pos c1 E2.ret
 ·rw [if_pos c0];exact E2.pos c0 E2.ret
def NQ (a b:aC):Int:=GH (vO a.1 b.1) (GH (vO a.2.2.2.1 b.2.2.2.1) (vO a.2.2.1 b.2.2.1))
theorem uJ (a b:aC):Ev (fun k=>fE k a b) (NQ a b):=
 Ev.eq (fun k=>kK k a b) (Ev.bind (pJ _ _) (Ev.bind (pJ _ _) (Ev.bind (pJ _ _) (Ev.bind (MC _ _ _) Ev.ret))))
theorem Bl (a b:aC):NQ a b<0 ↔ ze a b:=by
 unfold NQ GH vO ze
 repeat' split
 all_goals omega
def QS (l:List aC) (i:Nat):Prop:=Uf (rd aP l (i:Int))/\(0<i->ze (rd aP l ((i - 1:Nat):Int)) (rd aP l (i:Int)))
instance (l:List aC) (i:Nat):Decidable (QS l i):=by unfold QS;infer_instance
def dU (l:List aC):Prop:=(∀ i,i<l.length->QS l i)/\decide (((l.length:Nat):Int)<=40)=true
instance (l:List aC):Decidable (dU l):=by unfold dU;infer_instance
theorem Ch (l:List aC) (hl:l.length<=33554432):Ev (fun k=>dZ k l) (decide (dU l)):=by
 refine Ar ?_
 obtain ⟨r,er,hr⟩:=wh (F:=fun i k m=>dZ.l0 k m l i) (n:=l.length) (QS l) (decide (((l.length:Nat):Int)<=40)) (E2.eq (fun k m=>dZ.aj k m l _) (E2.neg (by omega) E2.ret)) (fun i hi hq v e=>by
  refine E2.eq (fun k m=>dZ.aj k m l _) (E2.pos (by omega) (E2.pos (by omega) (E2.pos (by omega) (E2.bind (Tp _) (E2.neg (by simpa using hq.1) ?_)))))
  by_cases c:0<i
  ·refine E2.pos (by omega) ?_
   simp only [kL c (show i<9223372036854775807 by omega),bE (show i<9223372036854775807 by omega)]
   exact E2.pos (by omega) (E2.pos (by omega) (E2.pos (by omega) (E2.pos (by omega) (E2.bind (Br _ _) (E2.neg (by simpa using hq.2 c) e)))))
  ·refine E2.neg (by omega) ?_
   simp only [bE (show i<9223372036854775807 by omega)]
   exact e) (fun i hi hq=>by
  refine E2.eq (fun k m=>dZ.aj k m l _) (E2.pos (by omega) (E2.pos (by omega) (E2.pos (by omega) (E2.bind (Tp _) ?_))))
  by_cases c0:Uf (rd aP l (i:Int))
  ·refine E2.neg (by simpa using c0) ?_
   have c:0<i:=by
    rcases Nat.eq_zero_or_pos i with h | h
    ·exact absurd ⟨c0,fun h'=>by omega⟩ hq
    ·exact h
   have c1:¬ ze (rd aP l ((i - 1:Nat):Int)) (rd aP l (i:Int)):=fun h=>hq ⟨c0,fun _=>h⟩
   refine E2.pos (by omega) ?_
   simp only [kL c (show i<9223372036854775807 by omega)]
   exact E2.pos (by omega) (E2.pos (by omega) (E2.pos (by omega) (E2.pos (by omega) (E2.bind (Br _ _) (E2.pos (by simpa using c1) E2.ret)))))
  ·exact E2.pos (by simpa using c0) E2.ret)
 exact ⟨r,Ev.eq (fun k=>GZ k l) (Ev.loop (f:=fun k m=>dZ.l0 k m l 0) er),hr⟩
theorem iq (l:List aC) (hl:l.length<=1048576):Ev (fun k=>dZ k l) (decide (dU l)):=Ch l (by omega)
theorem pW (l:List aC) (hl:l.length<=33554432):Ev (fun k=>aN k l) (decide (dU l)):=by
 refine Ar ?_
 obtain ⟨r,er,hr⟩:=wh (F:=fun i k m=>aN.l0 k m l l ((List.length l:Nat):Int) i) (n:=l.length) (QS l) (decide (((l.length:Nat):Int)<=40)) (E2.eq (fun k m=>aN.aj k m l l _ _) (E2.neg (by omega) E2.ret)) (fun i hi hq v e=>by
  obtain ⟨⟨h1,h2,h3,h4⟩,h5⟩:=hq
  refine E2.eq (fun k m=>aN.aj k m l l _ _) (E2.pos (by omega) (E2.pos (by omega) (E2.pos (by omega) (E2.bind (aB _ _ _) (E2.neg (by simpa using h1) (E2.bind (aB _ _ _) (E2.neg (by simpa using h2) (E2.bind (aB _ _ _) (E2.neg (by simpa using h3) (E2.bind (aB _ _ _) (E2.neg (by simpa using h4) ?_)))))))))))
  by_cases c:0<i
  ·refine E2.pos (by omega) ?_
   simp only [kL c (show i<9223372036854775807 by omega),bE (show i<9223372036854775807 by omega)]
   have:=(Bl _ _).2 (h5 c)
   exact E2.pos (by omega) (E2.pos (by omega) (E2.bind (uJ _ _) (E2.neg (by omega) e)))
  ·refine E2.neg (by omega) ?_
   simp only [bE (show i<9223372036854775807 by omega)]
   exact e) (fun i hi hq=>by
  refine E2.eq (fun k m=>aN.aj k m l l _ _) (E2.pos (by omega) (E2.pos (by omega) (E2.pos (by omega) (E2.bind (aB _ _ _) ?_))))
  by_cases h1:0<=((rd aP l (i:Int)).1:Int)/\((rd aP l (i:Int)).1:Int)<=2000
  ·refine E2.neg (by simpa using h1) (E2.bind (aB _ _ _) ?_)
   by_cases h2:1<=((rd aP l (i:Int)).2.1:Int)/\((rd aP l (i:Int)).2.1:Int)<=96
   ·refine E2.neg (by simpa using h2) (E2.bind (aB _ _ _) ?_)
    by_cases h3:21<=((rd aP l (i:Int)).2.2.1:Int)/\((rd aP l (i:Int)).2.2.1:Int)<=108
    ·refine E2.neg (by simpa using h3) (E2.bind (aB _ _ _) ?_)
     by_cases h4:1<=((rd aP l (i:Int)).2.2.2.1:Int)/\((rd aP l (i:Int)).2.2.2.1:Int)<=4
     ·refine E2.neg (by simpa using h4) ?_
      have c:0<i:=by
       rcases Nat.eq_zero_or_pos i with h | h
       ·exact absurd ⟨⟨h1,h2,h3,h4⟩,fun h'=>by omega⟩ hq
       ·exact h
      have c1:¬ ze (rd aP l ((i - 1:Nat):Int)) (rd aP l (i:Int)):=fun h=>hq ⟨⟨h1,h2,h3,h4⟩,fun _=>h⟩
      refine E2.pos (by omega) ?_
      simp only [kL c (show i<9223372036854775807 by omega)]
      have:=mt (Bl _ _).1 c1
      exact E2.pos (by omega) (E2.pos (by omega) (E2.bind (uJ _ _) (E2.pos (by omega) E2.ret)))
     ·exact E2.pos (by simpa using h4) E2.ret
    ·exact E2.pos (by simpa using h3) E2.ret
   ·exact E2.pos (by simpa using h2) E2.ret
  ·exact E2.pos (by simpa using h1) E2.ret)
 exact ⟨r,Ev.eq (fun k=>uT k l) (Ev.loop (f:=fun k m=>aN.l0 k m l l ((List.length l:Nat):Int) 0) er),hr⟩
theorem bJ (l:List aC) (hl:l.length<=1048576):Ev (fun k=>aN k l) (decide (dU l)):=pW l (by omega)
def okT (t:aZ):Prop:=(20<=(t.2.1:Int)/\(t.2.1:Int)<=300)/\(0<=(t.1:Int)/\(t.1:Int)<=2000)
instance (e:aZ):Decidable (okT e):=by unfold okT;infer_instance
def QT (l:List aZ) (i:Nat):Prop:=okT (rd aY l (i:Int))/\(i=0->Eq (α:=Int) (rd aY l (i:Int)).1 0)/\(0<i->LT.lt (α:=Int) (rd aY l ((i - 1:Nat):Int)).1 (rd aY l (i:Int)).1)
instance (l:List aZ) (i:Nat):Decidable (QT l i):=by unfold QT;infer_instance
def mI (l:List aZ):Prop:=(∀ i,i<l.length->QT l i)/\decide (1<=((l.length:Nat):Int)/\((l.length:Nat):Int)<=8)=true
instance (l:List aZ):Decidable (mI l):=by unfold mI;infer_instance
theorem nJ (l:List aZ) (hl:l.length<=2097152):Ev (fun k=>fC k l) (decide (mI l)):=by
 refine Ar ?_
 obtain ⟨r,er,hr⟩:=wh (F:=fun i k m=>fC.l0 k m l i) (n:=l.length) (QT l) (decide (1<=((l.length:Nat):Int)/\((l.length:Nat):Int)<=8)) (E2.eq (fun k m=>fC.aj k m l _) (E2.neg (by omega) (E2.bind (dS _ _ _) (E2.ret.val (by simp))))) (fun i hi hq v e=>by
  obtain ⟨⟨h1,h2⟩,h3,h4⟩:=hq
  refine E2.eq (fun k m=>fC.aj k m l _) (E2.pos (by omega) (E2.pos (by omega) (E2.pos (by omega) (E2.bind (dS _ _ _) (E2.neg (by simpa using h1) (E2.pos (by omega) (E2.pos (by omega) (E2.bind (dS _ _ _) (E2.neg (by simpa using h2) ?_)))))))))
  simp only [bE (show i<9223372036854775807 by omega)]
  by_cases c:0<i
  ·refine E2.neg (by omega) (E2.pos (by omega) ?_)
   simp only [kL c (show i<9223372036854775807 by omega)]
   have:=h4 c
   exact E2.pos (by omega) (E2.pos (by omega) (E2.pos (by omega) (E2.pos (by omega) (E2.neg (by omega) e))))
  ·refine E2.pos (by omega) (E2.pos (by omega) (E2.pos (by omega) (E2.neg (fun h=>h (h3 (by omega))) (E2.neg (by omega) e))))) (fun i hi hq=>by
  refine E2.eq (fun k m=>fC.aj k m l _) (E2.pos (by omega) (E2.pos (by omega) (E2.pos (by omega) (E2.bind (dS _ _ _) ?_))))
  by_cases h1:LE.le (α:=Int) 20 (rd aY l (i:Int)).2.1/\LE.le (α:=Int) (rd aY l (i:Int)).2.1 300
  ·refine E2.neg (by simpa using h1) (E2.pos (by omega) (E2.pos (by omega) (E2.bind (dS _ _ _) ?_)))
   by_cases h2:LE.le (α:=Int) 0 (rd aY l (i:Int)).1/\LE.le (α:=Int) (rd aY l (i:Int)).1 2000
   ·refine E2.neg (by simpa using h2) ?_
    by_cases c:0<i
    ·refine E2.neg (by omega) (E2.pos (by omega) ?_)
     simp only [kL c (show i<9223372036854775807 by omega)]
     have h4:¬ LT.lt (α:=Int) (rd aY l ((i - 1:Nat):Int)).1 (rd aY l (i:Int)).1:=fun h=>hq ⟨⟨h1,h2⟩,fun h'=>by omega,fun _=>h⟩
     exact E2.pos (by omega) (E2.pos (by omega) (E2.pos (by omega) (E2.pos (by omega) (E2.pos (by omega) E2.ret))))
    ·have h3:¬ Eq (α:=Int) (rd aY l (i:Int)).1 0:=fun h=>hq ⟨⟨h1,h2⟩,fun _=>h,fun h'=>absurd h' c⟩
     exact E2.pos (by omega) (E2.pos (by omega) (E2.pos (by omega) (E2.pos h3 E2.ret)))
   ·exact E2.pos (by simpa using h2) E2.ret
  ·exact E2.pos (by simpa using h1) E2.ret)
 exact ⟨r,Ev.eq (fun k=>He k l) (Ev.loop (f:=fun k m=>fC.l0 k m l 0) er),hr⟩
def QT' (l:List aZ) (i:Nat):Prop:=(i=0->Eq (α:=Int) (rd aY l (i:Int)).1 0)/\(0<i->LT.lt (α:=Int) (rd aY l ((i - 1:Nat):Int)).1 (rd aY l (i:Int)).1)/\LE.le (α:=Int) (rd aY l (i:Int)).1 2000/\(LE.le (α:=Int) 20 (rd aY l (i:Int)).2.1/\LE.le (α:=Int) (rd aY l (i:Int)).2.1 300)
theorem ZT (l:List aZ):(∀ i,i<l.length->QT' l i) ↔ (∀ i,i<l.length->QT l i):=by
 constructor
 ·intro h
  have hp:∀ i,i<l.length->LE.le (α:=Int) 0 (rd aY l (i:Int)).1:=by
   intro i
   induction i with
   | zero=>intro hi;have:=(h 0 hi).1 rfl;omega
   | succ i ih=>
    intro hi
    have h1:=ih (by omega)
    have h2:=(h (i+1) hi).2.1 (by omega)
    simp only [Nat.add_sub_cancel] at h2
    omega
  intro i hi
  obtain ⟨h1,h2,h3,h4⟩:=h i hi
  exact ⟨⟨h4,hp i hi,h3⟩,h1,h2⟩
 ·intro h i hi
  obtain ⟨⟨h1,h2,h3⟩,h4,h5⟩:=h i hi
  exact ⟨h4,h5,h3,h1⟩
theorem gu (l:List aZ) (hl:l.length<=2097152):Ev (fun k=>dM k l) (decide (mI l)):=by
 refine Ar ?_
 obtain ⟨r,er,hr⟩:=wh (F:=fun i k m=>dM.l0 k m l l ((List.length l:Nat):Int) i) (n:=l.length) (QT' l) (decide (1<=((l.length:Nat):Int)/\((l.length:Nat):Int)<=8)) (E2.eq (fun k m=>dM.aj k m l l _ _) (E2.neg (by omega) (E2.bind (aB _ _ _) (E2.ret.val (by simp))))) (fun i hi hq v e=>by
  obtain ⟨h3,h4,h5,h6⟩:=hq
  refine E2.eq (fun k m=>dM.aj k m l l _ _) (E2.pos (by omega) (E2.pos (by omega) (E2.pos (by omega) ?_)))
  simp only [bE (show i<9223372036854775807 by omega)]
  by_cases c:0<i
  ·refine E2.neg (by omega) (E2.pos (by omega) ?_)
   simp only [kL c (show i<9223372036854775807 by omega)]
   have:=h4 c
   exact E2.pos (by omega) (E2.pos (by omega) (E2.neg (by omega) (E2.neg (by omega) (E2.bind (aB _ _ _) (E2.neg (by simpa using h6) e)))))
  ·exact E2.pos (by omega) (E2.neg (fun h=>h (h3 (by omega))) (E2.neg (by omega) (E2.neg (by omega) (E2.bind (aB _ _ _) (E2.neg (by simpa using h6) e)))))) (fun i hi hq=>by
  refine E2.eq (fun k m=>dM.aj k m l l _ _) (E2.pos (by omega) (E2.pos (by omega) (E2.pos (by omega) ?_)))
  by_cases c:0<i
  ·refine E2.neg (by omega) (E2.pos (by omega) ?_)
   simp only [kL c (show i<9223372036854775807 by omega)]
   refine E2.pos (by omega) (E2.pos (by omega) ?_)
   by_cases h4:LT.lt (α:=Int) (rd aY l ((i - 1:Nat):Int)).1 (rd aY l (i:Int)).1
   ·refine E2.neg (by omega) ?_
    by_cases h5:LE.le (α:=Int) (rd aY l (i:Int)).1 2000
    ·exact E2.neg (by omega) (E2.bind (aB _ _ _) (E2.pos (by simp only [decide_eq_true_eq];exact fun h6=>hq ⟨fun h=>by omega,fun _=>h4,h5,h6⟩) E2.ret))
    ·exact E2.pos (by omega) E2.ret
   ·exact E2.pos (by omega) E2.ret
  ·refine E2.pos (by omega) ?_
   by_cases h3:Eq (α:=Int) (rd aY l (i:Int)).1 0
   ·refine E2.neg (fun h=>h h3) (E2.neg (by omega) (E2.neg (by omega) (E2.bind (aB _ _ _) (E2.pos (by simp only [decide_eq_true_eq];exact fun h6=>hq ⟨fun _=>h3,fun h=>absurd h c,by omega,h6⟩) E2.ret))))
   ·exact E2.pos h3 E2.ret)
 exact ⟨r,Ev.eq (fun k=>GN k l) (Ev.loop (f:=fun k m=>dM.l0 k m l l ((List.length l:Nat):Int) 0) er),hr.trans (and_congr (ZT l) Iff.rfl)⟩
theorem mX (l:List aZ) (hl:l.length<=1048576):Ev (fun k=>dM k l) (decide (mI l)):=gu l (by omega)
theorem ZU:yF 0 0=false:=by unfold yF;simp
theorem abA {n d:Int} (h:(mk n d).2.1=false):mk n d=Dp:=by
 unfold mk at h ⊢
 split
 ·rename_i c;rw [if_pos c] at h;cases h
 ·rfl
theorem NZ (m:aZ):∃ r,Ev (fun k=>zo k m) r/\Ev (fun k=>vP k m) r:=by
 by_cases c1:1<=(m.1:Int)/\(m.1:Int)<=12
 ·by_cases d1:(m.2.1:Int)=1
  ·exact ⟨true,Ev.eq (fun k=>nD k m) (Ev.bind (dS _ _ _) (Ev.pos (by simpa using c1) (Ev.pos d1 Ev.ret))),Ev.eq (fun k=>kT k m) (Ev.bind (aB _ _ _) (Ev.pos (by simpa using c1) (Ev.pos d1 Ev.ret)))⟩
  ·by_cases d2:(m.2.1:Int)=2
   ·exact ⟨true,Ev.eq (fun k=>nD k m) (Ev.bind (dS _ _ _) (Ev.pos (by simpa using c1) (Ev.neg d1 (Ev.pos d2 Ev.ret)))),Ev.eq (fun k=>kT k m) (Ev.bind (aB _ _ _) (Ev.pos (by simpa using c1) (Ev.neg d1 (Ev.pos d2 Ev.ret))))⟩
   ·by_cases d3:(m.2.1:Int)=4
    ·exact ⟨true,Ev.eq (fun k=>nD k m) (Ev.bind (dS _ _ _) (Ev.pos (by simpa using c1) (Ev.neg d1 (Ev.neg d2 (Ev.pos d3 Ev.ret))))),Ev.eq (fun k=>kT k m) (Ev.bind (aB _ _ _) (Ev.pos (by simpa using c1) (Ev.neg d1 (Ev.neg d2 (Ev.pos d3 Ev.ret)))))⟩
    ·exact ⟨_,Ev.eq (fun k=>nD k m) (Ev.bind (dS _ _ _) (Ev.pos (by simpa using c1) (Ev.neg d1 (Ev.neg d2 (Ev.neg d3 Ev.ret))))),Ev.eq (fun k=>kT k m) (Ev.bind (aB _ _ _) (Ev.pos (by simpa using c1) (Ev.neg d1 (Ev.neg d2 (Ev.neg d3 Ev.ret)))))⟩
 ·exact ⟨false,Ev.eq (fun k=>nD k m) (Ev.bind (dS _ _ _) (Ev.neg (by simpa using c1) Ev.ret)),Ev.eq (fun k=>kT k m) (Ev.bind (aB _ _ _) (Ev.neg (by simpa using c1) Ev.ret))⟩
def xS (a b:eX):Prop:=(a.1:Int)<b.1\/(a.1:Int)=b.1/\(a.2.1:Int)<b.2.1
instance (a b:eX):Decidable (xS a b):=by unfold xS;infer_instance
theorem Kh (a b:eX):Ev (fun k=>wM k a b) (decide (xS a b)):=by
 refine Ev.eq (fun k=>EB k a b) ?_
 unfold xS
 by_cases c1:(a.1:Int)<b.1
 ·exact Ev.pos c1 (Ev.ret.val (by simp [c1]))
 ·refine Ev.neg c1 ?_
  by_cases c2:(a.1:Int)=b.1
  ·exact Ev.pos c2 (Ev.ret.val (by congr 1;exact propext ⟨fun h=>.inr ⟨c2,h⟩,fun h=>by omega⟩))
  ·exact Ev.neg c2 (Ev.ret.val (by simp [c1,c2]))
theorem ZV (x y:Int):Ev (fun k=>aS k [x,y]) (GH x y):=by
 refine Ev.eq (fun k=>nI k _) (Ev.loop (f:=fun k m=>aS.l0 k m 0 [x,y] ((List.length [x,y]:Nat):Int) 0) ?_)
 have w0:IntKind.wrap .i64 ((0:Int)+1)=1:=fO (by omega) (by omega)
 have w1:IntKind.wrap .i64 ((1:Int)+1)=2:=fO (by omega) (by omega)
 have r0:rd (.int .i64) [x,y] 0=x:=rfl
 have r1:rd (.int .i64) [x,y] 1=y:=rfl
 have hl:((List.length [x,y]:Nat):Int)=2:=rfl
 unfold GH
 refine E2.eq (fun k m=>aS.aj k m 0 [x,y] _ 0) (E2.pos (by rw [hl];omega) (E2.pos (by omega) (E2.pos (by rw [hl];omega) ?_)))
 simp only [r0,w0]
 by_cases c0:x=0
 ·refine E2.neg (fun h=>h c0) ?_
  rw [if_neg (show ¬ x ≠ 0 by omega)]
  refine E2.eq (fun k m=>aS.aj k m 0 [x,y] _ 1) (E2.pos (by rw [hl];omega) (E2.pos (by omega) (E2.pos (by rw [hl];omega) ?_)))
  simp only [r1,w1]
  by_cases c1:y=0
  ·exact E2.neg (fun h=>h c1) (E2.eq (fun k m=>aS.aj k m 0 [x,y] _ 2) (E2.neg (by rw [hl];omega) (E2.ret.val c1.symm)))
  ·exact E2.pos c1 E2.ret
 ·rw [if_pos c0];exact E2.pos c0 E2.ret
def WC (a b:eX):Int:=GH (vO a.1 b.1) (vO a.2.1 b.2.1)
theorem Bt (a b:eX):Ev (fun k=>oC k a b) (WC a b):=
 Ev.eq (fun k=>Ey k a b) (Ev.bind (pJ _ _) (Ev.bind (pJ _ _) (Ev.bind (ZV _ _) Ev.ret)))
theorem Im (a b:eX):WC a b<0 ↔ xS a b:=by
 unfold WC GH vO xS
 repeat' split
 all_goals omega
def okM (e:eX):Prop:=(1<=(e.1:Int)/\(e.1:Int)<=100)/\(1<=(e.2.1:Int)/\(e.2.1:Int)<=4)/\(0<=(e.2.2.1:Int)/\(e.2.2.1:Int)<=9)/\(0<=(e.2.2.2.1:Int)/\(e.2.2.2.1:Int)<=100000)/\(1<=(e.2.2.2.2.1:Int)/\(e.2.2.2.2.1:Int)<=99)
def QM (l:List eX) (i:Nat):Prop:=okM (rd gX l (i:Int))/\(0<i->xS (rd gX l ((i - 1:Nat):Int)) (rd gX l (i:Int)))
def Oa (l:List eX):Prop:=(∀ i,i<l.length->QM l i)/\decide (((l.length:Nat):Int)<=30)=true
theorem notM (l:List eX) (i:Nat) (h:¬ QM l i) (h1:okM (rd gX l (i:Int))):0<i/\¬ xS (rd gX l ((i - 1:Nat):Int)) (rd gX l (i:Int)):=by
 refine ⟨?_,fun c=>h ⟨h1,fun _=>c⟩⟩
 rcases Nat.eq_zero_or_pos i with hi | hi
 ·exact absurd ⟨h1,fun h'=>by omega⟩ h
 ·exact hi
theorem Lp (l:List eX) (hl:l.length<=2097152):∃ r,Ev (fun k=>fu k l) r/\(r=true ↔ Oa l):=by
 obtain ⟨r,er,hr⟩:=jq (R:=fun i v=>E2 (fun k m=>fu.l0 k m l i) v) (n:=l.length) (QM l) (decide (((l.length:Nat):Int)<=30)) (E2.eq (fun k m=>fu.aj k m l _) (E2.neg (by omega) E2.ret)) (fun i hi hq v e=>by
  obtain ⟨⟨h1,h2,h3,h4,h5⟩,h6⟩:=hq
  refine E2.eq (fun k m=>fu.aj k m l _) (E2.pos (by omega) (E2.pos (by omega) (E2.pos (by omega) (E2.bind (dS _ _ _) (E2.neg (by simpa using h1) (E2.bind (dS _ _ _) (E2.neg (by simpa using h2) (E2.bind (dS _ _ _) (E2.neg (by simpa using h3) (E2.bind (dS _ _ _) (E2.neg (by simpa using h4) (E2.bind (dS _ _ _) (E2.neg (by simpa using h5) ?_)))))))))))))
  simp only [bE (show i<9223372036854775807 by omega)]
  by_cases c:0<i
  ·refine E2.pos (by omega) ?_
   simp only [kL c (show i<9223372036854775807 by omega)]
   exact E2.pos (by omega) (E2.pos (by omega) (E2.bind (Kh _ _) (E2.neg (by simpa using h6 c) e)))
  ·exact E2.neg (by omega) e) (fun i hi hq=>by
  refine E2.eq (fun k m=>fu.aj k m l _) (E2.pos (by omega) (E2.pos (by omega) (E2.pos (by omega) (E2.bind (dS _ _ _) ?_))))
  by_cases h1:1<=((rd gX l (i:Int)).1:Int)/\((rd gX l (i:Int)).1:Int)<=100
  ·refine E2.neg (by simpa using h1) (E2.bind (dS _ _ _) ?_)
   by_cases h2:1<=((rd gX l (i:Int)).2.1:Int)/\((rd gX l (i:Int)).2.1:Int)<=4
   ·refine E2.neg (by simpa using h2) (E2.bind (dS _ _ _) ?_)
    by_cases h3:0<=((rd gX l (i:Int)).2.2.1:Int)/\((rd gX l (i:Int)).2.2.1:Int)<=9
    ·refine E2.neg (by simpa using h3) (E2.bind (dS _ _ _) ?_)
     by_cases h4:0<=((rd gX l (i:Int)).2.2.2.1:Int)/\((rd gX l (i:Int)).2.2.2.1:Int)<=100000
     ·refine E2.neg (by simpa using h4) (E2.bind (dS _ _ _) ?_)
      by_cases h5:1<=((rd gX l (i:Int)).2.2.2.2.1:Int)/\((rd gX l (i:Int)).2.2.2.2.1:Int)<=99
      ·obtain ⟨c,c1⟩:=notM l i hq ⟨h1,h2,h3,h4,h5⟩
       refine E2.neg (by simpa using h5) (E2.pos (by omega) ?_)
       simp only [kL c (show i<9223372036854775807 by omega)]
       exact E2.pos (by omega) (E2.pos (by omega) (E2.bind (Kh _ _) (E2.pos (by simpa using c1) E2.ret)))
      ·exact E2.pos (by simpa using h5) E2.ret
     ·exact E2.pos (by simpa using h4) E2.ret
    ·exact E2.pos (by simpa using h3) E2.ret
   ·exact E2.pos (by simpa using h2) E2.ret
  ·exact E2.pos (by simpa using h1) E2.ret)
 exact ⟨r,Ev.eq (fun k=>FK k l) (Ev.loop (f:=fun k m=>fu.l0 k m l 0) er),hr⟩
theorem Ob (l:List eX) (hl:l.length<=1048576):∃ r,Ev (fun k=>fu k l) r/\(r=true ↔ Oa l):=Lp l (by omega)
theorem Ci (l:List eX) (hl:l.length<=2097152):∃ r,Ev (fun k=>eD k l) r/\(r=true ↔ Oa l):=by
 obtain ⟨r,er,hr⟩:=jq (R:=fun i v=>E2 (fun k m=>eD.l0 k m l l ((List.length l:Nat):Int) i) v) (n:=l.length) (QM l) (decide (((l.length:Nat):Int)<=30)) (E2.eq (fun k m=>eD.aj k m l l _ _) (E2.neg (by omega) E2.ret)) (fun i hi hq v e=>by
  obtain ⟨⟨h1,h2,h3,h4,h5⟩,h6⟩:=hq
  refine E2.eq (fun k m=>eD.aj k m l l _ _) (E2.pos (by omega) (E2.pos (by omega) (E2.pos (by omega) (E2.bind (aB _ _ _) (E2.neg (by simpa using h1) (E2.bind (aB _ _ _) (E2.neg (by simpa using h2) (E2.bind (aB _ _ _) (E2.neg (by simpa using h3) (E2.bind (aB _ _ _) (E2.neg (by simpa using h4) (E2.bind (aB _ _ _) (E2.neg (by simpa using h5) ?_)))))))))))))
  simp only [bE (show i<9223372036854775807 by omega)]
  by_cases c:0<i
  ·refine E2.pos (by omega) ?_
   simp only [kL c (show i<9223372036854775807 by omega)]
   have:=(Im _ _).2 (h6 c)
   exact E2.pos (by omega) (E2.pos (by omega) (E2.bind (Bt _ _) (E2.neg (by omega) e)))
  ·exact E2.neg (by omega) e) (fun i hi hq=>by
  refine E2.eq (fun k m=>eD.aj k m l l _ _) (E2.pos (by omega) (E2.pos (by omega) (E2.pos (by omega) (E2.bind (aB _ _ _) ?_))))
  by_cases h1:1<=((rd gX l (i:Int)).1:Int)/\((rd gX l (i:Int)).1:Int)<=100
  ·refine E2.neg (by simpa using h1) (E2.bind (aB _ _ _) ?_)
   by_cases h2:1<=((rd gX l (i:Int)).2.1:Int)/\((rd gX l (i:Int)).2.1:Int)<=4
   ·refine E2.neg (by simpa using h2) (E2.bind (aB _ _ _) ?_)
    by_cases h3:0<=((rd gX l (i:Int)).2.2.1:Int)/\((rd gX l (i:Int)).2.2.1:Int)<=9
    ·refine E2.neg (by simpa using h3) (E2.bind (aB _ _ _) ?_)
     by_cases h4:0<=((rd gX l (i:Int)).2.2.2.1:Int)/\((rd gX l (i:Int)).2.2.2.1:Int)<=100000
     ·refine E2.neg (by simpa using h4) (E2.bind (aB _ _ _) ?_)
      by_cases h5:1<=((rd gX l (i:Int)).2.2.2.2.1:Int)/\((rd gX l (i:Int)).2.2.2.2.1:Int)<=99
      ·obtain ⟨c,c1⟩:=notM l i hq ⟨h1,h2,h3,h4,h5⟩
       refine E2.neg (by simpa using h5) (E2.pos (by omega) ?_)
       simp only [kL c (show i<9223372036854775807 by omega)]
       have:=mt (Im _ _).1 c1
       exact E2.pos (by omega) (E2.pos (by omega) (E2.bind (Bt _ _) (E2.pos (by omega) E2.ret)))
      ·exact E2.pos (by simpa using h5) E2.ret
     ·exact E2.pos (by simpa using h4) E2.ret
    ·exact E2.pos (by simpa using h3) E2.ret
   ·exact E2.pos (by simpa using h2) E2.ret
  ·exact E2.pos (by simpa using h1) E2.ret)
 exact ⟨r,Ev.eq (fun k=>FE k l) (Ev.loop (f:=fun k m=>eD.l0 k m l l ((List.length l:Nat):Int) 0) er),hr⟩
theorem zx (l:List eX) (hl:l.length<=1048576):∃ r,Ev (fun k=>eD k l) r/\(r=true ↔ Oa l):=Ci l (by omega)
def QL (l:List aZ) (i:Nat):Prop:=Eq (α:=Int) (rd aY l (i:Int)).1 (i:Int)/\(LE.le (α:=Int) 1 (rd aY l (i:Int)).2.1/\LE.le (α:=Int) (rd aY l (i:Int)).2.1 500)/\(0<i->LT.lt (α:=Int) (rd aY l ((i - 1:Nat):Int)).2.1 (rd aY l (i:Int)).2.1)
def Qf (l:List aZ):Prop:=(∀ i,i<l.length->QL l i)/\decide (((l.length:Nat):Int)<=26)=true
theorem Ki (l:List aZ) (hl:l.length<=1048576):∃ r,Ev (fun k=>eT k l) r/\(r=true ↔ Qf l):=by
 obtain ⟨r,er,hr⟩:=jq (R:=fun i v=>E2 (fun k m=>eT.l0 k m l i) v) (n:=l.length) (QL l) (decide (((l.length:Nat):Int)<=26)) (E2.eq (fun k m=>eT.aj k m l _) (E2.neg (by omega) E2.ret)) (fun i hi hq v e=>by
  obtain ⟨h1,h2,h3⟩:=hq
  refine E2.eq (fun k m=>eT.aj k m l _) (E2.pos (by omega) (E2.pos (by omega) (E2.pos (by omega) (E2.neg (fun c=>c h1) (E2.pos (by omega) (E2.pos (by omega) (E2.bind (dS _ _ _) (E2.neg (by simpa using h2) ?_))))))))
  simp only [bE (show i<9223372036854775807 by omega)]
  by_cases c:0<i
  ·refine E2.pos (by omega) ?_
   simp only [kL c (show i<9223372036854775807 by omega)]
   have:=h3 c
   exact E2.pos (by omega) (E2.pos (by omega) (E2.pos (by omega) (E2.pos (by omega) (E2.neg (by omega) e))))
  ·exact E2.neg (by omega) e) (fun i hi hq=>by
  refine E2.eq (fun k m=>eT.aj k m l _) (E2.pos (by omega) (E2.pos (by omega) (E2.pos (by omega) ?_)))
  by_cases h1:Eq (α:=Int) (rd aY l (i:Int)).1 (i:Int)
  ·refine E2.neg (fun c=>c h1) (E2.pos (by omega) (E2.pos (by omega) (E2.bind (dS _ _ _) ?_)))
   by_cases h2:LE.le (α:=Int) 1 (rd aY l (i:Int)).2.1/\LE.le (α:=Int) (rd aY l (i:Int)).2.1 500
   ·have c:0<i:=by
     rcases Nat.eq_zero_or_pos i with h | h
     ·exact absurd ⟨h1,h2,fun h'=>by omega⟩ hq
     ·exact h
    have h3:¬ LT.lt (α:=Int) (rd aY l ((i - 1:Nat):Int)).2.1 (rd aY l (i:Int)).2.1:=fun h=>hq ⟨h1,h2,fun _=>h⟩
    refine E2.neg (by simpa using h2) (E2.pos (by omega) ?_)
    simp only [kL c (show i<9223372036854775807 by omega)]
    exact E2.pos (by omega) (E2.pos (by omega) (E2.pos (by omega) (E2.pos (by omega) (E2.pos (by omega) E2.ret))))
   ·exact E2.pos (by simpa using h2) E2.ret
  ·exact E2.pos h1 E2.ret)
 exact ⟨r,Ev.eq (fun k=>Dh k l) (Ev.loop (f:=fun k m=>eT.l0 k m l 0) er),hr⟩
theorem AP (l:List aZ) (hl:l.length<=1048576):∃ r,Ev (fun k=>eO k l) r/\(r=true ↔ Qf l):=by
 obtain ⟨r,er,hr⟩:=jq (R:=fun i v=>E2 (fun k m=>eO.l0 k m l l ((List.length l:Nat):Int) i) v) (n:=l.length) (QL l) (decide (((l.length:Nat):Int)<=26)) (E2.eq (fun k m=>eO.aj k m l l _ _) (E2.neg (by omega) E2.ret)) (fun i hi hq v e=>by
  obtain ⟨h1,h2,h3⟩:=hq
  refine E2.eq (fun k m=>eO.aj k m l l _ _) (E2.pos (by omega) (E2.pos (by omega) (E2.pos (by omega) (E2.neg (fun c=>c h1) (E2.bind (aB _ _ _) (E2.neg (by simpa using h2) ?_))))))
  simp only [bE (show i<9223372036854775807 by omega)]
  by_cases c:0<i
  ·refine E2.pos (by omega) ?_
   simp only [kL c (show i<9223372036854775807 by omega)]
   have:=h3 c
   exact E2.pos (by omega) (E2.pos (by omega) (E2.neg (by omega) e))
  ·exact E2.neg (by omega) e) (fun i hi hq=>by
  refine E2.eq (fun k m=>eO.aj k m l l _ _) (E2.pos (by omega) (E2.pos (by omega) (E2.pos (by omega) ?_)))
  by_cases h1:Eq (α:=Int) (rd aY l (i:Int)).1 (i:Int)
  ·refine E2.neg (fun c=>c h1) (E2.bind (aB _ _ _) ?_)
   by_cases h2:LE.le (α:=Int) 1 (rd aY l (i:Int)).2.1/\LE.le (α:=Int) (rd aY l (i:Int)).2.1 500
   ·have c:0<i:=by
     rcases Nat.eq_zero_or_pos i with h | h
     ·exact absurd ⟨h1,h2,fun h'=>by omega⟩ hq
     ·exact h
    have h3:¬ LT.lt (α:=Int) (rd aY l ((i - 1:Nat):Int)).2.1 (rd aY l (i:Int)).2.1:=fun h=>hq ⟨h1,h2,fun _=>h⟩
    refine E2.neg (by simpa using h2) (E2.pos (by omega) ?_)
    simp only [kL c (show i<9223372036854775807 by omega)]
    exact E2.pos (by omega) (E2.pos (by omega) (E2.pos (by omega) E2.ret))
   ·exact E2.pos (by simpa using h2) E2.ret
  ·exact E2.pos h1 E2.ret)
 exact ⟨r,Ev.eq (fun k=>CZ k l) (Ev.loop (f:=fun k m=>eO.l0 k m l l ((List.length l:Nat):Int) 0) er),hr⟩
theorem Kj (l:List Int) (x:Int) (hl:l.length<=1048576):Ev (fun k=>iD k l x) (decide (x ∈ l)):=by
 refine Ar ?_
 obtain ⟨r,er,hr⟩:=Ue (R:=fun i v=>E2 (fun k m=>iD.l0 k m l x i) v) (n:=l.length) (fun i=>Eq (α:=Int) (rd (.int .i64) l (i:Int)) x) (E2.eq (fun k m=>iD.aj k m l x _) (E2.neg (by omega) E2.ret)) (fun i hi hq v e=>by
  refine E2.eq (fun k m=>iD.aj k m l x _) (E2.pos (by omega) (E2.pos (by omega) (E2.pos (by omega) (E2.neg hq ?_))))
  simp only [bE (show i<9223372036854775807 by omega)];exact e) (fun i hi hq=>E2.eq (fun k m=>iD.aj k m l x _) (E2.pos (by omega) (E2.pos (by omega) (E2.pos (by omega) (E2.pos hq E2.ret)))))
 refine ⟨r,Ev.eq (fun k=>Kc k l x) (Ev.loop (f:=fun k m=>iD.l0 k m l x 0) er),hr.trans ⟨fun ⟨i,hi,h⟩=>?_,fun h=>?_⟩⟩
 ·rw [<- h,dI hi];exact List.getElem_mem hi
 ·obtain ⟨i,hi,h⟩:=List.mem_iff_getElem.1 h
  exact ⟨i,hi,by rw [dI hi];exact h⟩
theorem JL (l:List Int) (x:Int) (hl:l.length<=1048576):Ev (fun k=>aD k l x) (wI (fun i=>decide (Eq (α:=Int) x (rd (.int .i64) l (i:Int)))) l.length):=by
 have er:=qW (R:=fun i v=>E2 (fun k m=>aD.l0 k m l x ((List.length l:Nat):Int) i) v) (n:=l.length) (fun i=>decide (Eq (α:=Int) x (rd (.int .i64) l (i:Int)))) (E2.eq (fun k m=>aD.aj k m l x _ _) (E2.neg (by omega) E2.ret)) (fun i hi hq v e=>by
  refine E2.eq (fun k m=>aD.aj k m l x _ _) (E2.pos (by omega) (E2.pos (by omega) (E2.pos (by omega) (E2.neg (by simpa using hq) ?_))))
  simp only [bE (show i<9223372036854775807 by omega)];exact e) (fun i hi hq=>E2.eq (fun k m=>aD.aj k m l x _ _) (E2.pos (by omega) (E2.pos (by omega) (E2.pos (by omega) (E2.pos (by simpa using hq) E2.ret)))))
 exact Ev.eq (fun k=>ji k l x) (Ev.loop (f:=fun k m=>aD.l0 k m l x ((List.length l:Nat):Int) 0) er)
theorem jH (l:List Int) (x:Int) (hl:l.length<=1048576):Ev (fun k=>cB k l x) (decide (x ∈ l)):=by
 refine Ev.eq (fun k=>jL k l x) (Ev.bind (JL l x hl) (Ev.ret.val ?_))
 rw [Bool.eq_iff_iff,decide_eq_true_eq,decide_eq_true_eq,xL]
 constructor
 ·rintro ⟨i,hi,h⟩
  have h:x=rd (.int .i64) l (i:Int):=by simpa using h
  rw [h,dI hi];exact List.getElem_mem hi
 ·intro h
  obtain ⟨i,hi,h⟩:=List.mem_iff_getElem.1 h
  exact ⟨i,hi,by rw [decide_eq_true_eq,dI hi];exact h.symm⟩
def bF (v:Int) (e:aC):Bool:=decide ((e.2.2.2.1:Int)=v)
theorem Oc (l:List aC) (v:Int) (hl:l.length<=1048576):Ev (fun k=>gG k l v) (l.filter (bF v)):=by
 have er:=NP (t:=aP) (l:=l) (R:=fun i s r=>E2 (fun k m=>gG.l0 k m l v i s) r) (bF v) (fun s=>E2.eq (fun k m=>gG.aj k m l v _ s) (E2.neg (by omega) E2.ret)) (fun i s hi hs hq r e=>by
  refine E2.eq (fun k m=>gG.aj k m l v _ s) (E2.pos (by omega) (E2.pos (by omega) (E2.pos (by omega) (E2.pos (of_decide_eq_true hq) (E2.pos (by omega) (E2.pos (by omega) (E2.pos (by simp only [List.length_cons,List.length_nil];omega) ?_)))))))
  simp only [bE (show i<9223372036854775807 by omega)];exact e) (fun i s hi hs hq r e=>by
  refine E2.eq (fun k m=>gG.aj k m l v _ s) (E2.pos (by omega) (E2.pos (by omega) (E2.pos (by omega) (E2.neg (of_decide_eq_false hq) ?_))))
  simp only [bE (show i<9223372036854775807 by omega)];exact e)
 exact Ev.eq (fun k=>Hf k l v) (Ev.loop (f:=fun k m=>gG.l0 k m l v 0 []) er)
theorem zf (e:aC) (v:Int):Ev (fun k=>jc k e v) (! bF v e):=by
 refine Ev.eq (fun k=>rQ k e v) (Ev.ret.val ?_)
 unfold bF
 simp
theorem Fb (l:List aC) (v:Int) (hl:l.length<=1048576):Ev (fun k=>au k l v) (l.filter (bF v)):=by
 have ei:Ev (fun k=>ay k l v) (wI (fun i=>! bF v (rd aP l (i:Int))) l.length):=by
  have er:=qW (R:=fun i r=>E2 (fun k m=>ay.l0 k m l v ((List.length l:Nat):Int) i) r) (n:=l.length) (fun i=>! bF v (rd aP l (i:Int))) (E2.eq (fun k m=>ay.aj k m l v _ _) (E2.neg (by omega) E2.ret)) (fun i hi hq r e=>by
   refine E2.eq (fun k m=>ay.aj k m l v _ _) (E2.pos (by omega) (E2.pos (by omega) (E2.pos (by omega) (E2.bind (zf _ _) (E2.neg (by rw [hq];simp) ?_)))))
   simp only [bE (show i<9223372036854775807 by omega)];exact e) (fun i hi hq=>E2.eq (fun k m=>ay.aj k m l v _ _) (E2.pos (by omega) (E2.pos (by omega) (E2.pos (by omega) (E2.bind (zf _ _) (E2.pos hq E2.ret))))))
  exact Ev.eq (fun k=>iP k l v) (Ev.loop (f:=fun k m=>ay.l0 k m l v ((List.length l:Nat):Int) 0) er)
 refine Ev.eq (fun k=>iI k l v) (Ev.bind ei ?_)
 rcases qV (fun i=>! bF v (rd aP l (i:Int))) l.length with ⟨h,hall⟩ | ⟨r,h,hr,h1,h0⟩
 ·refine Ev.pos h (Ev.ret.val ?_)
  symm
  rw [List.filter_eq_self]
  intro x hx
  obtain ⟨i,hi,rfl⟩:=List.mem_iff_getElem.1 hx
  have:=hall i hi
  rw [dI hi] at this
  simpa using this
 ·rw [h]
  refine Ev.neg (by omega) ?_
  rw [bE (by omega)]
  refine Ev.loop (f:=fun k m=>au.l0 k m v (r:Int) ((r+1:Nat):Int) l) ?_
  refine za (t:=aP) (l:=l) (R:=fun i j s w=>E2 (fun k m=>au.l0 k m v i j s) w) (bF v) (fun i s hi hs=>?_) (fun i j s hij hj hs hq w e=>?_) (fun i j s hij hj hs hq w e=>?_) r hr (fun j hj=>by simpa using h0 j hj) (by simpa using h1)
  ·refine E2.eq (fun k m=>au.aj k m v _ _ s) (E2.neg (by omega) (E2.pos (by omega) (E2.pos (by omega) (E2.pos (by omega) (E2.pos ?_ (E2.ret.val ?_))))))
   ·simp only [List.length_append,List.length_take,List.length_replicate,List.length_drop,Int.toNat_natCast]
    omega
   ·simp only [Int.toNat_natCast,show Int.toNat 0=0 from rfl,Nat.sub_zero,List.drop_zero]
    rw [List.append_assoc,List.take_append_of_le_length (by simp;omega),List.take_take,Nat.min_self]
  ·refine E2.eq (fun k m=>au.aj k m v _ _ s) (E2.pos (by omega) (E2.pos (by omega) (E2.pos (by omega) (E2.bind (zf _ _) (E2.pos (by rw [hq];simp) (E2.pos (by omega) (E2.pos (by omega) ?_)))))))
   simp only [bE (show i<9223372036854775807 by omega),bE (show j<9223372036854775807 by omega),Int.toNat_natCast];exact e
  ·refine E2.eq (fun k m=>au.aj k m v _ _ s) (E2.pos (by omega) (E2.pos (by omega) (E2.pos (by omega) (E2.bind (zf _ _) (E2.neg (by rw [hq];simp) ?_)))))
   simp only [bE (show j<9223372036854775807 by omega)];exact e
theorem jr (l:List aC) (hl:l.length<=1048576):Ev (fun k=>bD k l) l:=
 Ev.eq (fun k=>lH k l) (Ev.pos (by simp only [List.length_nil];omega) (Ev.ret.val (by simp)))
theorem rR (l:List aC) (v:Int) (hl:l.length<=1048576):Ev (fun k=>kg k l v) (l.filter (bF v)):=
 Ev.eq (fun k=>uU k l v) (Ev.bind (jr l hl) (Ev.bind (Fb l v hl) Ev.ret))
def QF (lo hi:Int) (l:List aC) (i:Nat):Prop:=LE.le (α:=Int) lo (rd aP l (i:Int)).2.2.1/\LE.le (α:=Int) (rd aP l (i:Int)).2.2.1 hi
def ME (l:List aC) (lo hi:Int):Prop:=(∀ i,i<l.length->QF lo hi l i)/\decide (dU l)=true
theorem Qg (l:List aC) (lo hi:Int) (hl:l.length<=1048576):∃ r,Ev (fun k=>fJ k l lo hi) r/\(r=true ↔ ME l lo hi):=by
 obtain ⟨r,er,hr⟩:=jq (R:=fun i v=>E2 (fun k m=>fJ.l0 k m l lo hi i) v) (n:=l.length) (QF lo hi l) (decide (dU l)) (E2.eq (fun k m=>fJ.aj k m l lo hi _) (E2.neg (by omega) (E2.bind (iq l hl) (E2.ret.val (by simp))))) (fun i hi' hq v e=>by
  refine E2.eq (fun k m=>fJ.aj k m l lo hi _) (E2.pos (by omega) (E2.pos (by omega) (E2.pos (by omega) (E2.bind (dS _ _ _) (E2.neg (by simpa [QF] using hq) ?_)))))
  simp only [bE (show i<9223372036854775807 by omega)];exact e) (fun i hi' hq=>E2.eq (fun k m=>fJ.aj k m l lo hi _) (E2.pos (by omega) (E2.pos (by omega) (E2.pos (by omega) (E2.bind (dS _ _ _) (E2.pos (by simp only [decide_eq_true_eq];exact hq) E2.ret))))))
 exact ⟨r,Ev.eq (fun k=>EC k l lo hi) (Ev.loop (f:=fun k m=>fJ.l0 k m l lo hi 0) er),hr⟩
theorem Au (l:List aC) (lo hi:Int) (hl:l.length<=1048576):∃ r,Ev (fun k=>bB k l lo hi) r/\(r=true ↔ ME l lo hi):=by
 obtain ⟨r,er,hr⟩:=jq (R:=fun i v=>E2 (fun k m=>bB.l0 k m l lo hi l ((List.length l:Nat):Int) i) v) (n:=l.length) (QF lo hi l) (decide (dU l)) (E2.eq (fun k m=>bB.aj k m l lo hi l _ _) (E2.neg (by omega) (E2.bind (bJ l hl) (E2.ret.val (by simp))))) (fun i hi' hq v e=>by
  refine E2.eq (fun k m=>bB.aj k m l lo hi l _ _) (E2.pos (by omega) (E2.pos (by omega) (E2.pos (by omega) (E2.bind (aB _ _ _) (E2.neg (by simpa [QF] using hq) ?_)))))
  simp only [bE (show i<9223372036854775807 by omega)];exact e) (fun i hi' hq=>E2.eq (fun k m=>bB.aj k m l lo hi l _ _) (E2.pos (by omega) (E2.pos (by omega) (E2.pos (by omega) (E2.bind (aB _ _ _) (E2.pos (by simp only [decide_eq_true_eq];exact hq) E2.ret))))))
 exact ⟨r,Ev.eq (fun k=>rP k l lo hi) (Ev.loop (f:=fun k m=>bB.l0 k m l lo hi l ((List.length l:Nat):Int) 0) er),hr⟩
def NR (p:bT) (l:List aC) (v:Int):Prop:=(v:Int) ∈ p.2.2.2.1/\dU l/\ME (l.filter (bF v)) p.2.1 p.2.2.1
theorem filter_le (l:List aC) (v:Int) (hl:l.length<=1048576):(l.filter (bF v)).length<=1048576:=Nat.le_trans (List.length_filter_le _ _) hl
theorem RZ (p:bT) (l:List aC) (v:Int) (hp:p.2.2.2.1.length<=1048576) (hl:l.length<=1048576):∃ r,Ev (fun k=>zu k p l v) r/\(r=true ↔ NR p l v):=by
 unfold NR
 by_cases c1:(v:Int) ∈ p.2.2.2.1
 ·by_cases c2:dU l
  ·obtain ⟨r,er,hr⟩:=Qg (l.filter (bF v)) p.2.1 p.2.2.1 (filter_le l v hl)
   exact ⟨r,Ev.eq (fun k=>vD k p l v) (Ev.bind (Kj _ _ hp) (Ev.pos (by simpa using c1) (Ev.bind (iq l hl) (Ev.pos (by simpa using c2) (Ev.bind (Oc l v hl) (Ev.bind er (Ev.ret.val (by simp)))))))),by rw [hr];exact ⟨fun h=>⟨c1,c2,h⟩,fun h=>h.2.2⟩⟩
  ·exact ⟨false,Ev.eq (fun k=>vD k p l v) (Ev.bind (Kj _ _ hp) (Ev.pos (by simpa using c1) (Ev.bind (iq l hl) (Ev.neg (by simpa using c2) Ev.ret)))),by simp only [Bool.false_eq_true,false_iff];exact fun h=>c2 h.2.1⟩
 ·exact ⟨false,Ev.eq (fun k=>vD k p l v) (Ev.bind (Kj _ _ hp) (Ev.neg (by simpa using c1) Ev.ret)),by simp only [Bool.false_eq_true,false_iff];exact fun h=>c1 h.1⟩
theorem zh (p:bT) (l:List aC) (v:Int) (hp:p.2.2.2.1.length<=1048576) (hl:l.length<=1048576):∃ r,Ev (fun k=>jZ k p l v) r/\(r=true ↔ NR p l v):=by
 unfold NR
 by_cases c1:(v:Int) ∈ p.2.2.2.1
 ·by_cases c2:dU l
  ·obtain ⟨r,er,hr⟩:=Au (l.filter (bF v)) p.2.1 p.2.2.1 (filter_le l v hl)
   exact ⟨r,Ev.eq (fun k=>jM k p l v) (Ev.bind (jH _ _ hp) (Ev.pos (by simpa using c1) (Ev.bind (bJ l hl) (Ev.pos (by simpa using c2) (Ev.bind (rR l v hl) (Ev.bind er (Ev.ret.val (by simp)))))))),by rw [hr];exact ⟨fun h=>⟨c1,c2,h⟩,fun h=>h.2.2⟩⟩
  ·exact ⟨false,Ev.eq (fun k=>jM k p l v) (Ev.bind (jH _ _ hp) (Ev.pos (by simpa using c1) (Ev.bind (bJ l hl) (Ev.neg (by simpa using c2) Ev.ret)))),by simp only [Bool.false_eq_true,false_iff];exact fun h=>c2 h.2.1⟩
 ·exact ⟨false,Ev.eq (fun k=>jM k p l v) (Ev.bind (jH _ _ hp) (Ev.neg (by simpa using c1) Ev.ret)),by simp only [Bool.false_eq_true,false_iff];exact fun h=>c1 h.1⟩
def QA (lo hi:Int) (l:List Int) (i:Nat):Prop:=(LE.le (α:=Int) lo (rd (.int .i64) l (i:Int))/\LE.le (α:=Int) (rd (.int .i64) l (i:Int)) hi)/\(0<i->LT.lt (α:=Int) (rd (.int .i64) l ((i - 1:Nat):Int)) (rd (.int .i64) l (i:Int)))
def NS (l:List Int) (lo hi:Int):Prop:=∀ i,i<l.length->QA lo hi l i
theorem Yf {lo hi:Int} {l:List Int} {i:Nat} (h:¬ QA lo hi l i) (h1:LE.le (α:=Int) lo (rd (.int .i64) l (i:Int))/\LE.le (α:=Int) (rd (.int .i64) l (i:Int)) hi):0<i/\¬ LT.lt (α:=Int) (rd (.int .i64) l ((i - 1:Nat):Int)) (rd (.int .i64) l (i:Int)):=by
 refine ⟨?_,fun c=>h ⟨h1,fun _=>c⟩⟩
 rcases Nat.eq_zero_or_pos i with hi | hi
 ·exact absurd ⟨h1,fun h'=>by omega⟩ h
 ·exact hi
theorem CR (l:List Int) (lo hi:Int) (hl:l.length<=1048576):∃ r,Ev (fun k=>aW k l lo hi) r/\(r=true ↔ NS l lo hi):=by
 obtain ⟨r,er,hr⟩:=jq (R:=fun i v=>E2 (fun k m=>aW.l0 k m l lo hi l ((List.length l:Nat):Int) i) v) (n:=l.length) (QA lo hi l) true (E2.eq (fun k m=>aW.aj k m l lo hi l _ _) (E2.neg (by omega) E2.ret)) (fun i hi' hq v e=>by
  obtain ⟨h1,h2⟩:=hq
  refine E2.eq (fun k m=>aW.aj k m l lo hi l _ _) (E2.pos (by omega) (E2.pos (by omega) (E2.pos (by omega) (E2.bind (aB _ _ _) (E2.neg (by simpa using h1) ?_)))))
  simp only [bE (show i<9223372036854775807 by omega)]
  by_cases c:0<i
  ·refine E2.pos (by omega) ?_
   simp only [kL c (show i<9223372036854775807 by omega)]
   have:=h2 c
   exact E2.pos (by omega) (E2.pos (by omega) (E2.neg (by omega) e))
  ·exact E2.neg (by omega) e) (fun i hi' hq=>by
  refine E2.eq (fun k m=>aW.aj k m l lo hi l _ _) (E2.pos (by omega) (E2.pos (by omega) (E2.pos (by omega) (E2.bind (aB _ _ _) ?_))))
  by_cases h1:LE.le (α:=Int) lo (rd (.int .i64) l (i:Int))/\LE.le (α:=Int) (rd (.int .i64) l (i:Int)) hi
  ·obtain ⟨c,c1⟩:=Yf hq h1
   refine E2.neg (by simpa using h1) (E2.pos (by omega) ?_)
   simp only [kL c (show i<9223372036854775807 by omega)]
   exact E2.pos (by omega) (E2.pos (by omega) (E2.pos (by omega) E2.ret))
  ·exact E2.pos (by simp only [decide_eq_true_eq];exact h1) E2.ret)
 exact ⟨r,Ev.eq (fun k=>rO k l lo hi) (Ev.loop (f:=fun k m=>aW.l0 k m l lo hi l ((List.length l:Nat):Int) 0) er),hr.trans ⟨fun h=>h.1,fun h=>⟨h,rfl⟩⟩⟩
def okP (p:bT):Prop:=(21<=(p.2.1:Int)/\(p.2.1:Int)<=p.2.2.1)/\(p.2.2.1:Int)<=108/\NS p.2.2.2.1 1 4
def QP (l:List bT) (i:Nat):Prop:=okP (rd dL l (i:Int))/\(1<=((rd dL l (i:Int)).1:Int)/\((rd dL l (i:Int)).1:Int)<=99)/\(0<i->LT.lt (α:=Int) (rd dL l ((i - 1:Nat):Int)).1 (rd dL l (i:Int)).1)
def ou (l:List bT):Prop:=(∀ i,i<l.length->QP l i)/\decide (((l.length:Nat):Int)<=8)=true
def Wq (l:List bT):Prop:=l.length<=1048576/\∀ i:Nat,i<l.length->(rd dL l (i:Int)).2.2.2.1.length<=1048576
theorem Uh (l:List bT) (i:Nat) (a b c:Int) (vs:List Int) (hv:vs.length<=1048576) (hi:i<l.length) (hl:l.length<=1048576) (x:Bool) (e:E2 (fun k n=>aM.l0 k n l ((i+1:Nat):Int)) x) :
  ∃ r,E2 (fun k n=>aM.l1 k k n l (i:Int) 0 a b c vs) r/\(r=true ↔ NS vs 1 4/\x=true):=by
 obtain ⟨r,er,hr⟩:=jq (R:=fun j v=>E3 (fun k m n=>aM.l1 k m n l (i:Int) j a b c vs) v) (n:=vs.length) (QA 1 4 vs) x (by
  refine E3.eq (fun k m n=>aM.yA k m n l (i:Int) _ a b c vs) (E3.neg (by omega) ?_)
  simp only [bE (show i<9223372036854775807 by omega)]
  exact E3.out e) (fun j hj hq v e=>by
  obtain ⟨h1,h2⟩:=hq
  refine E3.eq (fun k m n=>aM.yA k m n l (i:Int) _ a b c vs) (E3.pos (by omega) (E3.pos (by omega) (E3.pos (by omega) (E3.bind (dS _ _ _) (E3.neg (by simpa using h1) ?_)))))
  simp only [bE (show j<9223372036854775807 by omega)]
  by_cases c:0<j
  ·refine E3.pos (by omega) ?_
   simp only [kL c (show j<9223372036854775807 by omega)]
   have:=h2 c
   exact E3.pos (by omega) (E3.pos (by omega) (E3.pos (by omega) (E3.pos (by omega) (E3.neg (by omega) e))))
  ·exact E3.neg (by omega) e) (fun j hj hq=>by
  refine E3.eq (fun k m n=>aM.yA k m n l (i:Int) _ a b c vs) (E3.pos (by omega) (E3.pos (by omega) (E3.pos (by omega) (E3.bind (dS _ _ _) ?_))))
  by_cases h1:LE.le (α:=Int) 1 (rd (.int .i64) vs (j:Int))/\LE.le (α:=Int) (rd (.int .i64) vs (j:Int)) 4
  ·obtain ⟨c,c1⟩:=Yf hq h1
   refine E3.neg (by simpa using h1) (E3.pos (by omega) ?_)
   simp only [kL c (show j<9223372036854775807 by omega)]
   exact E3.pos (by omega) (E3.pos (by omega) (E3.pos (by omega) (E3.pos (by omega) (E3.pos (by omega) E3.ret))))
  ·exact E3.pos (by simp only [decide_eq_true_eq];exact h1) E3.ret)
 exact ⟨r,E3.loop (f:=fun k m n=>aM.l1 k m n l (i:Int) 0 a b c vs) er,hr⟩
theorem Kk (l:List bT) (hs:Wq l):∃ r,Ev (fun k=>aM k l) r/\(r=true ↔ ou l):=by
 have hl:=hs.1
 have key:∀ d i,i+d=l.length->∃ r,E2 (fun k m=>aM.l0 k m l (i:Int)) r/\(r=true ↔ (∀ j,i<=j->j<l.length->QP l j)/\decide (((l.length:Nat):Int)<=8)=true):=by
  intro d
  induction d with
  | zero=>
   intro i hi
   exact ⟨_,E2.eq (fun k m=>aM.aj k m l _) (E2.neg (by omega) E2.ret),⟨fun h=>⟨fun j _ _=>by omega,h⟩,fun h=>h.2⟩⟩
  | succ d ih=>
   intro i hi
   have hlt:i<l.length:=by omega
   obtain ⟨x,ex,hx⟩:=ih (i+1) (by omega)
   have stop:(∃ e:E2 (fun k m=>aM.l0 k m l (i:Int)) false,True)->¬ QP l i->∃ r,E2 (fun k m=>aM.l0 k m l (i:Int)) r/\(r=true ↔ (∀ j,i<=j->j<l.length->QP l j)/\decide (((l.length:Nat):Int)<=8)=true):=fun ⟨e,_⟩ h=>
    ⟨false,e,by simp only [Bool.false_eq_true,false_iff];exact fun c=>h (c.1 i (Nat.le_refl _) hlt)⟩
   have st:∀ {f:Nat->Nat->Option Bool} {v:Bool},(∀ k m,aM.l0 k (m+1) l (i:Int)=f k m)->E2 f v->E2 (fun k m=>aM.l0 k m l (i:Int)) v:=fun h e=>E2.eq h e
   by_cases h1:LE.le (α:=Int) 1 (rd dL l (i:Int)).1/\LE.le (α:=Int) (rd dL l (i:Int)).1 99
   ·by_cases h2:LE.le (α:=Int) 21 (rd dL l (i:Int)).2.1
    ·by_cases h3:LE.le (α:=Int) (rd dL l (i:Int)).2.1 (rd dL l (i:Int)).2.2.1
     ·by_cases h4:LE.le (α:=Int) (rd dL l (i:Int)).2.2.1 108
      ·obtain ⟨r,er,hr⟩:=Uh l i (rd dL l (i:Int)).1 (rd dL l (i:Int)).2.1 (rd dL l (i:Int)).2.2.1 (rd dL l (i:Int)).2.2.2.1 (hs.2 i hlt) hlt hl x ex
       by_cases c:0<i
       ·by_cases h5:LT.lt (α:=Int) (rd dL l ((i - 1:Nat):Int)).1 (rd dL l (i:Int)).1
        ·refine ⟨r,E2.eq (fun k m=>aM.aj k m l _) (E2.pos (by omega) (E2.pos (by omega) (E2.pos (by omega) (E2.bind (dS _ _ _) (E2.neg (by simpa using h1) (E2.neg (by omega) (E2.neg (by omega) (E2.neg (by omega) (E2.pos (by omega) ?_))))))))),hr.trans ⟨fun ⟨h6,h7⟩=>⟨fun j hj1 hj2=>?_,(hx.1 h7).2⟩,fun h=>⟨(h.1 i (Nat.le_refl _) hlt).1.2.2,hx.2 ⟨fun j hj1 hj2=>h.1 j (by omega) hj2,h.2⟩⟩⟩⟩
         ·simp only [kL c (show i<9223372036854775807 by omega)]
          exact E2.pos (by omega) (E2.pos (by omega) (E2.neg (by omega) er))
         ·by_cases hji:j=i
          ·subst hji;exact ⟨⟨⟨h2,h3⟩,h4,h6⟩,h1,fun _=>h5⟩
          ·exact (hx.1 h7).1 j (by omega) hj2
        ·refine stop ⟨E2.eq (fun k m=>aM.aj k m l _) (E2.pos (by omega) (E2.pos (by omega) (E2.pos (by omega) (E2.bind (dS _ _ _) (E2.neg (by simpa using h1) (E2.neg (by omega) (E2.neg (by omega) (E2.neg (by omega) (E2.pos (by omega) ?_))))))))),trivial⟩ (fun h=>h5 (h.2.2 c))
         simp only [kL c (show i<9223372036854775807 by omega)]
         exact E2.pos (by omega) (E2.pos (by omega) (E2.pos (by omega) E2.ret))
       ·refine ⟨r,E2.eq (fun k m=>aM.aj k m l _) (E2.pos (by omega) (E2.pos (by omega) (E2.pos (by omega) (E2.bind (dS _ _ _) (E2.neg (by simpa using h1) (E2.neg (by omega) (E2.neg (by omega) (E2.neg (by omega) (E2.neg (by omega) er))))))))),hr.trans ⟨fun ⟨h6,h7⟩=>⟨fun j hj1 hj2=>?_,(hx.1 h7).2⟩,fun h=>⟨(h.1 i (Nat.le_refl _) hlt).1.2.2,hx.2 ⟨fun j hj1 hj2=>h.1 j (by omega) hj2,h.2⟩⟩⟩⟩
        by_cases hji:j=i
        ·subst hji;exact ⟨⟨⟨h2,h3⟩,h4,h6⟩,h1,fun h=>absurd h c⟩
        ·exact (hx.1 h7).1 j (by omega) hj2
      ·exact stop ⟨E2.eq (fun k m=>aM.aj k m l _) (E2.pos (by omega) (E2.pos (by omega) (E2.pos (by omega) (E2.bind (dS _ _ _) (E2.neg (by simpa using h1) (E2.neg (by omega) (E2.neg (by omega) (E2.pos (by omega) E2.ret)))))))),trivial⟩ (fun h=>h4 h.1.2.1)
     ·exact stop ⟨E2.eq (fun k m=>aM.aj k m l _) (E2.pos (by omega) (E2.pos (by omega) (E2.pos (by omega) (E2.bind (dS _ _ _) (E2.neg (by simpa using h1) (E2.neg (by omega) (E2.pos (by omega) E2.ret))))))),trivial⟩ (fun h=>h3 h.1.1.2)
    ·exact stop ⟨E2.eq (fun k m=>aM.aj k m l _) (E2.pos (by omega) (E2.pos (by omega) (E2.pos (by omega) (E2.bind (dS _ _ _) (E2.neg (by simpa using h1) (E2.pos (by omega) E2.ret)))))),trivial⟩ (fun h=>h2 h.1.1.1)
   ·exact stop ⟨E2.eq (fun k m=>aM.aj k m l _) (E2.pos (by omega) (E2.pos (by omega) (E2.pos (by omega) (E2.bind (dS _ _ _) (E2.pos (by simp only [decide_eq_true_eq];exact h1) E2.ret))))),trivial⟩ (fun h=>h1 h.2.1)
 obtain ⟨r,er,hr⟩:=key l.length 0 (by omega)
 exact ⟨r,Ev.eq (fun k=>Di k l) (Ev.loop (f:=fun k m=>aM.l0 k m l 0) er),hr.trans ⟨fun h=>⟨fun i hi=>h.1 i (Nat.zero_le _) hi,h.2⟩,fun h=>⟨fun i _ hi=>h.1 i hi,h.2⟩⟩⟩
def jN (l:List bT):List Int:=l.map fun p=>p.1
theorem kF {l:List bT} {i:Nat} (h:i<l.length):Eq (α:=Int) (rd (.int .i64) (jN l) (i:Int)) (rd dL l (i:Int)).1:=by
 unfold jN
 rw [dI (by simpa using h),dI h]
 simp
theorem wJ (l:List bT) (hs:Wq l):∃ r,Ev (fun k=>aR k l) r/\(r=true ↔ ou l):=by
 have hl:=hs.1
 obtain ⟨a,ea,ha⟩:=CR (jN l) 1 99 (by unfold jN;simpa using hl)
 obtain ⟨r,er,hr⟩:=jq (R:=fun i v=>E2 (fun k m=>aR.l0 k m l l ((List.length l:Nat):Int) i (jN (l.take i.toNat))) v) (n:=l.length) (fun i=>okP (rd dL l (i:Int))) (decide (((l.length:Nat):Int)<=8/\a=true)) (by
  refine E2.eq (fun k m=>aR.aj k m l l _ _ _) (E2.neg (by omega) ?_)
  rw [Int.toNat_natCast,List.take_length]
  by_cases c:((l.length:Nat):Int)<=8
  ·exact E2.pos c (E2.bind ea (E2.ret.val (by simp [c])))
  ·exact E2.neg c (E2.ret.val (by simp [c]))) (fun i hi hq v e=>by
  obtain ⟨h1,h2,h3⟩:=hq
  obtain ⟨b,eb,hb⟩:=CR (rd dL l (i:Int)).2.2.2.1 1 4 (hs.2 i hi)
  have hlen:(jN (l.take ((i:Int)).toNat)).length=i:=by unfold jN;simp;omega
  refine E2.eq (fun k m=>aR.aj k m l l _ _ _) (E2.pos (by omega) (E2.pos (by omega) (E2.pos (by omega) (E2.bind (aB _ _ _) (E2.neg (by simpa using h1) (E2.neg (Int.not_lt.2 h2) (E2.bind eb (E2.neg (by simpa using hb.2 h3) (E2.pos (by rw [hlen];simp only [List.length_cons,List.length_nil];omega) ?_)))))))))
  simp only [bE (show i<9223372036854775807 by omega)]
  have he:jN (l.take ((i:Int)).toNat)++[(rd dL l (i:Int)).1]=jN (l.take (((i+1:Nat):Int)).toNat):=by
   unfold jN
   rw [Int.toNat_natCast,Int.toNat_natCast,List.take_succ_eq_append_getElem hi,dI hi,List.map_append]
   rfl
  rw [he]
  exact e) (fun i hi hq=>by
  obtain ⟨b,eb,hb⟩:=CR (rd dL l (i:Int)).2.2.2.1 1 4 (hs.2 i hi)
  refine E2.eq (fun k m=>aR.aj k m l l _ _ _) (E2.pos (by omega) (E2.pos (by omega) (E2.pos (by omega) (E2.bind (aB _ _ _) ?_))))
  by_cases h1:LE.le (α:=Int) 21 (rd dL l (i:Int)).2.1/\LE.le (α:=Int) (rd dL l (i:Int)).2.1 (rd dL l (i:Int)).2.2.1
  ·refine E2.neg (by simpa using h1) ?_
   by_cases h2:LE.le (α:=Int) (rd dL l (i:Int)).2.2.1 108
   ·exact E2.neg (by omega) (E2.bind eb (E2.pos (fun c=>hq ⟨h1,h2,hb.1 c⟩) E2.ret))
   ·exact E2.pos (by omega) E2.ret
  ·exact E2.pos (by simp only [decide_eq_true_eq];exact h1) E2.ret)
 have er':E2 (fun k m=>aR.l0 k m l l ((List.length l:Nat):Int) 0 []) r:=er
 refine ⟨r,Ev.eq (fun k=>qH k l) (Ev.loop (f:=fun k m=>aR.l0 k m l l ((List.length l:Nat):Int) 0 []) er'),hr.trans ?_⟩
 unfold ou
 rw [decide_eq_true_eq,decide_eq_true_eq,ha]
 unfold NS
 have hlen:(jN l).length=l.length:=by unfold jN;simp
 rw [hlen]
 constructor
 ·rintro ⟨h1,h2,h3⟩
  refine ⟨fun i hi=>?_,h2⟩
  obtain ⟨k1,k2⟩:=h3 i hi
  rw [kF hi] at k1
  refine ⟨h1 i hi,k1,fun c=>?_⟩
  have:=k2 c
  rw [kF hi,kF (show i - 1<l.length by omega)] at this
  exact this
 ·rintro ⟨h1,h2⟩
  refine ⟨fun i hi=>(h1 i hi).1,h2,fun i hi=>?_⟩
  obtain ⟨k1,k2,k3⟩:=h1 i hi
  refine ⟨by rw [kF hi];exact k2,fun c=>?_⟩
  rw [kF hi,kF (show i - 1<l.length by omega)]
  exact k3 c
def MG (l:List bT) (sc:List aC) (x v:Int) (j:Nat):Prop:=Eq (α:=Int) (rd dL l (j:Int)).1 x/\NR (rd dL l (j:Int)) sc v
def QI (l:List bT) (sc:List aC) (seats:List Int) (i:Nat):Prop:=(∃ j,j<l.length/\MG l sc (rd (.int .i64) seats (i:Int)) ((i+1:Nat):Int) j)/\¬ (rd (.int .i64) seats (i:Int)) ∈ seats.take i
def Kl (l:List bT) (sc:List aC) (seats:List Int):Prop:=(∀ i,i<seats.length->QI l sc seats i)/\ou l/\dU sc/\((seats.length:Nat):Int)<=4
theorem Io (i:Nat) (s:List Int):List.take (Int.toNat (i:Int) - Int.toNat 0) (List.drop (Int.toNat 0) s)=s.take i:=by
 simp
theorem Qh (l:List bT) (sc:List aC) (seats:List Int) (hs:Wq l) (h1:sc.length<=1048576) (h2:seats.length<=1048576) (i:Nat) (hi:i<seats.length) (x:Bool) (e:E2 (fun k n=>aX.l0 k n l sc seats ((i+1:Nat):Int)) x) :
  ∃ r,E2 (fun k n=>aX.l1 k k n l sc seats (i:Int) false 0) r/\(r=true ↔ QI l sc seats i/\x=true):=by
 have hl:=hs.1
 have key:∀ d (j:Nat) (g:Bool),j+d=l.length->∃ r,E3 (fun k m n=>aX.l1 k m n l sc seats (i:Int) g (j:Int)) r /\
   (r=true ↔ ((g=true\/∃ q,j<=q/\q<l.length/\MG l sc (rd (.int .i64) seats (i:Int)) ((i+1:Nat):Int) q)/\¬ (rd (.int .i64) seats (i:Int)) ∈ seats.take i)/\x=true):=by
  intro d
  induction d with
  | zero=>
   intro j g hj
   have no:¬ ∃ q,j<=q/\q<l.length/\MG l sc (rd (.int .i64) seats (i:Int)) ((i+1:Nat):Int) q:=by rintro ⟨q,h3,h4,_⟩;omega
   cases g with
   | false=>
    exact ⟨false,E3.eq (fun k m n=>aX.yA k m n l sc seats (i:Int) false _) (E3.neg (by omega) (E3.pos (by simp) E3.ret)),by simp only [Bool.false_eq_true,false_iff,false_or];exact fun h=>no h.1.1⟩
   | true=>
    by_cases hm:(rd (.int .i64) seats (i:Int)) ∈ seats.take i
    ·refine ⟨false,E3.eq (fun k m n=>aX.yA k m n l sc seats (i:Int) true _) (E3.neg (by omega) (E3.neg (by simp) (E3.pos (by omega) (E3.pos (by omega) (E3.pos (by omega) (E3.pos (by omega) (E3.bind (Kj _ _ ?_) (E3.pos ?_ E3.ret)))))))),by simp [hm]⟩
     ·simp;omega
     ·rw [Io];simpa using hm
    ·refine ⟨x,E3.eq (fun k m n=>aX.yA k m n l sc seats (i:Int) true _) (E3.neg (by omega) (E3.neg (by simp) (E3.pos (by omega) (E3.pos (by omega) (E3.pos (by omega) (E3.pos (by omega) (E3.bind (Kj _ _ ?_) (E3.neg ?_ ?_)))))))),by simp [hm]⟩
     ·simp;omega
     ·rw [Io];simpa using hm
     ·simp only [bE (show i<9223372036854775807 by omega)]
      exact E3.out e
  | succ d ih=>
   intro j g hj
   have hlt:j<l.length:=by omega
   cases g with
   | true=>
    obtain ⟨r,er,hr⟩:=ih (j+1) true (by omega)
    refine ⟨r,E3.eq (fun k m n=>aX.yA k m n l sc seats (i:Int) true _) (E3.pos (by omega) (E3.pos rfl ?_)),hr.trans (by simp)⟩
    simp only [bE (show j<9223372036854775807 by omega)]
    exact er
   | false=>
    have wi:IntKind.wrap .i64 ((i:Int)+1)=((i+1:Nat):Int):=bE (by omega)
    by_cases hid:Eq (α:=Int) (rd dL l (j:Int)).1 (rd (.int .i64) seats (i:Int))
    ·obtain ⟨c,ec,hc⟩:=RZ (rd dL l (j:Int)) sc ((i+1:Nat):Int) (hs.2 j hlt) h1
     obtain ⟨r,er,hr⟩:=ih (j+1) c (by omega)
     refine ⟨r,E3.eq (fun k m n=>aX.yA k m n l sc seats (i:Int) false _) (E3.pos (by omega) (E3.neg (by simp) (E3.pos (by omega) (E3.pos (by omega) (E3.pos (by omega) (E3.pos (by omega) (E3.pos hid (E3.pos (by omega) (E3.pos (by omega) ?_))))))))),hr.trans ?_⟩
     ·simp only [bE (show j<9223372036854775807 by omega),wi]
      refine E3.bind ec ?_
      simpa using er
     ·refine and_congr (and_congr ⟨fun h=>.inr ?_,fun h=>?_⟩ Iff.rfl) Iff.rfl
      ·rcases h with h | ⟨q,h3,h4,h5⟩
       ·exact ⟨j,Nat.le_refl _,hlt,hid,hc.1 h⟩
       ·exact ⟨q,by omega,h4,h5⟩
      ·rcases h with h | ⟨q,h3,h4,h5⟩
       ·cases h
       ·by_cases hq:q=j
        ·subst hq;exact .inl (hc.2 h5.2)
        ·exact .inr ⟨q,by omega,h4,h5⟩
    ·obtain ⟨r,er,hr⟩:=ih (j+1) false (by omega)
     refine ⟨r,E3.eq (fun k m n=>aX.yA k m n l sc seats (i:Int) false _) (E3.pos (by omega) (E3.neg (by simp) (E3.pos (by omega) (E3.pos (by omega) (E3.pos (by omega) (E3.pos (by omega) (E3.neg hid ?_))))))),hr.trans ?_⟩
     ·simp only [bE (show j<9223372036854775807 by omega)]
      exact er
     ·refine and_congr (and_congr (or_congr Iff.rfl ⟨fun ⟨q,h3,h4,h5⟩=>⟨q,by omega,h4,h5⟩,fun ⟨q,h3,h4,h5⟩=>?_⟩) Iff.rfl) Iff.rfl
      by_cases hq:q=j
      ·subst hq;exact absurd h5.1 hid
      ·exact ⟨q,by omega,h4,h5⟩
 obtain ⟨r,er,hr⟩:=key l.length 0 false (by omega)
 refine ⟨r,E3.loop (f:=fun k m n=>aX.l1 k m n l sc seats (i:Int) false 0) er,hr.trans ?_⟩
 unfold QI
 simp
theorem Km (l:List bT) (sc:List aC) (seats:List Int) (hs:Wq l) (h1:sc.length<=1048576) (h2:seats.length<=1048576):∃ r,Ev (fun k=>aX k l sc seats) r/\(r=true ↔ Kl l sc seats):=by
 have key:∀ d i,i+d=seats.length->∃ r,E2 (fun k m=>aX.l0 k m l sc seats (i:Int)) r/\(r=true ↔ (∀ j,i<=j->j<seats.length->QI l sc seats j)/\ou l/\dU sc/\((seats.length:Nat):Int)<=4):=by
  intro d
  induction d with
  | zero=>
   intro i hi
   have tr:∀ {p:Prop},(p ↔ (∀ j,i<=j->j<seats.length->QI l sc seats j)/\p):=⟨fun h=>⟨fun j _ _=>by omega,h⟩,fun h=>h.2⟩
   obtain ⟨a,ea,ha⟩:=Kk l hs
   by_cases ca:a=true
   ·by_cases cs:dU sc
    ·exact ⟨_,E2.eq (fun k m=>aX.aj k m l sc seats _) (E2.neg (by omega) (E2.bind ea (E2.pos ca (E2.bind (iq sc h1) (E2.pos (by simpa using cs) E2.ret))))),Iff.trans (by rw [decide_eq_true_eq];exact ⟨fun h=>⟨ha.1 ca,cs,h⟩,fun h=>h.2.2⟩) tr⟩
    ·exact ⟨_,E2.eq (fun k m=>aX.aj k m l sc seats _) (E2.neg (by omega) (E2.bind ea (E2.pos ca (E2.bind (iq sc h1) (E2.neg (by simpa using cs) E2.ret))))),by simp only [Bool.false_eq_true,false_iff];exact fun h=>cs h.2.2.1⟩
   ·exact ⟨_,E2.eq (fun k m=>aX.aj k m l sc seats _) (E2.neg (by omega) (E2.bind ea (E2.neg ca E2.ret))),by simp only [Bool.false_eq_true,false_iff];exact fun h=>ca (ha.2 h.2.1)⟩
  | succ d ih=>
   intro i hi
   have hlt:i<seats.length:=by omega
   obtain ⟨x,ex,hx⟩:=ih (i+1) (by omega)
   obtain ⟨r,er,hr⟩:=Qh l sc seats hs h1 h2 i hlt x ex
   refine ⟨r,E2.eq (fun k m=>aX.aj k m l sc seats _) (E2.pos (by omega) er),hr.trans ⟨fun ⟨h3,h4⟩=>⟨fun j hj1 hj2=>?_,(hx.1 h4).2⟩,fun ⟨h3,h4⟩=>⟨h3 i (Nat.le_refl _) hlt,hx.2 ⟨fun j hj1 hj2=>h3 j (by omega) hj2,h4⟩⟩⟩⟩
   by_cases hj:j=i
   ·subst hj;exact h3
   ·exact (hx.1 h4).1 j (by omega) hj2
 obtain ⟨r,er,hr⟩:=key seats.length 0 (by omega)
 exact ⟨r,Ev.eq (fun k=>Ez k l sc seats) (Ev.loop (f:=fun k m=>aX.l0 k m l sc seats 0) er),hr.trans ⟨fun h=>⟨fun i hi=>h.1 i (Nat.zero_le _) hi,h.2⟩,fun h=>⟨fun i _ hi=>h.1 i hi,h.2⟩⟩⟩
theorem Tq (l:List bT) (sc:List aC) (x:Int) (i:Nat) (hs:Wq l) (h1:sc.length<=1048576) (hi:i<1048576):∃ r,Ev (fun k=>iL k l x sc (i:Int)) r/\(r=true ↔ ∃ j,j<l.length/\MG l sc x ((i+1:Nat):Int) j):=by
 have hl:=hs.1
 have wi:IntKind.wrap .i64 ((i:Int)+1)=((i+1:Nat):Int):=bE (by omega)
 have one:∀ j,j<l.length->∃ r,Ev (fun k=>tK k (rd dL l (j:Int)) x sc (i:Int)) r/\(r=true ↔ MG l sc x ((i+1:Nat):Int) j):=by
  intro j hj
  by_cases hid:Eq (α:=Int) (rd dL l (j:Int)).1 x
  ·obtain ⟨c,ec,hc⟩:=zh (rd dL l (j:Int)) sc ((i+1:Nat):Int) (hs.2 j hj) h1
   refine ⟨c,Ev.eq (fun k=>vI k _ x sc (i:Int)) (Ev.pos hid ?_),hc.trans ⟨fun h=>⟨hid,h⟩,fun h=>h.2⟩⟩
   simp only [wi]
   exact Ev.bind ec (Ev.ret.val (by simp))
  ·exact ⟨false,Ev.eq (fun k=>vI k _ x sc (i:Int)) (Ev.neg hid Ev.ret),by simp only [Bool.false_eq_true,false_iff];exact fun h=>hid h.1⟩
 have hdec:∀ j,Decidable (MG l sc x ((i+1:Nat):Int) j):=fun j=>Classical.propDecidable _
 have er:=qW (R:=fun j v=>E2 (fun k m=>aT.l0 k m l x sc (i:Int) ((List.length l:Nat):Int) j) v) (n:=l.length) (fun j=>@decide _ (hdec j)) (E2.eq (fun k m=>aT.aj k m l x sc _ _ _) (E2.neg (by omega) E2.ret)) (fun j hj hq v e=>by
  obtain ⟨c,ec,hc⟩:=one j hj
  refine E2.eq (fun k m=>aT.aj k m l x sc _ _ _) (E2.pos (by omega) (E2.pos (by omega) (E2.pos (by omega) (E2.bind ec (E2.neg (fun h=>absurd (hc.1 h) (@of_decide_eq_false _ (hdec j) hq)) ?_)))))
  simp only [bE (show j<9223372036854775807 by omega)];exact e) (fun j hj hq=>by
  obtain ⟨c,ec,hc⟩:=one j hj
  exact E2.eq (fun k m=>aT.aj k m l x sc _ _ _) (E2.pos (by omega) (E2.pos (by omega) (E2.pos (by omega) (E2.bind ec (E2.pos (hc.2 (by simpa using hq)) E2.ret))))))
 refine ⟨_,Ev.eq (fun k=>oH k l x sc _) (Ev.bind (Ev.eq (fun k=>qj k l x sc _) (Ev.loop (f:=fun k m=>aT.l0 k m l x sc (i:Int) ((List.length l:Nat):Int) 0) er)) Ev.ret), ?_⟩
 rw [decide_eq_true_eq,xL]
 simp only [decide_eq_true_eq]
theorem su (l:List bT) (sc:List aC) (seats:List Int) (hs:Wq l) (h1:sc.length<=1048576) (h2:seats.length<=1048576):∃ r,Ev (fun k=>dV k l sc seats) r/\(r=true ↔ Kl l sc seats):=by
 obtain ⟨a,ea,ha⟩:=wJ l hs
 by_cases ca:a=true
 ·by_cases cs:dU sc
  ·by_cases c4:((seats.length:Nat):Int)<=4
   ·obtain ⟨r,er,hr⟩:=jq (R:=fun i v=>E2 (fun k m=>dV.l0 k m l seats seats ((List.length seats:Nat):Int) i sc) v) (n:=seats.length) (QI l sc seats) true (E2.eq (fun k m=>dV.aj k m l seats seats _ _ sc) (E2.neg (by omega) E2.ret)) (fun i hi hq v e=>by
     obtain ⟨c,ec,hc⟩:=Tq l sc (rd (.int .i64) seats (i:Int)) i hs h1 (by omega)
     refine E2.eq (fun k m=>dV.aj k m l seats seats _ _ sc) (E2.pos (by omega) (E2.pos (by omega) (E2.pos (by omega) (E2.pos (by omega) (E2.pos (by omega) (E2.bind (jH _ _ ?_) (E2.neg ?_ (E2.bind ec (E2.neg (by simpa using hc.2 hq.1) ?_)))))))))
     ·simp;omega
     ·rw [Io];simpa using hq.2
     ·simp only [bE (show i<9223372036854775807 by omega)];exact e) (fun i hi hq=>by
     obtain ⟨c,ec,hc⟩:=Tq l sc (rd (.int .i64) seats (i:Int)) i hs h1 (by omega)
     refine E2.eq (fun k m=>dV.aj k m l seats seats _ _ sc) (E2.pos (by omega) (E2.pos (by omega) (E2.pos (by omega) (E2.pos (by omega) (E2.pos (by omega) (E2.bind (jH _ _ ?_) ?_))))))
     ·simp;omega
     rw [Io]
     by_cases hm:(rd (.int .i64) seats (i:Int)) ∈ seats.take i
     ·exact E2.pos (by simpa using hm) E2.ret
     ·exact E2.neg (by simpa using hm) (E2.bind ec (E2.pos (fun h=>hq ⟨hc.1 h,hm⟩) E2.ret)))
    exact ⟨r,Ev.eq (fun k=>nQ k l sc seats) (Ev.bind ea (Ev.neg (by simpa using ca) (Ev.bind (bJ sc h1) (Ev.neg (by simpa using cs) (Ev.neg (by omega) (Ev.loop (f:=fun k m=>dV.l0 k m l seats seats ((List.length seats:Nat):Int) 0 sc) er)))))),hr.trans ⟨fun h=>⟨h.1,ha.1 ca,cs,c4⟩,fun h=>⟨h.1,rfl⟩⟩⟩
   ·exact ⟨false,Ev.eq (fun k=>nQ k l sc seats) (Ev.bind ea (Ev.neg (by simpa using ca) (Ev.bind (bJ sc h1) (Ev.neg (by simpa using cs) (Ev.pos (by omega) Ev.ret))))),by simp only [Bool.false_eq_true,false_iff];exact fun h=>c4 h.2.2.2⟩
  ·exact ⟨false,Ev.eq (fun k=>nQ k l sc seats) (Ev.bind ea (Ev.neg (by simpa using ca) (Ev.bind (bJ sc h1) (Ev.pos (by simpa using cs) Ev.ret)))),by simp only [Bool.false_eq_true,false_iff];exact fun h=>cs h.2.2.1⟩
 ·exact ⟨false,Ev.eq (fun k=>nQ k l sc seats) (Ev.bind ea (Ev.pos ca Ev.ret)),by simp only [Bool.false_eq_true,false_iff];exact fun h=>ca (ha.2 h.2.1)⟩
structure Sm (o:cK):Prop where
 score:o.1.length<=1048576
 xB:o.2.2.1.length<=2097152
 Ip:Wq o.2.2.2.1
 seats:o.2.2.2.2.1.length<=1048576
 marks:o.2.2.2.2.2.1.length<=1048576
 letters:o.2.2.2.2.2.2.1.length<=1048576
theorem MH {o:cK} (h:Bk lu o):Sm o:=by
 refine ⟨h.1.1,Nat.le_trans h.2.2.1.1 (by omega),⟨h.2.2.2.1.1,fun i hi=>?_⟩,h.2.2.2.2.1.1,h.2.2.2.2.2.1.1,h.2.2.2.2.2.2.1.1⟩
 rw [dI hi]
 exact (h.2.2.2.1.2 _ (List.getElem_mem hi)).2.2.2.1.1
theorem yG (o:cK) (h:Sm o):∃ r,Ev (fun k=>tH k o) r/\Ev (fun k=>cu k o) r:=by
 obtain ⟨m,ZW,ZX⟩:=NZ o.2.1
 obtain ⟨a,ea,ha⟩:=Ob o.2.2.2.2.2.1 h.marks
 obtain ⟨a',WE,ha'⟩:=zx o.2.2.2.2.2.1 h.marks
 obtain rfl:a'=a:=by rw [Bool.eq_iff_iff];exact ha'.trans ha.symm
 obtain ⟨b,eb,hb⟩:=Ki o.2.2.2.2.2.2.1 h.letters
 obtain ⟨b',eb',hb'⟩:=AP o.2.2.2.2.2.2.1 h.letters
 obtain rfl:b'=b:=by rw [Bool.eq_iff_iff];exact hb'.trans hb.symm
 obtain ⟨c,ec,hc⟩:=Km o.2.2.2.1 o.1 o.2.2.2.2.1 h.Ip h.score h.seats
 obtain ⟨c',ec',hc'⟩:=su o.2.2.2.1 o.1 o.2.2.2.2.1 h.Ip h.score h.seats
 obtain rfl:c'=c:=by rw [Bool.eq_iff_iff];exact hc'.trans hc.symm
 by_cases d1:dU o.1
 ·by_cases d2:m=true
  ·by_cases d3:mI o.2.2.1
   ·by_cases d4:a'=true
    ·by_cases d5:b'=true
     ·by_cases d6:c'=true
      ·by_cases d7:1<=(o.2.2.2.2.2.2.2.1:Int)/\(o.2.2.2.2.2.2.2.1:Int)<=9999
       ·exact ⟨_,Ev.eq (fun k=>gB k o) (Ev.bind (iq _ h.score) (Ev.pos (by simpa using d1) (Ev.bind ZW (Ev.pos d2 (Ev.bind (nJ _ h.xB) (Ev.pos (by simpa using d3) (Ev.bind ea (Ev.pos d4 (Ev.bind eb (Ev.pos d5 (Ev.bind ec (Ev.pos d6 (Ev.bind (dS _ _ _) (Ev.pos (by simpa using d7) (Ev.bind (dS _ _ _) Ev.ret))))))))))))))),
         Ev.eq (fun k=>dW k o) (Ev.bind (bJ _ h.score) (Ev.pos (by simpa using d1) (Ev.bind ZX (Ev.pos d2 (Ev.bind (gu _ h.xB) (Ev.pos (by simpa using d3) (Ev.bind WE (Ev.pos d4 (Ev.bind eb' (Ev.pos d5 (Ev.bind ec' (Ev.pos d6 (Ev.bind (aB _ _ _) (Ev.pos (by simpa using d7) (Ev.bind (aB _ _ _) Ev.ret)))))))))))))))⟩
       ·exact ⟨false,Ev.eq (fun k=>gB k o) (Ev.bind (iq _ h.score) (Ev.pos (by simpa using d1) (Ev.bind ZW (Ev.pos d2 (Ev.bind (nJ _ h.xB) (Ev.pos (by simpa using d3) (Ev.bind ea (Ev.pos d4 (Ev.bind eb (Ev.pos d5 (Ev.bind ec (Ev.pos d6 (Ev.bind (dS _ _ _) (Ev.neg (by simpa using d7) Ev.ret)))))))))))))),
         Ev.eq (fun k=>dW k o) (Ev.bind (bJ _ h.score) (Ev.pos (by simpa using d1) (Ev.bind ZX (Ev.pos d2 (Ev.bind (gu _ h.xB) (Ev.pos (by simpa using d3) (Ev.bind WE (Ev.pos d4 (Ev.bind eb' (Ev.pos d5 (Ev.bind ec' (Ev.pos d6 (Ev.bind (aB _ _ _) (Ev.neg (by simpa using d7) Ev.ret))))))))))))))⟩
      ·exact ⟨false,Ev.eq (fun k=>gB k o) (Ev.bind (iq _ h.score) (Ev.pos (by simpa using d1) (Ev.bind ZW (Ev.pos d2 (Ev.bind (nJ _ h.xB) (Ev.pos (by simpa using d3) (Ev.bind ea (Ev.pos d4 (Ev.bind eb (Ev.pos d5 (Ev.bind ec (Ev.neg d6 Ev.ret)))))))))))),
        Ev.eq (fun k=>dW k o) (Ev.bind (bJ _ h.score) (Ev.pos (by simpa using d1) (Ev.bind ZX (Ev.pos d2 (Ev.bind (gu _ h.xB) (Ev.pos (by simpa using d3) (Ev.bind WE (Ev.pos d4 (Ev.bind eb' (Ev.pos d5 (Ev.bind ec' (Ev.neg d6 Ev.ret))))))))))))⟩
     ·exact ⟨false,Ev.eq (fun k=>gB k o) (Ev.bind (iq _ h.score) (Ev.pos (by simpa using d1) (Ev.bind ZW (Ev.pos d2 (Ev.bind (nJ _ h.xB) (Ev.pos (by simpa using d3) (Ev.bind ea (Ev.pos d4 (Ev.bind eb (Ev.neg d5 Ev.ret)))))))))),
       Ev.eq (fun k=>dW k o) (Ev.bind (bJ _ h.score) (Ev.pos (by simpa using d1) (Ev.bind ZX (Ev.pos d2 (Ev.bind (gu _ h.xB) (Ev.pos (by simpa using d3) (Ev.bind WE (Ev.pos d4 (Ev.bind eb' (Ev.neg d5 Ev.ret))))))))))⟩
    ·exact ⟨false,Ev.eq (fun k=>gB k o) (Ev.bind (iq _ h.score) (Ev.pos (by simpa using d1) (Ev.bind ZW (Ev.pos d2 (Ev.bind (nJ _ h.xB) (Ev.pos (by simpa using d3) (Ev.bind ea (Ev.neg d4 Ev.ret)))))))),
      Ev.eq (fun k=>dW k o) (Ev.bind (bJ _ h.score) (Ev.pos (by simpa using d1) (Ev.bind ZX (Ev.pos d2 (Ev.bind (gu _ h.xB) (Ev.pos (by simpa using d3) (Ev.bind WE (Ev.neg d4 Ev.ret))))))))⟩
   ·exact ⟨false,Ev.eq (fun k=>gB k o) (Ev.bind (iq _ h.score) (Ev.pos (by simpa using d1) (Ev.bind ZW (Ev.pos d2 (Ev.bind (nJ _ h.xB) (Ev.neg (by simpa using d3) Ev.ret)))))),
     Ev.eq (fun k=>dW k o) (Ev.bind (bJ _ h.score) (Ev.pos (by simpa using d1) (Ev.bind ZX (Ev.pos d2 (Ev.bind (gu _ h.xB) (Ev.neg (by simpa using d3) Ev.ret))))))⟩
  ·exact ⟨false,Ev.eq (fun k=>gB k o) (Ev.bind (iq _ h.score) (Ev.pos (by simpa using d1) (Ev.bind ZW (Ev.neg d2 Ev.ret)))),
    Ev.eq (fun k=>dW k o) (Ev.bind (bJ _ h.score) (Ev.pos (by simpa using d1) (Ev.bind ZX (Ev.neg d2 Ev.ret))))⟩
 ·exact ⟨false,Ev.eq (fun k=>gB k o) (Ev.bind (iq _ h.score) (Ev.neg (by simpa using d1) Ev.ret)),
   Ev.eq (fun k=>dW k o) (Ev.bind (bJ _ h.score) (Ev.neg (by simpa using d1) Ev.ret))⟩
def mulR (a b:aZ):Gr:=if yF a.1 a.2.1=true/\yF b.1 b.2.1=true then mk (a.1*b.1) (a.2.1*b.2.1) else Dp
theorem Dk (a b:aZ):Ev (fun k=>qd k a b) (mulR a b):=by
 unfold mulR
 by_cases ca:yF a.1 a.2.1=true
 ·by_cases cb:yF b.1 b.2.1=true
  ·obtain ⟨a1,a2⟩:=je ca
   obtain ⟨b1,b2⟩:=je cb
   have m3:=AO (x:=a.2.1) (y:=b.2.1) (A:=1000000) (B:=1000000) ⟨by omega,a1.2⟩ ⟨by omega,b1.2⟩
   have m4:1<=a.2.1*b.2.1:=Int.mul_pos (by omega) (by omega)
   have m1:-1000000000000000000<=a.1*b.1/\a.1*b.1<=1000000000000000000:=by
    rcases Int.le_total 0 b.1 with h | h
    ·have:=AO (x:=a.1) (y:=b.1) (A:=1000000000) (B:=1000000000) ⟨a2.1,a2.2⟩ ⟨h,b2.2⟩
     omega
    ·have:=AO (x:=a.1) (y:=-b.1) (A:=1000000000) (B:=1000000000) ⟨a2.1,a2.2⟩ ⟨by omega,by omega⟩
     rw [Int.mul_neg] at this
     omega
   refine Ev.eq (fun k=>tN k a b) (Ev.bind (bP a) (Ev.neg (by simp [ca]) (Ev.bind (bP b) (Ev.neg (by simp [cb]) ?_))))
   rw [fO (n:=a.1*b.1) (by omega) (by omega),fO (n:=a.2.1*b.2.1) (by omega) (by omega)]
   refine Ev.bind (FM _ _ (by omega) (by omega) m4 (by omega)) (Ev.ret.val ?_)
   rw [if_pos ⟨ca,cb⟩]
   obtain ⟨r,o,_⟩:=mk (a.1*b.1) (a.2.1*b.2.1)
   simp
  ·exact Ev.eq (fun k=>tN k a b) (Ev.bind (bP a) (Ev.neg (by simp [ca]) (Ev.bind (bP b) (Ev.pos (by simpa using cb) (Ev.ret.val (by rw [if_neg (fun h=>cb h.2)];rfl))))))
 ·exact Ev.eq (fun k=>tN k a b) (Ev.bind (bP a) (Ev.pos (by simpa using ca) (Ev.ret.val (by rw [if_neg (fun h=>ca h.1)];rfl))))
def WG (a b:aZ):Bool:=if yF a.1 a.2.1=true then (if yF b.1 b.2.1=true then decide (((IntKind.wrap .i64 (a.1*b.2.1)):Int)<(IntKind.wrap .i64 (b.1*a.2.1))) else false) else false
theorem Gs (a b:aZ):Ev (fun k=>rY k a b) (WG a b):=by
 unfold WG
 by_cases ca:yF a.1 a.2.1=true
 ·rw [if_pos ca]
  by_cases cb:yF b.1 b.2.1=true
  ·rw [if_pos cb];exact Ev.eq (fun k=>nR k a b) (Ev.bind (bP a) (Ev.pos ca (Ev.bind (bP b) (Ev.pos cb Ev.ret))))
  ·rw [if_neg cb];exact Ev.eq (fun k=>nR k a b) (Ev.bind (bP a) (Ev.pos ca (Ev.bind (bP b) (Ev.neg cb Ev.ret))))
 ·rw [if_neg ca];exact Ev.eq (fun k=>nR k a b) (Ev.bind (bP a) (Ev.neg ca Ev.ret))
theorem MI (a b:aZ):mO a b=mO b a:=by
 unfold mO
 by_cases c:yF a.1 a.2.1=true/\yF b.1 b.2.1=true
 ·rw [if_pos c,if_pos ⟨c.2,c.1⟩,Int.add_comm,Int.mul_comm a.2.1]
 ·rw [if_neg c,if_neg (fun h=>c ⟨h.2,h.1⟩)]
theorem Yk (a:aZ):mulR a Dp.1=Dp:=by
 unfold mulR Dp
 rw [if_neg (by rw [ZU];simp)]
def YU (ms st:aZ) (at_ rate:Int):Gr:=
 if (mO ms (IntKind.wrap .i64 (-st.1),(st.2.1,()))).2.1=true then
  (if (mulR (mO ms (IntKind.wrap .i64 (-st.1),(st.2.1,()))).1 (mk rate 5000).1).2.1=true then
   (if (mO (mulR (mO ms (IntKind.wrap .i64 (-st.1),(st.2.1,()))).1 (mk rate 5000).1).1 (at_,(1,()))).2.1=true then
    ((mO (mulR (mO ms (IntKind.wrap .i64 (-st.1),(st.2.1,()))).1 (mk rate 5000).1).1 (at_,(1,()))).1,(true,())) else Dp) else Dp) else Dp
theorem MJ (a d b c:Gr) (hd:d.2.1=false->b.2.1=false):E2 (fun _ _=>if ¬ (a.2.1=true) then some ((0,(0,())),(false,())) else if ¬ (d.2.1=true) then some ((0,(0,())),(false,())) else if ¬ (b.2.1=true) then some ((0,(0,())),(false,())) else if ¬ (c.2.1=true) then some ((0,(0,())),(false,())) else some (c.1,(true,())))
  (if a.2.1=true then (if b.2.1=true then (if c.2.1=true then (c.1,(true,())) else Dp) else Dp) else Dp:Gr):=by
 by_cases h0:d.2.1=true
 ·by_cases h1:a.2.1=true
  ·rw [if_pos h1]
   by_cases h2:b.2.1=true
   ·rw [if_pos h2]
    by_cases h3:c.2.1=true
    ·rw [if_pos h3];exact E2.neg (by simpa using h1) (E2.neg (by simpa using h0) (E2.neg (by simpa using h2) (E2.neg (by simpa using h3) E2.ret)))
    ·rw [if_neg h3];exact E2.neg (by simpa using h1) (E2.neg (by simpa using h0) (E2.neg (by simpa using h2) (E2.pos h3 E2.ret)))
   ·rw [if_neg h2];exact E2.neg (by simpa using h1) (E2.neg (by simpa using h0) (E2.pos h2 E2.ret))
  ·rw [if_neg h1];exact E2.pos h1 E2.ret
 ·have hb:=hd (by simpa using h0)
  by_cases h1:a.2.1=true
  ·rw [if_pos h1,if_neg (show ¬ b.2.1=true by rw [hb];simp)];exact E2.neg (by simpa using h1) (E2.pos h0 E2.ret)
  ·rw [if_neg h1];exact E2.pos h1 E2.ret
theorem Kn {n d:Int} (x:aZ) (h:(mk n d).2.1=false):(mulR x (mk n d).1).2.1=false:=by
 rw [abA h,Yk];rfl
def abC:List Int->Int->List Int
 | [],n=>[n]
 | a :: t,n=>if a<n then a :: abC t n else if a=n then a :: t else n :: a :: t
def cls (l:List Int):List Int:=(l.map fun x=>acJ x 12).foldl abC []
theorem ZY (l:List bT) (h:Bk (.list dL) l):Ev (fun k=>ig k l) l:=by
 have hl:l.length<=1048576:=h.1
 have key:∀ d (i:Nat) (s:List bT),i+d=l.length->s.length=i->s++l.drop i=l->E2 (fun k m=>ig.l0 k m l (i:Int) s) l:=by
  intro d
  induction d with
  | zero=>
   intro i s hi hs ht
   have hi:i=l.length:=by omega
   subst hi
   have e:E2 (fun k m=>ig.l0 k m l ((l.length:Nat):Int) s) s:=by
    refine E2.eq (fun k m=>ig.aj k m l _ s) ?_
    refine E2.neg (by omega) ?_
    exact E2.ret
   exact e.val (by rw [<- ht];simp)
  | succ d ih=>
   intro i s hi hs ht
   have hi':i<l.length:=by omega
   have hb:=(bk_rd h hi').2.2.2.1.1
   refine E2.eq (fun k m=>ig.aj k m l _ s) ?_
   refine E2.pos (by omega) ?_
   refine E2.pos (by omega) ?_
   refine E2.pos (by omega) ?_
   refine E2.pos (by simp only [List.length_nil];omega) ?_
   refine E2.pos (by simp only [List.length_cons,List.length_nil];omega) ?_
   simp only [bE (show i<9223372036854775807 by omega)]
   refine ih (i+1) _ (by omega) (by simp;omega) ?_
   rw [List.append_assoc]
   refine Eq.trans ?_ ht
   congr 1
   exact (Ti (t:=dL) hi').symm
 exact Ev.eq (fun k=>GY k l) (Ev.loop (f:=fun k m=>ig.l0 k m l 0 []) (key l.length 0 [] (by omega) rfl (by simp)))
theorem aac (o:cK) (h:Bk lu o):Ev (fun k=>zm k o) o:=by
 have h1:=h.1.1
 have h2:=h.2.2.1.1
 have h4:=h.2.2.2.2.1.1
 have h5:=h.2.2.2.2.2.1.1
 have h6:=h.2.2.2.2.2.2.1.1
 refine Ev.eq (fun k=>GU k o) ?_
 refine Ev.pos (by simp only [List.length_nil];omega) ?_
 refine Ev.pos (by simp only [List.length_nil];omega) ?_
 refine Ev.bind (ZY o.2.2.2.1 h.2.2.2.1) ?_
 refine Ev.pos (by simp only [List.length_nil];omega) ?_
 refine Ev.pos (by simp only [List.length_nil];omega) ?_
 refine Ev.pos (by simp only [List.length_nil];omega) ?_
 exact Ev.ret
theorem FN (l:List Int) (hl:l.length<=1048576):Ev (fun k=>oz k l) l:=
 Ev.eq (fun k=>Ew k l) (Ev.pos (by simp only [List.length_nil];omega) Ev.ret)
theorem Ui (l:List aZ) (hl:l.length<=1048576):Ev (fun k=>nM k l) l:=
 Ev.eq (fun k=>xR k l) (Ev.pos (by simp only [List.length_nil];omega) Ev.ret)
theorem yH (l:List eX) (hl:l.length<=1048576):Ev (fun k=>iV k l) l:=
 Ev.eq (fun k=>yC k l) (Ev.pos (by simp only [List.length_nil];omega) Ev.ret)
theorem Uj (l:List aZ) (hl:l.length<=1048576):Ev (fun k=>mW k l) l:=
 Ev.eq (fun k=>wT k l) (Ev.pos (by simp only [List.length_nil];omega) Ev.ret)
theorem MK (p:bT) (h:Bk dL p):Ev (fun k=>oV k p) p:=
 Ev.eq (fun k=>BK k p) (Ev.bind (FN _ h.2.2.2.1.1) Ev.ret)
theorem wm (o:cK) (h:Bk lu o):Ev (fun k=>aA k o) o:=by
 have hp:Bk (.list dL) o.2.2.2.1:=h.2.2.2.1
 have hl:o.2.2.2.1.length<=1048576:=hp.1
 have key:∀ d (i:Nat) (s:List bT),i+d=o.2.2.2.1.length->s.length=i->s++o.2.2.2.1.drop i=o.2.2.2.1->E2 (fun k m=>aA.l0 k m o.2.2.2.1 ((List.length o.2.2.2.1:Nat):Int) (i:Int) o.1 o.2.1.1 o.2.1.2.1 o.2.2.1 o.2.2.2.1 o.2.2.2.2.1 o.2.2.2.2.2.1 o.2.2.2.2.2.2.1 o.2.2.2.2.2.2.2.1 o.2.2.2.2.2.2.2.2.1 0 0 0 0 s) o:=by
  intro d
  induction d with
  | zero=>
   intro i s hi hs ht
   have hi:i=o.2.2.2.1.length:=by omega
   subst hi
   have hs':s=o.2.2.2.1:=by rw [<- ht];simp
   subst hs'
   refine E2.eq (fun k m=>aA.aj k m _ _ _ _ _ _ _ _ _ _ _ _ _ _ _ _ _ _) ?_
   refine E2.neg (by omega) ?_
   refine E2.bind (jr _ h.1.1) ?_
   refine E2.bind (Ui _ h.2.2.1.1) ?_
   refine E2.bind (FN _ h.2.2.2.2.1.1) ?_
   refine E2.bind (yH _ h.2.2.2.2.2.1.1) ?_
   refine E2.bind (Uj _ h.2.2.2.2.2.2.1.1) ?_
   exact E2.ret
  | succ d ih=>
   intro i s hi hs ht
   have hi':i<o.2.2.2.1.length:=by omega
   refine E2.eq (fun k m=>aA.aj k m _ _ _ _ _ _ _ _ _ _ _ _ _ _ _ _ _ _) ?_
   refine E2.pos (by omega) ?_
   refine E2.pos (by omega) ?_
   refine E2.pos (by omega) ?_
   refine E2.bind (MK _ (bk_rd hp hi')) ?_
   refine E2.pos (by simp only [List.length_cons,List.length_nil];omega) ?_
   simp only [bE (show i<9223372036854775807 by omega)]
   refine ih (i+1) _ (by omega) (by simp;omega) ?_
   rw [List.append_assoc]
   refine Eq.trans ?_ ht
   congr 1
   exact (Ti (t:=dL) hi').symm
 exact Ev.eq (fun k=>wS k o) (Ev.loop (f:=fun k m=>aA.l0 k m o.2.2.2.1 ((List.length o.2.2.2.1:Nat):Int) 0 o.1 o.2.1.1 o.2.1.2.1 o.2.2.1 o.2.2.2.1 o.2.2.2.2.1 o.2.2.2.2.2.1 o.2.2.2.2.2.2.1 o.2.2.2.2.2.2.2.1 o.2.2.2.2.2.2.2.2.1 0 0 0 0 []) (key o.2.2.2.1.length 0 [] (by omega) rfl (by simp)))
def Hl (l:List aZ) (x:aZ) (p:Nat):List aZ:=if p<l.length/\((rd aY l (p:Int)).1:Int)=x.1 then l.take p++[x]++l.drop (p+1) else l.take p++[x]++l.drop p
theorem WH (l:List aZ) (x:aZ) (p:Nat) (hp:p<=l.length):(Hl l x p).length<=l.length+1:=by
 unfold Hl
 split
 ·simp;omega
 ·simp;omega
theorem Uk (l:List aZ) (x:aZ) (hl:l.length<=1048576) (p:Nat) (hp:p<=l.length) (h1:∀ j,j<p->((rd aY l (j:Int)).1:Int)<x.1) (h2:p<l.length->¬ ((rd aY l (p:Int)).1:Int)<x.1) :
  Ev (fun k=>bf k l x) (if p<l.length then (p:Int) else -1):=by
 have key:∀ d i:Nat,i+d=p->E2 (fun k m=>bf.l0 k m l x ((List.length l:Nat):Int) (i:Int)) (if p<l.length then (p:Int) else -1):=by
  intro d
  induction d with
  | zero=>
   intro i hi
   have hi:i=p:=by omega
   subst hi
   refine E2.eq (fun k m=>bf.aj k m l x _ _) ?_
   by_cases c:i<l.length
   ·refine E2.pos (by omega) (E2.pos (by omega) (E2.pos (by omega) (E2.bind (Ev.eq (fun k=>sI k _ _) Ev.ret) ?_)))
    have:=h2 c
    exact E2.pos (by simp only [decide_eq_true_eq];exact Int.not_lt.1 this) (E2.ret.val (by rw [if_pos c]))
   ·exact E2.neg (by omega) (E2.ret.val (by rw [if_neg c]))
  | succ d ih=>
   intro i hi
   refine E2.eq (fun k m=>bf.aj k m l x _ _) ?_
   refine E2.pos (by omega) (E2.pos (by omega) (E2.pos (by omega) (E2.bind (Ev.eq (fun k=>sI k _ _) Ev.ret) ?_)))
   have:=h1 i (by omega)
   refine E2.neg (by simp only [decide_eq_true_eq];exact Int.not_le.2 this) ?_
   simp only [bE (show i<9223372036854775807 by omega)]
   exact ih (i+1) (by omega)
 exact Ev.eq (fun k=>qM k l x) (Ev.loop (f:=fun k m=>bf.l0 k m l x ((List.length l:Nat):Int) 0) (key p 0 (by omega)))
theorem Ev.uniq {α:Type} {f:Nat->Option α} {a b:α} (h:Ev f a) (k:Ev f b):a=b:=by
 obtain ⟨K,h⟩:=h
 obtain ⟨M,k⟩:=k
 have h1:=h (max K M) (by omega)
 rw [k (max K M) (by omega)] at h1
 exact (Option.some.inj h1).symm
theorem nK (Q:Nat->Prop):∀ n,∃ p,p<=n/\(∀ j,j<p->Q j)/\(p<n->¬ Q p)
 | 0=>⟨0,Nat.le_refl _,fun j hj=>by omega,fun h=>by omega⟩
 | n+1=>by
  obtain ⟨p,h1,h2,h3⟩:=nK Q n
  by_cases hp:p<n
  ·exact ⟨p,by omega,h2,fun _=>h3 hp⟩
  ·have:p=n:=by omega
   subst this
   by_cases hq:Q p
   ·exact ⟨p+1,Nat.le_refl _,fun j hj=>by
     by_cases h:j=p
     ·subst h;exact hq
     ·exact h2 j (by omega),fun h=>by omega⟩
   ·exact ⟨p,by omega,h2,fun _=>hq⟩
theorem Tt (x e:aC):Ev (fun k=>uZ k x e) (decide (¬ ze x e)):=
 Ev.eq (fun k=>Dj k x e) (Ev.bind (uJ x e) (Ev.ret.val (by
  have:=Bl x e
  by_cases h:ze x e
  ·have:=this.2 h;simp [h];omega
  ·have:=mt this.1 h;simp [h];omega)))
theorem Ul {a b c:aC} (h:ze a b) (k:ze b c):ze a c:=by unfold ze at *;omega
theorem Yl (a:aC):¬ ze a a:=by unfold ze;omega
theorem FP {l:List aC} (h:∀ i,i<l.length->QS l i):∀ d i:Nat,i+d+1<l.length->ze (rd aP l (i:Int)) (rd aP l ((i+d+1:Nat):Int)):=by
 intro d
 induction d with
 | zero=>intro i hi;exact (h (i+1) (by omega)).2 (by omega)
 | succ d ih=>intro i hi;exact Ul (ih i (by omega)) ((h (i+(d+1)+1) (by omega)).2 (by omega))
theorem Qi {l:List aC} (h:∀ i,i<l.length->QS l i) {i j:Nat} (hij:i<j) (hj:j<l.length):rd aP l (i:Int) ≠ rd aP l (j:Int):=fun e=>by
 have:=FP h (j - i - 1) i (by omega)
 rw [show i+(j - i - 1)+1=j by omega,e] at this
 exact Yl _ this
theorem WI (a b:aC):((a.1:Int)=b.1/\((a.2.1:Int)=b.2.1/\((a.2.2.1:Int)=b.2.2.1/\(a.2.2.2.1:Int)=b.2.2.2.1))) ↔ a=b:=by
 obtain ⟨a1,a2,a3,a4,⟨⟩⟩:=a
 obtain ⟨b1,b2,b3,b4,⟨⟩⟩:=b
 constructor
 ·rintro ⟨h1,h2,h3,h4⟩
  simp only at h1 h2 h3 h4
  rw [h1,h2,h3,h4]
 ·intro h
  injection h with h1 h
  injection h with h2 h
  injection h with h3 h
  injection h with h4 h
  exact ⟨h1,h2,h3,h4⟩
def Ko (l:List aC) (e:aC) (i:Nat):List aC:=(l.take i).filter fun x=>decide (x ≠ e)
theorem Um {l:List aC} {e:aC} {i:Nat}:(Ko l e i).length<=l.length:=by
 unfold Ko
 refine Nat.le_trans (List.length_filter_le _ _) ?_
 simp
 omega
theorem Qj {l:List aC} {e:aC} {p:Nat} (h:∀ i,i<l.length->QS l i) (hp:p<l.length) (he:rd aP l (p:Int)=e):Ko l e l.length=l.take p++l.drop (p+1):=by
 have hne:∀ j:Nat,(hj:j<l.length)->j ≠ p->l[j] ≠ e:=fun j hj hjp FY=>by
  have FY:rd aP l (j:Int)=e:=(dI (t:=aP) (l:=l) hj).trans FY
  rcases Nat.lt_or_gt_of_ne hjp with hlt | hgt
  ·exact Qi h hlt hp (FY.trans he.symm)
  ·exact Qi h hgt hj (he.trans FY.symm)
 unfold Ko
 rw [List.take_length]
 have e1:l=l.take p++l[p] :: l.drop (p+1):=by
  have:=List.take_append_drop p l
  rw [List.drop_eq_getElem_cons hp] at this
  exact this.symm
 have hpe:l[p]=e:=(dI (t:=aP) (l:=l) hp).symm.trans he
 have f1:(l.take p).filter (fun x=>decide (x ≠ e))=l.take p:=List.filter_eq_self.2 fun x hx=>by
  obtain ⟨j,hj,rfl⟩:=List.getElem_of_mem hx
  have hj':j<p:=by simp at hj;omega
  rw [List.getElem_take]
  simpa using hne j (by omega) (by omega)
 have f2:(l.drop (p+1)).filter (fun x=>decide (x ≠ e))=l.drop (p+1):=List.filter_eq_self.2 fun x hx=>by
  obtain ⟨j,hj,rfl⟩:=List.getElem_of_mem hx
  have hj':p+1+j<l.length:=by simp at hj;omega
  rw [List.getElem_drop]
  simpa using hne (p+1+j) hj' (by omega)
 conv=>lhs;rw [e1]
 rw [List.filter_append,List.filter_cons,f1,f2]
 simp [hpe]
def YV (a b:eX):Prop:=(a.1:Int)=b.1/\(a.2.1:Int)=b.2.1
instance (a b:eX):Decidable (YV a b):=by unfold YV;infer_instance
def nwM (a b:eX):Prop:=(b.2.2.2.1:Int)<a.2.2.2.1\/(b.2.2.2.1:Int)=a.2.2.2.1/\((b.2.2.2.2.1:Int)<a.2.2.2.2.1\/(b.2.2.2.2.1:Int)=a.2.2.2.2.1/\(b.2.2.1:Int)<a.2.2.1)
instance (a b:eX):Decidable (nwM a b):=by unfold nwM;infer_instance
theorem Un (a b:eX):Ev (fun k=>zw k a b) (decide (nwM a b)):=
 Ev.eq (fun k=>Hg k a b) (Ev.bind (pJ _ _) (Ev.bind (pJ _ _) (Ev.bind (pJ _ _) (Ev.bind (MC _ _ _) (Ev.ret.val (by
  congr 1
  unfold nwM GH vO
  refine propext ?_
  repeat' split
  all_goals omega))))))
def Qk (l:List eX) (x:eX) (p:Nat):List eX:=
 if p<l.length/\YV (rd gX l (p:Int)) x then (if nwM x (rd gX l (p:Int)) then l.take p++[x]++l.drop (p+1) else l) else l.take p++[x]++l.drop p
theorem WJ (l:List eX) (x:eX) (p:Nat) (hp:p<=l.length):(Qk l x p).length<=l.length+1:=by
 unfold Qk
 split
 ·split
  ·simp;omega
  ·omega
 ·simp;omega
theorem aad {i j:Nat} (hi:i<=1048577) (hj:j<=1048577):IntKind.wrap .i64 (Int.fdiv (IntKind.wrap .u64 (IntKind.wrap .i64 ((i:Int)+(j:Int)))) (2 ^ (min (Int.toNat 1) (IntKind.bits .u64))))=(((i+j) / 2:Nat):Int):=by
 have w64:∀ n:Int,IntKind.wrap .u64 n=n % 18446744073709551616:=fun n=>by simp [IntKind.wrap,IntKind.bits,IntKind.signed]
 have e1:IntKind.wrap .i64 ((i:Int)+(j:Int))=((i+j:Nat):Int):=by rw [IntKind.wrap_i64];omega
 have e2:IntKind.wrap .u64 ((i+j:Nat):Int)=((i+j:Nat):Int):=by rw [w64];omega
 have e3:(2:Int) ^ (min (Int.toNat 1) (IntKind.bits .u64))=2:=rfl
 have e4:Int.fdiv ((i+j:Nat):Int) 2=(((i+j) / 2:Nat):Int):=by
  rw [Int.fdiv_eq_ediv_of_nonneg _ (by omega)]
  omega
 rw [e1,e2,e3,e4,IntKind.wrap_i64]
 omega
theorem Kq {a b c:eX} (h:xS a b) (k:xS b c):xS a c:=by unfold xS at *;omega
theorem Uo {l:List eX} (h:∀ i,i<l.length->QM l i):∀ d i:Nat,i+d+1<l.length->xS (rd gX l (i:Int)) (rd gX l ((i+d+1:Nat):Int)):=by
 intro d
 induction d with
 | zero=>intro i hi;exact (h (i+1) (by omega)).2 (by omega)
 | succ d ih=>intro i hi;exact Kq (ih i (by omega)) ((h (i+(d+1)+1) (by omega)).2 (by omega))
theorem Uq (a b:eX) (h:¬ xS a b):WC a b=0 ↔ YV a b:=by
 unfold WC GH vO YV
 unfold xS at h
 repeat' split
 all_goals omega
theorem Ur (l:List eX) (x:eX) (hl:l.length<=1048576) (p:Nat) (hp:p<=l.length) (h1:∀ j,j<p->xS (rd gX l (j:Int)) x) (h2:∀ j,p<=j->j<l.length->¬ xS (rd gX l (j:Int)) x) :
  Ev (fun k=>aL k l x) ((p:Int),(decide (p<l.length/\YV (rd gX l (p:Int)) x),())):=by
 have hx:(x.1,(x.2.1,(x.2.2.1,(x.2.2.2.1,(x.2.2.2.2.1,())))))=x:=rfl
 have key:∀ d i j:Nat,j - i<=d->i<=p->p<=j->j<=l.length->E2 (fun k m=>aL.l0 k m l ((List.length l:Nat):Int) (i:Int) (j:Int) x.1 x.2.1 x.2.2.1 x.2.2.2.1 x.2.2.2.2.1) ((p:Int),(decide (p<l.length/\YV (rd gX l (p:Int)) x),())):=by
  intro d
  induction d with
  | zero=>
   intro i j hd hi hj hjl
   have hip:i=p:=by omega
   subst hip
   refine E2.eq (fun k m=>aL.aj k m l _ _ _ _ _ _ _ _) ?_
   simp only [hx]
   refine E2.neg (by omega) ?_
   by_cases c:i<l.length
   ·refine E2.pos (by omega) (E2.pos (by omega) (E2.pos (by omega) (E2.bind (Bt _ _) (E2.ret.val ?_))))
    have:=Uq _ _ (h2 i (Nat.le_refl _) c)
    simp [c,this]
   ·exact E2.neg (by omega) (E2.ret.val (by simp [c]))
  | succ d ih=>
   intro i j hd hi hj hjl
   by_cases hij:i<j
   ·refine E2.eq (fun k m=>aL.aj k m l _ _ _ _ _ _ _ _) ?_
    simp only [hx,aad (show i<=1048577 by omega) (show j<=1048577 by omega),bE (show (i+j) / 2<9223372036854775807 by omega)]
    refine E2.pos (by omega) (E2.neg (by omega) (E2.pos (by omega) (E2.pos (by omega) (E2.bind (Bt _ _) ?_))))
    by_cases c:(i+j) / 2<p
    ·exact E2.pos ((Im _ _).2 (h1 _ c)) (ih _ _ (by omega) (by omega) hj hjl)
    ·exact E2.neg (mt (Im _ _).1 (h2 _ (by omega) (by omega))) (ih _ _ (by omega) hi (by omega) (by omega))
   ·exact ih i j (by omega) hi hj hjl
 exact Ev.eq (fun k=>nN k l x) (Ev.loop (f:=fun k m=>aL.l0 k m l ((List.length l:Nat):Int) 0 ((List.length l:Nat):Int) x.1 x.2.1 x.2.2.1 x.2.2.2.1 x.2.2.2.2.1) (key l.length 0 l.length (by omega) (by omega) hp (Nat.le_refl _)))
theorem Ym (l:List eX) (x:eX) (hl:l.length<=1048576) (p:Nat) (hp:p<=l.length) (h1:∀ j,j<p->xS (rd gX l (j:Int)) x) (h2:∀ j,p<=j->j<l.length->¬ xS (rd gX l (j:Int)) x):Ev (fun k=>JV k l x) (Qk l x p):=by
 refine Ev.eq (fun k=>Qe k l x) (Ev.bind (Ur l x hl p hp h1 h2) ?_)
 by_cases c:p<l.length/\YV (rd gX l (p:Int)) x
 ·refine Ev.neg (by simpa using c) (Ev.pos (by show (0:Int)<=(p:Int);omega) (Ev.pos (by show (p:Int)<_;omega) (Ev.bind (Un _ _) ?_)))
  unfold Qk
  rw [if_pos c]
  by_cases q:nwM x (rd gX l (p:Int))
  ·rw [if_pos q]
   refine Ev.pos (by simpa using q) (Ev.pos (by show (0:Int)<=(p:Int);omega) (Ev.pos (by show (p:Int)<_;omega) (Ev.ret.val ?_)))
   show l.set (Int.toNat (p:Int)) x=_
   rw [Int.toNat_natCast,List.set_eq_take_append_cons_drop,if_pos c.1]
   simp
  ·rw [if_neg q]
   exact Ev.neg (by simpa using q) Ev.ret
 ·refine Ev.pos (by simpa using c) (Ev.bind ?_ Ev.ret)
  refine Ev.eq (f:=fun _=>some (Qk l x p)) (fun k=>?_) Ev.ret
  rw [wR]
  have:=tY (T:=gX) (B:=40) (l:=l) (i:=(p:Int)) (x:=x) (by omega) (by omega) (by omega)
  unfold Qk
  rw [if_neg c]
  simpa using this
theorem WK (a b:eX):((a.1:Int)=b.1/\((a.2.1:Int)=b.2.1/\((a.2.2.1:Int)=b.2.2.1/\((a.2.2.2.1:Int)=b.2.2.2.1/\(a.2.2.2.2.1:Int)=b.2.2.2.2.1)))) ↔ a=b:=by
 obtain ⟨a1,a2,a3,a4,a5,⟨⟩⟩:=a
 obtain ⟨b1,b2,b3,b4,b5,⟨⟩⟩:=b
 constructor
 ·rintro ⟨h1,h2,h3,h4,h5⟩
  simp only at h1 h2 h3 h4 h5
  rw [h1,h2,h3,h4,h5]
 ·intro h
  injection h with h1 h
  injection h with h2 h
  injection h with h3 h
  injection h with h4 h
  injection h with h5 h
  exact ⟨h1,h2,h3,h4,h5⟩
theorem YW {a b:List eX} (h:a.length=b.length):(∀ i,i<a.length->rd gX a (i:Int)=rd gX b (i:Int)) ↔ a=b:=by
 constructor
 ·intro H
  refine List.ext_getElem h fun i h1 h2=>?_
  have:=H i h1
  rwa [dI (t:=gX) h1,dI (t:=gX) h2] at this
 ·rintro rfl i _
  rfl
theorem Yn (a b:List eX) (ha:a.length<=1048576):∃ r,Ev (fun k=>bS k a b) r/\(r=true ↔ a=b):=by
 by_cases c:a.length=b.length
 ·obtain ⟨r,er,hr⟩:=jq (R:=fun i v=>E2 (fun k m=>bS.l0 k m a b ((List.length a:Nat):Int) i) v) (n:=a.length) (fun i=>rd gX a (i:Int)=rd gX b (i:Int)) true (E2.eq (fun k m=>bS.aj k m a b _ _) (E2.neg (by omega) E2.ret)) (fun i hi hq v e=>by
   refine E2.eq (fun k m=>bS.aj k m a b _ _) (E2.pos (by omega) (E2.pos (by omega) (E2.pos (by omega) (E2.pos (by omega) (E2.pos (by omega) (E2.neg (fun h=>h ((WK _ _).2 hq)) ?_))))))
   simp only [bE (show i<9223372036854775807 by omega)]
   exact e) (fun i hi hq=>E2.eq (fun k m=>bS.aj k m a b _ _) (E2.pos (by omega) (E2.pos (by omega) (E2.pos (by omega) (E2.pos (by omega) (E2.pos (by omega) (E2.pos (fun h=>hq ((WK _ _).1 h)) E2.ret)))))))
  refine ⟨r,Ev.eq (fun k=>pz k a b) (Ev.neg (by omega) (Ev.loop (f:=fun k m=>bS.l0 k m a b ((List.length a:Nat):Int) 0) er)),hr.trans ⟨fun h=>(YW c).1 h.1,fun h=>⟨(YW c).2 h,rfl⟩⟩⟩
 ·exact ⟨false,Ev.eq (fun k=>pz k a b) (Ev.pos (by omega) Ev.ret),by simp only [Bool.false_eq_true,false_iff];exact fun h=>c (h ▸ rfl)⟩
def ML:List gY × (Bool × Unit):=([],(false,()))
def wkE (l:List aC):Prop:=l.Pairwise fun a b=>¬ ze b a
theorem Yo (l:List aC) (e:aC) (hl:l.length<=33554432):∃ v:List aC,v.Perm (e :: l)/\(wkE l->wkE v)/\Ev (fun k=>jP k l e) v:=by
 obtain ⟨p,hp,h1,h2⟩:=nK (fun i=>ze (rd aP l (i:Int)) e) l.length
 refine ⟨l.take p++[e]++l.drop p, ?_,fun hw=>?_, ?_⟩
 ·have:(l.take p++[e]++l.drop p).Perm (e :: (l.take p++l.drop p)):=by
   rw [List.append_assoc]
   exact List.perm_middle
  rwa [List.take_append_drop] at this
 ·have hd:∀ b ∈ l.drop p,¬ ze b e:=fun b hb hbe=>by
   obtain ⟨j,hj,rfl⟩:=List.getElem_of_mem hb
   rw [List.length_drop] at hj
   have hpl:p<l.length:=by omega
   have hnp:=h2 hpl
   rw [List.getElem_drop] at hbe
   rcases Nat.eq_zero_or_pos j with h0 | h0
   ·subst h0
    rw [dI hpl] at hnp
    exact hnp hbe
   ·have:=List.pairwise_iff_getElem.1 hw p (p+j) hpl (by omega) (by omega)
    rw [dI hpl] at hnp
    unfold ze at *
    omega
  have ht:∀ a ∈ l.take p,ze a e:=fun a ha=>by
   obtain ⟨j,hj,rfl⟩:=List.getElem_of_mem ha
   rw [List.length_take] at hj
   have:=h1 j (by omega)
   rw [dI (by omega)] at this
   rw [List.getElem_take]
   exact this
  unfold wkE at *
  rw [List.append_assoc,List.pairwise_append]
  have hs:(l.take p++l.drop p).Pairwise fun a b=>¬ ze b a:=by rw [List.take_append_drop];exact hw
  rw [List.pairwise_append] at hs
  refine ⟨hs.1, ?_,fun a ha b hb=>?_⟩
  ·rw [List.singleton_append,List.pairwise_cons]
   exact ⟨fun b hb=>hd b hb,hs.2.1⟩
  ·rw [List.singleton_append,List.mem_cons] at hb
   rcases hb with rfl | hb
   ·have:=ht a ha
    unfold ze at *
    omega
   ·exact hs.2.2 a ha b hb
 ·have key:∀ d i:Nat,i+d=p->E2 (fun k m=>jP.l0 k m l (i:Int) e.1 e.2.1 e.2.2.1 e.2.2.2.1) (l.take p++[e]++l.drop p):=by
   intro d
   induction d with
   | zero=>
    intro i hi
    have hi:i=p:=by omega
    subst hi
    have hfin:((([]:List aC)++(List.take ((Int.toNat (i:Int)) - (Int.toNat 0)) (List.drop (Int.toNat 0) l)))++([(e.1,(e.2.1,(e.2.2.1,(e.2.2.2.1,()))))]:(List aC)))++(List.take ((Int.toNat ((List.length l:Nat):Int)) - (Int.toNat (i:Int))) (List.drop (Int.toNat (i:Int)) l))=l.take i++[e]++l.drop i:=by
     simp only [Int.toNat_natCast,Int.toNat_zero,Nat.sub_zero,List.drop_zero,List.nil_append]
     rw [List.take_of_length_le (l:=l.drop i) (by simp)]
    have hsz:(List.take ((Int.toNat (i:Int)) - (Int.toNat 0)) (List.drop (Int.toNat 0) l)).length<=l.length:=by simp;omega
    have hsz2:(List.take ((Int.toNat ((List.length l:Nat):Int)) - (Int.toNat (i:Int))) (List.drop (Int.toNat (i:Int)) l)).length<=l.length:=by simp
    refine E2.eq (fun k m=>jP.aj k m l _ _ _ _ _) ?_
    by_cases c:i<l.length
    ·refine E2.pos (by omega) (E2.pos (by omega) (E2.pos (by omega) (E2.bind (Br _ _) (E2.neg (by simpa using h2 c) ?_))))
     refine E2.pos (by omega) (E2.pos (by omega) (E2.pos (by rw [List.length_nil];omega) (E2.pos (by simp only [List.length_append,List.length_nil,List.length_singleton];omega) (E2.pos (by omega) (E2.pos (by omega) (E2.pos (by simp only [List.length_append,List.length_nil,List.length_singleton];omega) ?_))))))
     exact E2.ret.val hfin
    ·refine E2.neg (by omega) ?_
     refine E2.pos (by omega) (E2.pos (by omega) (E2.pos (by rw [List.length_nil];omega) (E2.pos (by simp only [List.length_append,List.length_nil,List.length_singleton];omega) (E2.pos (by omega) (E2.pos (by omega) (E2.pos (by simp only [List.length_append,List.length_nil,List.length_singleton];omega) ?_))))))
     exact E2.ret.val hfin
   | succ d ih=>
    intro i hi
    refine E2.eq (fun k m=>jP.aj k m l _ _ _ _ _) (E2.pos (by omega) (E2.pos (by omega) (E2.pos (by omega) (E2.bind (Br _ _) (E2.pos (by simpa using h1 i (by omega)) ?_)))))
    simp only [bE (show i<9223372036854775807 by omega)]
    exact ih (i+1) (by omega)
  exact Ev.eq (fun k=>Lm k l e) (Ev.loop (f:=fun k m=>jP.l0 k m l 0 e.1 e.2.1 e.2.2.1 e.2.2.2.1) (key p 0 (by omega)))
theorem YX:∀ {a b:List aC},a.Perm b->a.Pairwise ze->wkE b->a=b
 | [],b,h,_,_=>(List.nil_perm.1 h).symm
 | x :: a,[],h,_,_=>by have:=h.length_eq;simp at this
 | x :: a,y :: b,h,h1,h2=>by
  rw [List.pairwise_cons] at h1
  unfold wkE at h2
  rw [List.pairwise_cons] at h2
  have hxy:x=y:=by
   have hx:x ∈ y :: b:=h.subset (by simp)
   have hy:y ∈ x :: a:=h.symm.subset (by simp)
   rcases List.mem_cons.1 hx with hx | hx
   ·exact hx
   ·rcases List.mem_cons.1 hy with hy | hy
    ·exact hy.symm
    ·exact absurd (h1.1 y hy) (h2.1 x hx)
  subst hxy
  rw [YX (List.perm_cons x |>.1 h) h1.2 h2.2]
theorem Ql {l:List aC} (h:dU l):l.Pairwise ze:=by
 rw [List.pairwise_iff_getElem]
 intro i j hi hj hij
 have:=FP h.1 (j - i - 1) i (by omega)
 rw [show i+(j - i - 1)+1=j by omega] at this
 rw [dI hi,dI hj] at this
 exact this
theorem Tv (a b:aC):((a.1:Int)=b.1/\((a.2.1:Int)=b.2.1/\((a.2.2.1:Int)=b.2.2.1/\(a.2.2.2.1:Int)=b.2.2.2.1))) ↔ a=b:=by
 obtain ⟨a1,a2,a3,a4,⟨⟩⟩:=a
 obtain ⟨b1,b2,b3,b4,⟨⟩⟩:=b
 constructor
 ·rintro ⟨h1,h2,h3,h4⟩
  simp only at h1 h2 h3 h4
  rw [h1,h2,h3,h4]
 ·intro h
  injection h with h1 h
  injection h with h2 h
  injection h with h3 h
  injection h with h4 h
  exact ⟨h1,h2,h3,h4⟩
theorem WL {a b:List aC} (h:a.length=b.length):(∀ i,i<a.length->rd aP a (i:Int)=rd aP b (i:Int)) ↔ a=b:=by
 constructor
 ·intro H
  refine List.ext_getElem h fun i h1 h2=>?_
  have:=H i h1
  rwa [dI (t:=aP) h1,dI (t:=aP) h2] at this
 ·rintro rfl i _
  rfl
theorem Yp (a b:List aC) (ha:a.length<=33554432):∃ r,Ev (fun k=>bM k a b) r/\(r=true ↔ a=b):=by
 by_cases c:a.length=b.length
 ·obtain ⟨r,er,hr⟩:=jq (R:=fun i v=>E2 (fun k m=>bM.l0 k m a b ((List.length a:Nat):Int) i) v) (n:=a.length) (fun i=>rd aP a (i:Int)=rd aP b (i:Int)) true (E2.eq (fun k m=>bM.aj k m a b _ _) (E2.neg (by omega) E2.ret)) (fun i hi hq v e=>by
   refine E2.eq (fun k m=>bM.aj k m a b _ _) (E2.pos (by omega) (E2.pos (by omega) (E2.pos (by omega) (E2.pos (by omega) (E2.pos (by omega) (E2.neg (fun h=>h ((Tv _ _).2 hq)) ?_))))))
   simp only [bE (show i<9223372036854775807 by omega)]
   exact e) (fun i hi hq=>E2.eq (fun k m=>bM.aj k m a b _ _) (E2.pos (by omega) (E2.pos (by omega) (E2.pos (by omega) (E2.pos (by omega) (E2.pos (by omega) (E2.pos (fun h=>hq ((Tv _ _).1 h)) E2.ret)))))))
  refine ⟨r,Ev.eq (fun k=>oF k a b) (Ev.neg (by omega) (Ev.loop (f:=fun k m=>bM.l0 k m a b ((List.length a:Nat):Int) 0) er)),hr.trans ⟨fun h=>(WL c).1 h.1,fun h=>⟨(WL c).2 h,rfl⟩⟩⟩
 ·exact ⟨false,Ev.eq (fun k=>oF k a b) (Ev.pos (by omega) Ev.ret),by simp only [Bool.false_eq_true,false_iff];exact fun h=>c (h ▸ rfl)⟩
def Cj (c:iH):Prop:=c.1.length<=1048576/\(0:Int)<=c.2.1/\(c.2.1:Int)<=((c.1.length:Nat):Int)
def Dr {α:Type} (f:Nat->iH->Option (α × iH)) (P:α->Prop):Prop:=∀ c,Cj c->∃ x c',Cj c'/\P x/\Ev (fun k=>f k c) (x,c')
theorem WM (a:BitVec (IntKind.bits .i64)):0<=IntKind.wrap .i64 (((a &&& BitVec.ofInt (IntKind.bits .i64) 255).toNat:Nat))/\IntKind.wrap .i64 (((a &&& BitVec.ofInt (IntKind.bits .i64) 255).toNat:Nat))<=255:=by
 have h:(a &&& BitVec.ofInt (IntKind.bits .i64) 255).toNat<=255:=by
  rw [BitVec.toNat_and]
  exact Nat.le_trans Nat.and_le_right (by decide)
 rw [IntKind.wrap_i64]
 omega
theorem FQ:Dr (fun k c=>qY k c) (fun x=>0<=x/\x<=255):=by
 intro c h
 obtain ⟨h1,h2,h3⟩:=h
 by_cases q:(c.2.1:Int)<((List.length c.1:Nat):Int)
 ·refine ⟨_,(c.1,(IntKind.wrap .i64 (c.2.1+1),(IntKind.wrap .i64 ((IntKind.wrap .i64 (c.2.2.1*6364136223846793005))+1442695040888963407),()))),⟨h1, ?_, ?_⟩,WM _,Ev.eq (fun k=>AL k c) (Ev.neg (by omega) (Ev.neg (by omega) (Ev.pos q (Ev.pos h2 (Ev.pos q Ev.ret)))))⟩
  ·show (0:Int)<=IntKind.wrap .i64 (c.2.1+1)
   rw [fO (by omega) (by omega)]
   omega
  ·show IntKind.wrap .i64 (c.2.1+1)<=((List.length c.1:Nat):Int)
   rw [fO (by omega) (by omega)]
   omega
 ·exact ⟨_,(c.1,(c.2.1,(IntKind.wrap .i64 ((IntKind.wrap .i64 (c.2.2.1*6364136223846793005))+1442695040888963407),()))),⟨h1,h2,h3⟩,WM _,Ev.eq (fun k=>AL k c) (Ev.neg (by omega) (Ev.neg (by omega) (Ev.neg q Ev.ret)))⟩
theorem dQ (n:Int):Dr (fun k c=>bK k c n) (fun x=>0<=x/\(0<n->x<n)/\(n<=0->x=0)):=by
 intro c h
 by_cases q:n<=0
 ·exact ⟨0,c,h,⟨by omega,fun h=>by omega,fun _=>rfl⟩,Ev.eq (fun k=>vk k c n) (Ev.pos q Ev.ret)⟩
 ·obtain ⟨x,c1,h1,hx,e1⟩:=FQ c h
  have hm:∀ y:Int,0<=y->0<=Int.tmod y n/\(0<n->Int.tmod y n<n)/\(n<=0->Int.tmod y n=0):=fun y hy=>⟨Int.tmod_nonneg _ hy,fun hn=>Int.tmod_lt_of_pos _ hn,fun h=>absurd h q⟩
  by_cases q2:n<=256
  ·exact ⟨Int.tmod x n,c1,h1,hm x hx.1,Ev.eq (fun k=>vk k c n) (Ev.neg q (Ev.pos q2 (Ev.bind e1 (Ev.neg (by omega) Ev.ret))))⟩
  ·obtain ⟨y,c2,h2,hy,e2⟩:=FQ c1 h1
   obtain ⟨z,c3,h3,hz,e3⟩:=FQ c2 h2
   refine ⟨_,c3,h3,hm _ ?_,Ev.eq (fun k=>vk k c n) (Ev.neg q (Ev.neg q2 (Ev.bind e1 (Ev.bind e2 (Ev.bind e3 (Ev.neg (by omega) Ev.ret))))))⟩
   rw [fO (n:=x*65536) (by omega) (by omega),fO (n:=y*256) (by omega) (by omega),fO (n:=x*65536+y*256) (by omega) (by omega),fO (by omega) (by omega)]
   omega
theorem Us (n:Int):Dr (fun k c=>AA k c n) (fun _=>True):=by
 intro c h
 obtain ⟨x,c1,h1,_,e1⟩:=dQ n c h
 exact ⟨_,c1,h1,trivial,Ev.eq (fun k=>Ka k c n) (Ev.bind e1 Ev.ret)⟩
theorem Kr:Dr (fun k c=>vQ k c) (fun _=>True):=by
 intro c h
 obtain ⟨x1,c1,h1,_,e1⟩:=dQ 20 c h
 obtain ⟨x2,c2,h2,_,e2⟩:=dQ 10 c1 h1
 obtain ⟨x3,c3,h3,_,e3⟩:=dQ 18 c2 h2
 obtain ⟨x4,c4,h4,_,e4⟩:=dQ 3 c3 h3
 exact ⟨_,c4,h4,trivial,Ev.eq (fun k=>GV k c) (Ev.bind e1 (Ev.bind e2 (Ev.bind e3 (Ev.bind e4 Ev.ret))))⟩
theorem Tw (l:List aC) (e:aC) (hl:l.length<=1048576):∃ v:List aC × (Bool × Unit),v.1.length<=l.length+1/\Ev (fun k=>qg k l e) v:=by
 obtain ⟨r,hp,_,e1⟩:=Yo l e (by omega)
 have hr:r.length=l.length+1:=by rw [hp.length_eq];simp
 have e2:=Ch r (by omega)
 by_cases c:dU r
 ·exact ⟨(r,(true,())),by show r.length<=_;omega,Ev.eq (fun k=>yD k l e) (Ev.bind e1 (Ev.bind e2 (Ev.neg (by simpa using c) Ev.ret)))⟩
 ·exact ⟨([]++l,(false,())),by simp,Ev.eq (fun k=>yD k l e) (Ev.bind e1 (Ev.bind e2 (Ev.pos (by simpa using c) (Ev.pos (by rw [List.length_nil];omega) Ev.ret))))⟩
theorem MN (Qm most:Int) (hm:most<=100):Dr (fun k c=>gP k c Qm most) (fun r=>r.length<=100):=by
 intro c h
 have key:∀ (d:Nat) (t:Int) (c:iH) (s:List aC),Cj c->s.length+d<=1000->∃ r c',Cj c'/\r.length<=s.length+d/\E2 (fun k m=>gP.l0 k m Qm t (d:Int) c.1 c.2.1 c.2.2.1 s) (r,c'):=by
  intro d
  induction d with
  | zero=>intro t c s h hs;exact ⟨s,c,h,by omega,E2.eq (fun k m=>gP.aj k m _ _ _ _ _ _ s) (E2.neg (by omega) E2.ret)⟩
  | succ d ih=>
   intro t c s h hs
   obtain ⟨x1,c1,h1,_,e1⟩:=dQ 3 c h
   obtain ⟨x2,c2,h2,_,e2⟩:=dQ 8 c1 h1
   obtain ⟨x3,c3,h3,_,e3⟩:=Us 5 c2 h2
   obtain ⟨v,hv,e4⟩:=Tw s (t,(IntKind.wrap .i64 (6*(IntKind.wrap .i64 (1+x1))),(IntKind.wrap .i64 (60+x2),(Qm,())))) (by omega)
   by_cases q:x3=true
   ·obtain ⟨r,c',h',hr,e5⟩:=ih (IntKind.wrap .i64 ((IntKind.wrap .i64 (t+(IntKind.wrap .i64 (6*(IntKind.wrap .i64 (1+x1))))))+12)) c3 v.1 h3 (by omega)
    refine ⟨r,c',h',by omega,E2.eq (fun k m=>gP.aj k m _ _ _ _ _ _ s) (E2.pos (by omega) (E2.bind e1 (E2.bind e2 (E2.bind e3 (E2.pos q (E2.bind e4 ?_))))))⟩
    simp only [kL (show 0<d+1 by omega) (show d+1<9223372036854775807 by omega),Nat.add_sub_cancel]
    exact e5
   ·obtain ⟨r,c',h',hr,e5⟩:=ih (IntKind.wrap .i64 (t+(IntKind.wrap .i64 (6*(IntKind.wrap .i64 (1+x1)))))) c3 v.1 h3 (by omega)
    refine ⟨r,c',h',by omega,E2.eq (fun k m=>gP.aj k m _ _ _ _ _ _ s) (E2.pos (by omega) (E2.bind e1 (E2.bind e2 (E2.bind e3 (E2.neg q (E2.bind e4 ?_))))))⟩
    simp only [kL (show 0<d+1 by omega) (show d+1<9223372036854775807 by omega),Nat.add_sub_cancel]
    exact e5
 obtain ⟨x,c1,h1,⟨h2,h3,h4⟩,e1⟩:=dQ most c h
 obtain ⟨n,rfl⟩:=Int.eq_ofNat_of_zero_le h2
 have hn:n<=100:=by
  rcases Int.lt_or_le 0 most with q | q
  ·have:=h3 q;omega
  ·have:=h4 q;omega
 obtain ⟨r,c',h',hr,e3⟩:=key n 0 c1 [] h1 (by simp;omega)
 exact ⟨r,c',h',by simp at hr;omega,Ev.eq (fun k=>JY k c Qm most) (Ev.bind e1 (Ev.loop (f:=fun k m=>gP.l0 k m Qm 0 (n:Int) c1.1 c1.2.1 c1.2.2.1 []) e3))⟩
theorem Qn:Dr (fun k c=>gV k c) (fun r=>r.length<=200):=by
 intro c h
 obtain ⟨a,c1,h1,ha,e1⟩:=MN 1 9 (by omega) c h
 obtain ⟨b,c2,h2,hb,e2⟩:=MN 2 9 (by omega) c1 h1
 have key:∀ (d i:Nat) (s:List aC),i+d=b.length->s.length+d<=1000->∃ r,r.length<=s.length+d/\E2 (fun k m=>gV.l0 k m (i:Int) c2.1 c2.2.1 c2.2.2.1 s b) (r,c2):=by
  intro d
  induction d with
  | zero=>intro i s hi hs;exact ⟨s,by omega,E2.eq (fun k m=>gV.aj k m _ _ _ _ s b) (E2.neg (by omega) E2.ret)⟩
  | succ d ih=>
   intro i s hi hs
   obtain ⟨v,hv,e4⟩:=Tw s (rd aP b (i:Int)) (by omega)
   obtain ⟨r,hr,e5⟩:=ih (i+1) v.1 (by omega) (by omega)
   refine ⟨r,by omega,E2.eq (fun k m=>gV.aj k m _ _ _ _ s b) (E2.pos (by omega) (E2.pos (by omega) (E2.pos (by omega) (E2.bind e4 ?_))))⟩
   simp only [bE (show i<9223372036854775807 by omega)]
   exact e5
 have ha:a.length<=100:=ha
 have hb:b.length<=100:=hb
 obtain ⟨r,hr,e3⟩:=key b.length 0 a (by omega) (by omega)
 exact ⟨r,c2,h2,by show r.length<=200;omega,Ev.eq (fun k=>FH k c) (Ev.bind e1 (Ev.bind e2 (Ev.loop (f:=fun k m=>gV.l0 k m 0 c2.1 c2.2.1 c2.2.2.1 a b) e3)))⟩
theorem Sb:Dr (fun k c=>vR k c) (fun _=>True):=by
 intro c h
 obtain ⟨x1,c1,h1,_,e1⟩:=dQ 5 c h
 obtain ⟨x2,c2,h2,_,e2⟩:=dQ 4 c1 h1
 obtain ⟨x3,c3,h3,_,e3⟩:=dQ 4 c2 h2
 obtain ⟨x4,c4,h4,_,e4⟩:=dQ 5 c3 h3
 obtain ⟨x5,c5,h5,_,e5⟩:=dQ 3 c4 h4
 exact ⟨_,c5,h5,trivial,Ev.eq (fun k=>GX k c) (Ev.bind e1 (Ev.bind e2 (Ev.bind e3 (Ev.bind e4 (Ev.bind e5 Ev.ret)))))⟩
def vW (n:Nat) (l:List bT):Prop:=l.length<=n/\∀ p ∈ l,p.2.2.2.1.length<=3
theorem WO {n:Nat} {l:List bT} {a b c:Int} {v:List Int} (h:vW n l) (hv:v.length<=3):vW (n+1) (l++[(a,(b,(c,(v,()))))]):=
 ⟨by rw [List.length_append,List.length_singleton];have:=h.1;omega,fun p hp=>by
  rcases List.mem_append.1 hp with h1 | h1
  ·exact h.2 p h1
  ·rw [List.mem_singleton.1 h1];exact hv⟩
theorem Bu {n m:Nat} {l:List bT} (h:vW n l) (hm:n<=m):vW m l:=⟨Nat.le_trans h.1 hm,h.2⟩
theorem Yq {n:Nat} {l:List bT} (h:vW n l) (hn:n<=1048576):Wq l:=⟨Nat.le_trans h.1 hn,fun i hi=>by
 rw [dI hi]
 exact Nat.le_trans (h.2 _ (List.getElem_mem hi)) (by omega)⟩
theorem Yr {n:Nat} {l:List bT} (h:vW n l) (hn:n<=1048576):Bk (.list dL) l:=
 ⟨Nat.le_trans h.1 hn,fun x hx=>⟨trivial,trivial,trivial,⟨Nat.le_trans (h.2 x hx) (by omega),fun _ _=>trivial⟩,trivial⟩⟩
theorem abD {l:List aC} (h:l.length<=1048576):Bk (.list aP) l:=⟨h,fun x _=>Bj x rfl⟩
theorem YZ {l:List aZ} (h:l.length<=1048576):Bk (.list aY) l:=⟨h,fun x _=>Bj x rfl⟩
theorem abE {l:List eX} (h:l.length<=1048576):Bk (.list gX) l:=⟨h,fun x _=>Bj x rfl⟩
theorem abF {l:List Int} (h:l.length<=1048576):Bk (.list (.int .i64)) l:=⟨h,fun x _=>trivial⟩
theorem WQ (code:List Int) (hc:code.length<=1048576):∃ c:iH,Cj c/\Ev (fun k=>jv k code) c:=by
 have key:∀ (d i:Nat) (h:Int),i+d=code.length->∃ c:iH,Cj c/\E2 (fun k m=>jv.l0 k m code h (i:Int)) c:=by
  intro d
  induction d with
  | zero=>intro i h hi;exact ⟨(code,(0,(h,()))),⟨hc,Int.le_refl 0,by show (0:Int)<=((List.length code:Nat):Int);omega⟩,E2.eq (fun k m=>jv.aj k m code _ _) (E2.neg (by omega) E2.ret)⟩
  | succ d ih=>
   intro i h hi
   by_cases q:(i:Int)<4000
   ·obtain ⟨c,hc',e⟩:=ih (i+1) _ (by omega)
    refine ⟨c,hc',E2.eq (fun k m=>jv.aj k m code _ _) (E2.pos (by omega) (E2.pos q (E2.pos (by omega) (E2.pos (by omega) ?_))))⟩
    simp only [bE (show i<9223372036854775807 by omega)]
    exact e
   ·exact ⟨(code,(0,(h,()))),⟨hc,Int.le_refl 0,by show (0:Int)<=((List.length code:Nat):Int);omega⟩,E2.eq (fun k m=>jv.aj k m code _ _) (E2.pos (by omega) (E2.neg q E2.ret))⟩
 obtain ⟨c,hc',e⟩:=key code.length 0 (IntKind.wrap .i64 (193017+((List.length code:Nat):Int))) (by omega)
 exact ⟨c,hc',Ev.eq (fun k=>Li k code) (Ev.loop (f:=fun k m=>jv.l0 k m code (IntKind.wrap .i64 (193017+((List.length code:Nat):Int))) 0) e)⟩
theorem Ut (l:List aC) (hl:l.length<=1048576):∃ v,Ev (fun k=>jO k l) v:=by
 by_cases hp:dU l
 ·have key:∀ d (i:Nat) (n:Int),i+d=l.length->∃ v,E2 (fun k m=>jO.l0 k m n l ((List.length l:Nat):Int) (i:Int)) v:=by
   intro d
   induction d with
   | zero=>
    intro i n hi
    exact ⟨n,E2.eq (fun k m=>jO.aj k m n l _ _) (E2.neg (by omega) E2.ret)⟩
   | succ d ih=>
    intro i n hi
    obtain ⟨v,e2⟩:=ih (i+1) (max n (IntKind.wrap .i64 ((rd aP l (i:Int)).1+(rd aP l (i:Int)).2.1))) (by omega)
    refine ⟨v,E2.eq (fun k m=>jO.aj k m n l _ _) (E2.pos (by omega) (E2.pos (by omega) (E2.pos (by omega) ?_)))⟩
    simp only [bE (show i<9223372036854775807 by omega)];exact e2
  obtain ⟨v,e2⟩:=key l.length 0 0 (by omega)
  exact ⟨v,Ev.eq (fun k=>Cg k l) (Ev.bind (bJ l hl) (Ev.pos (by simpa using hp) (Ev.loop (f:=fun k m=>jO.l0 k m 0 l ((List.length l:Nat):Int) 0) e2)))⟩
 ·exact ⟨0,Ev.eq (fun k=>Cg k l) (Ev.bind (bJ l hl) (Ev.neg (by simpa using hp) Ev.ret))⟩
theorem Za {n d:Int} (h:0<=n) (hd:1<=d):0<=((mk n d).1.1:Int):=by
 have hg:=Kg (qm n) d (by omega)
 unfold mk
 split
 ·exact Int.tdiv_nonneg h (by omega)
 ·exact Int.le_refl 0
theorem Yt {x y:Int} {p:aZ} (hx:0<=x) (hp:0<=(p.1:Int)):0<=((mO (x,(y,())) p).1.1:Int):=by
 unfold mO
 split
 ·rename_i c
  have h1:(1<=y/\y<=1000000)/\_:=je c.1
  have h2:=je c.2
  have g1:0<=x*(p.2.1:Int):=Int.mul_nonneg hx (by omega)
  have g2:0<=(p.1:Int)*y:=Int.mul_nonneg hp (by omega)
  have g3:0<y*(p.2.1:Int):=Int.mul_pos (by omega) (by omega)
  exact Za (show 0<=x*(p.2.1:Int)+(p.1:Int)*y by omega) (show 1<=y*(p.2.1:Int) by omega)
 ·exact Int.le_refl 0
theorem Sc (l:List aZ) (tick:Int) (hl:l.length<=1048576):∃ v:Gr,Ev (fun k=>bC k l tick) v/\0<=(v.1.1:Int):=by
 by_cases hp:mI l
 ·by_cases ht:0<=tick/\tick<=2000
  ·have key:∀ d (i:Nat) (a b x y:Int),i+d=l.length->0<=x->∃ v:Gr,E2 (fun k m=>bC.l0 k m l tick l ((List.length l:Nat):Int) (i:Int) a b x y) v/\0<=(v.1.1:Int):=by
    intro d
    induction d with
    | zero=>
     intro i a b x y hi hx
     exact ⟨((x,(y,())),(true,())),E2.eq (fun k m=>bC.aj k m l tick l _ _ a b x y) (E2.neg (by omega) E2.ret),hx⟩
    | succ d ih=>
     intro i a b x y hi hx
     obtain ⟨⟨⟨q1,q2⟩,q3,q4⟩,q5,q6⟩:=hp.1 i (by omega)
     by_cases hend:LT.lt (α:=Int) (rd aY l (i:Int)).1 tick
     ·have fin:∀ (en:Int),LT.lt (α:=Int) (rd aY l (i:Int)).1 en->en<=2000->
        ∃ p q:Gr,(∀ {g:Nat->Nat->Gr->Option Gr} {u:Gr},E2 (fun k m=>g k m p) u->E2 (fun k m=>(iK k (IntKind.wrap .i64 ((IntKind.wrap .i64 (en - (rd aY l (i:Int)).1))*5000)) (rd aY l (i:Int)).2.1).bind fun r=>g k m r) u)/\q=mO (x,(y,())) p.1/\0<=(q.1.1:Int):=by
       intro en h1 h2
       have w1:IntKind.wrap .i64 (en - (rd aY l (i:Int)).1)=en - (rd aY l (i:Int)).1:=fO (by omega) (by omega)
       have w2:IntKind.wrap .i64 ((en - (rd aY l (i:Int)).1)*5000)=(en - (rd aY l (i:Int)).1)*5000:=fO (by omega) (by omega)
       rw [w1,w2]
       exact ⟨mk ((en - (rd aY l (i:Int)).1)*5000) (rd aY l (i:Int)).2.1,_,fun e=>E2.bind (uM _ _ (by omega) (by omega) (by omega) (by omega)) e,rfl,Yt hx (Za (by omega) (by omega))⟩
      have tail:∀ (p q:Gr),q=mO (x,(y,())) p.1->0<=(q.1.1:Int)->∃ v:Gr,0<=(v.1.1:Int) /\
        E2 (fun k m=>(gU k (x,(y,())) p.1).bind fun r4=>if ¬ (p.2.1=true) then some ((0,(0,())),(false,())) else if ¬ (r4.2.1=true) then some ((0,(0,())),(false,())) else bC.l0 k m l tick l ((List.length l:Nat):Int) ((i+1:Nat):Int) a b r4.1.1 r4.1.2.1) v:=by
       intro p q hq hnn
       by_cases hp1:p.2.1=true
       ·by_cases hok:q.2.1=true
        ·obtain ⟨v,e2,e4⟩:=ih (i+1) a b q.1.1 q.1.2.1 (by omega) hnn
         refine ⟨v,e4,E2.bind (kM _ _) ?_⟩
         rw [<- hq];exact E2.neg (by simpa using hp1) (E2.neg (by simpa using hok) e2)
        ·refine ⟨Dp,Int.le_refl 0,E2.bind (kM _ _) ?_⟩
         rw [<- hq]
         exact E2.neg (by simpa using hp1) (E2.pos hok E2.ret)
       ·exact ⟨Dp,Int.le_refl 0,E2.bind (kM _ _) (E2.pos hp1 E2.ret)⟩
      by_cases hn:i+1<l.length
      ·obtain ⟨⟨⟨s1,s2⟩,s3,s4⟩,s5,s6⟩:=hp.1 (i+1) hn
       have s6:=s6 (by omega)
       rw [Nat.add_sub_cancel] at s6
       obtain ⟨p,q,f2,f3,f5⟩:=fin (min tick (rd aY l ((i+1:Nat):Int)).1) (by omega) (by omega)
       obtain ⟨v,t0,t2⟩:=tail p q f3 f5
       refine ⟨v,E2.eq (fun k m=>bC.aj k m l tick l _ _ a b x y) (E2.pos (by omega) (E2.pos (by omega) (E2.pos (by omega) ?_))),t0⟩
       simp only [bE (show i<9223372036854775807 by omega)]
       exact E2.pos (by omega) (E2.pos (by omega) (E2.pos (by omega) (E2.neg (by omega) (f2 t2))))
      ·obtain ⟨p,q,f2,f3,f5⟩:=fin tick hend ht.2
       obtain ⟨v,t0,t2⟩:=tail p q f3 f5
       refine ⟨v,E2.eq (fun k m=>bC.aj k m l tick l _ _ a b x y) (E2.pos (by omega) (E2.pos (by omega) (E2.pos (by omega) ?_))),t0⟩
       simp only [bE (show i<9223372036854775807 by omega)]
       exact E2.neg (by omega) (E2.neg (by omega) (f2 t2))
     ·refine ⟨((x,(y,())),(true,())),E2.eq (fun k m=>bC.aj k m l tick l _ _ a b x y) (E2.pos (by omega) (E2.pos (by omega) (E2.pos (by omega) ?_))),hx⟩
      simp only [bE (show i<9223372036854775807 by omega)]
      by_cases hn:i+1<l.length
      ·exact E2.pos (by omega) (E2.pos (by omega) (E2.pos (by omega) (E2.pos (by omega) E2.ret)))
      ·exact E2.neg (by omega) (E2.pos (by omega) E2.ret)
   obtain ⟨v,e2,e4⟩:=key l.length 0 0 0 0 1 (by omega) (Int.le_refl 0)
   exact ⟨v,Ev.eq (fun k=>oD k l tick) (Ev.bind (mX l hl) (Ev.neg (by simpa using hp) (Ev.bind (aB _ _ _) (Ev.neg (by simpa using ht) (Ev.loop (f:=fun k m=>bC.l0 k m l tick l ((List.length l:Nat):Int) 0 0 0 0 1) e2))))),e4⟩
  ·exact ⟨Dp,Ev.eq (fun k=>oD k l tick) (Ev.bind (mX l hl) (Ev.neg (by simpa using hp) (Ev.bind (aB _ _ _) (Ev.pos (by simpa using ht) Ev.ret)))),Int.le_refl 0⟩
 ·exact ⟨Dp,Ev.eq (fun k=>oD k l tick) (Ev.bind (mX l hl) (Ev.pos (by simpa using hp) Ev.ret)),Int.le_refl 0⟩
def Uu:Int->Bool->List gY->Prop
 | _,_,[]=>True
 | t,r,x :: l=>Eq (α:=Int) x.1 t/\(1<=(x.2.1:Int)/\(x.2.1:Int)<=3000)/\(Eq (α:=Int) x.2.2.1 0->r=false)/\(¬ Eq (α:=Int) x.2.2.1 0->(21<=(x.2.2.1:Int)/\(x.2.2.1:Int)<=108)/\(x.2.1:Int)<=96)/\t+x.2.1<=2096/\Uu (t+x.2.1) (decide (Eq (α:=Int) x.2.2.1 0)) l
theorem Gt (p:List gY) (hl:p.length<=4194304) (hp:Uu 0 false p):Ev (fun k=>eZ k p) true:=by
 have key:∀ d i:Nat,∀ (t:Int) (r:Bool),i+d=p.length->0<=t->(r=true ↔ 0<i/\Eq (α:=Int) (rd iB p ((i - 1:Nat):Int)).2.2.1 0)->Uu t r (p.drop i)->E2 (fun k m=>eZ.l0 k m p t p ((List.length p:Nat):Int) (i:Int)) true:=by
  intro d
  induction d with
  | zero=>
   intro i t r hi _ _ _
   exact E2.eq (fun k m=>eZ.aj k m p _ p _ _) (E2.neg (by omega) E2.ret)
  | succ d ih=>
   intro i t r hi ht hr hc
   have hlt:i<p.length:=by omega
   rw [List.drop_eq_getElem_cons hlt] at hc
   obtain ⟨c1,c2,c3,c4,c5,c6⟩:=hc
   rw [<- dI (t:=iB) hlt] at c1 c2 c3 c4 c5 c6
   have e1:=ih (i+1) (t+(rd iB p (i:Int)).2.1) _ (by omega) (by omega) (by rw [Nat.add_sub_cancel,decide_eq_true_eq];exact ⟨fun h=>⟨by omega,h⟩,fun h=>h.2⟩) c6
   refine E2.eq (fun k m=>eZ.aj k m p _ p _ _) ?_
   have w1:IntKind.wrap .i64 (t+(rd iB p (i:Int)).2.1)=t+(rd iB p (i:Int)).2.1:=fO (by omega) (by omega)
   refine E2.pos (by omega) (E2.pos (by omega) (E2.pos (by omega) (E2.neg (fun h=>h c1) (E2.bind (aB _ _ _) (E2.neg (by simpa using c2) ?_)))))
   by_cases z:Eq (α:=Int) (rd iB p (i:Int)).2.2.1 0
   ·refine E2.neg (fun h=>h z) (E2.pos z ?_)
    have hr0:=c3 z
    by_cases c7:0<i
    ·have c8:¬ Eq (α:=Int) (rd iB p ((i - 1:Nat):Int)).2.2.1 0:=fun h=>by rw [hr.2 ⟨c7,h⟩] at hr0;cases hr0
     refine E2.pos (by omega) ?_
     simp only [kL c7 (show i<9223372036854775807 by omega),bE (show i<9223372036854775807 by omega),w1]
     exact E2.pos (by omega) (E2.pos (by omega) (E2.neg c8 e1))
    ·refine E2.neg (by omega) ?_
     simp only [bE (show i<9223372036854775807 by omega),w1]
     exact e1
   ·obtain ⟨c9,c10⟩:=c4 z
    refine E2.pos z (E2.bind (aB _ _ _) (E2.neg (by simpa using c9) (E2.neg (by omega) (E2.neg z ?_))))
    simp only [bE (show i<9223372036854775807 by omega),w1]
    exact e1
 exact Ev.eq (fun k=>JW k p) (Ev.loop (f:=fun k m=>eZ.l0 k m p 0 p ((List.length p:Nat):Int) 0) (key p.length 0 0 false (by omega) (Int.le_refl 0) (by simp) (by simpa using hp)))
def Gd (n:Nat) (o:cK):Prop:=o.1.length<=n/\o.2.2.1.length<=n/\vW n o.2.2.2.1/\o.2.2.2.2.1.length<=n/\o.2.2.2.2.2.1.length<=n/\o.2.2.2.2.2.2.1.length<=n
theorem xC {n m:Nat} {o:cK} (h:Gd n o) (hm:n<=m):Gd m o:=
 ⟨Nat.le_trans h.1 hm,Nat.le_trans h.2.1 hm,Bu h.2.2.1 hm,Nat.le_trans h.2.2.2.1 hm,Nat.le_trans h.2.2.2.2.1 hm,Nat.le_trans h.2.2.2.2.2 hm⟩
theorem Gu {n:Nat} {o:cK} (h:Gd n o) (hn:n<=1048576):Bk lu o:=
 ⟨abD (Nat.le_trans h.1 hn),Bj (t:=aY) _ rfl,YZ (Nat.le_trans h.2.1 hn),Yr h.2.2.1 hn,abF (Nat.le_trans h.2.2.2.1 hn),abE (Nat.le_trans h.2.2.2.2.1 hn),YZ (Nat.le_trans h.2.2.2.2.2 hn),trivial,trivial,trivial⟩
theorem Qo {n:Nat} {o:cK} (h:Gd n o) {l:List aC} (hl:l.length<=n+1) (e:Int):Gd (n+1) (l,(o.2.1,(o.2.2.1,(o.2.2.2.1,(o.2.2.2.2.1,(o.2.2.2.2.2.1,(o.2.2.2.2.2.2.1,(e,o.2.2.2.2.2.2.2.2)))))))):=
 have h:=xC h (Nat.le_succ n);⟨hl,h.2⟩
def abG (p:bT):Prop:=p.2.2.2.1.length<=3
theorem Kt {n m:Nat} {l l':List bT} (h:vW n l) (hl:l'.length<=m) (hm:∀ p ∈ l',p ∈ l):vW m l':=⟨hl,fun p hp=>h.2 p (hm p hp)⟩
theorem Qp {n m k:Nat} {l l':List bT} (h:vW n l) (h':vW m l') (hk:l.length+l'.length<=k):vW k (l++l'):=⟨by rw [List.length_append];exact hk,fun p hp=>(List.mem_append.1 hp).elim (h.2 p) (h'.2 p)⟩
theorem Dl {n:Nat} {o:cK} (h:Gd n o) {l:List bT} (hl:vW (n+1) l) {seats:List Int} (hs:seats.length<=n+1):Gd (n+1) (o.1,(o.2.1,(o.2.2.1,(l,(seats,o.2.2.2.2.2))))):=
 have h:=xC h (Nat.le_succ n);⟨h.1,h.2.1,hl,hs,h.2.2.2.2⟩
def Qq (x:oO):Prop:=abG x.2.2.2.2.1
theorem Uv:Dr (fun k c=>Ay k c) (fun x=>Qq x):=by
 intro c h
 obtain ⟨a,c1,h1,ha,e1⟩:=dQ 8 c h
 obtain ⟨b,c2,h2,hb,e2⟩:=dQ 4 c1 h1
 have w:IntKind.wrap .i64 (1+a)=1+a:=fO (by omega) (by omega)
 by_cases d1:IntKind.wrap .i64 (1+a)=1
 ·obtain ⟨x,c3,h3,_,e3⟩:=Kr c2 h2
  refine ⟨_,c3,h3, ?_,Ev.eq (fun k=>mH k c) (Ev.bind e1 (Ev.bind e2 (Ev.pos d1 (Ev.pos d1 (Ev.bind e3 Ev.ret)))))⟩
  show ([]:List Int).length<=3
  simp
 by_cases d2:IntKind.wrap .i64 (1+a)=2
 ·obtain ⟨x,c3,h3,_,e3⟩:=Kr c2 h2
  refine ⟨_,c3,h3, ?_,Ev.eq (fun k=>mH k c) (Ev.bind e1 (Ev.bind e2 (Ev.neg d1 (Ev.pos d2 (Ev.bind e3 Ev.ret)))))⟩
  show ([]:List Int).length<=3
  simp
 by_cases d3:IntKind.wrap .i64 (1+a)=3
 ·obtain ⟨x,c3,h3,_,e3⟩:=dQ 9 c2 h2
  obtain ⟨y,c4,h4,_,e4⟩:=dQ 90 c3 h3
  refine ⟨_,c4,h4, ?_,Ev.eq (fun k=>mH k c) (Ev.bind e1 (Ev.bind e2 (Ev.neg d1 (Ev.neg d2 (Ev.pos d3 (Ev.bind e3 (Ev.bind e4 Ev.ret)))))))⟩
  show ([]:List Int).length<=3
  simp
 by_cases d6:IntKind.wrap .i64 (1+a)=6
 ·obtain ⟨x,c3,h3,_,e3⟩:=dQ 9 c2 h2
  refine ⟨_,c3,h3, ?_,Ev.eq (fun k=>mH k c) (Ev.bind e1 (Ev.bind e2 (Ev.neg d1 (Ev.neg d2 (Ev.neg d3 (Ev.pos d6 (Ev.bind e3 Ev.ret)))))))⟩
  show ([1,2]:List Int).length<=3
  simp
 by_cases d7:IntKind.wrap .i64 (1+a)=7
 ·obtain ⟨x,c3,h3,_,e3⟩:=Sb c2 h2
  refine ⟨_,c3,h3, ?_,Ev.eq (fun k=>mH k c) (Ev.bind e1 (Ev.bind e2 (Ev.neg d1 (Ev.neg d2 (Ev.neg d3 (Ev.neg d6 (Ev.pos d7 (Ev.bind e3 Ev.ret))))))))⟩
  show ([]:List Int).length<=3
  simp
 ·refine ⟨_,c2,h2, ?_,Ev.eq (fun k=>mH k c) (Ev.bind e1 (Ev.bind e2 (Ev.neg d1 (Ev.neg d2 (Ev.neg d3 (Ev.neg d6 (Ev.neg d7 Ev.ret)))))))⟩
  show ([]:List Int).length<=3
  simp
def yI (l:List aC):List oO:=l.map fun e=>(1,(0,(e,((0,(0,())),((0,(0,(0,([],())))),((0,(0,(0,(0,(0,()))))),()))))))
theorem Uw (l:List aC) (hl:l.length<=1048576):Ev (fun k=>gW k l) (yI l):=by
 have key:∀ (d i:Nat),i+d=l.length->E2 (fun k m=>gW.l0 k m l (i:Int) (yI (l.take i))) (yI l):=by
  intro d
  induction d with
  | zero=>
   intro i hi
   rw [List.take_of_length_le (by omega)]
   exact E2.eq (fun k m=>gW.aj k m _ _ _) (E2.neg (by omega) E2.ret)
  | succ d ih=>
   intro i hi
   have e:=ih (i+1) (by omega)
   have hlt:i<l.length:=by omega
   have hlen:(yI (l.take i)).length=i:=by simp [yI];omega
   refine E2.eq (fun k m=>gW.aj k m _ _ _) (E2.pos (by omega) (E2.pos (by omega) (E2.pos (by omega) (E2.pos (by simp only [List.length_singleton];omega) ?_))))
   simp only [bE (show i<9223372036854775807 by omega)]
   have:yI (l.take (i+1))=yI (l.take i)++[((1,(0,((rd aP l (i:Int)),((0,(0,())),((0,(0,(0,([],())))),((0,(0,(0,(0,(0,()))))),())))))):oO)]:=by
    rw [dI hlt]
    unfold yI
    rw [List.take_succ_eq_append_getElem hlt,List.map_append]
    rfl
   rw [<- this]
   exact e
 exact Ev.eq (fun k=>FI k l) (Ev.loop (f:=fun k m=>gW.l0 k m l 0 []) (key l.length 0 (by omega)))
theorem Sd (l:List aZ) (ms:aZ) (hl:l.length<=1048576):∃ v:Gr,Ev (fun k=>dR k l ms) v:=by
 by_cases hp:mI l
 ·by_cases hm:yF ms.1 ms.2.1=true
  ·by_cases hn:(ms.1:Int)<0
   ·exact ⟨Dp,Ev.eq (fun k=>mG k l ms) (Ev.bind (mX l hl) (Ev.neg (by simpa using hp) (Ev.bind (bP ms) (Ev.neg (by simpa using hm) (Ev.pos hn Ev.ret)))))⟩
   ·have h1:1<=l.length:=by have:=hp.2;simp at this;omega
    have ht:List.take (Int.toNat ((List.length l:Nat):Int) - Int.toNat 1) (List.drop (Int.toNat 1) l)=l.drop 1:=by
     rw [Int.toNat_natCast]
     show List.take (l.length - 1) (l.drop 1)=l.drop 1
     rw [List.take_of_length_le (by simp)]
    have hlt:((l.drop 1).length:Int)=((l.length - 1:Nat):Int):=by simp
    have rate:∀ i:Nat,i<l.length->LE.le (α:=Int) 20 (rd aY l (i:Int)).2.1/\LE.le (α:=Int) (rd aY l (i:Int)).2.1 300:=fun i hi=>(hp.1 i hi).1.1
    have key:∀ d (i c:Nat) (x y:Int) (w1 w2:Int),i+d=l.length->1<=i->c<l.length->∃ v:Gr,
      E2 (fun k m=>dR.l0 k m l (l.drop 1) ((List.length (l.drop 1):Nat):Int) ((i - 1:Nat):Int) ms.1 ms.2.1 w1 w2 (rd aY l (c:Int)).1 (rd aY l (c:Int)).2.1 x y) v:=by
     intro d
     induction d with
     | zero=>
      intro i c x y w1 w2 hi hi1 hc
      have hr:=rate c hc
      refine ⟨YU ms (x,(y,())) (rd aY l (c:Int)).1 (rd aY l (c:Int)).2.1,
       E2.eq (fun k m=>dR.aj k m l _ _ _ _ _ _ _ _ _ _ _) (E2.neg (by omega) (E2.bind (kM _ _) (E2.bind (uM _ _ (by omega) (by omega) (by omega) (by omega)) (E2.bind (Dk _ _) (E2.bind (kM _ _) ?_)))))⟩
      rw [MI ((rd aY l (c:Int)).1,(1,()))]
      exact MJ _ _ _ _ (Kn _)
     | succ d ih=>
      intro i c x y w1 w2 hi hi1 hc
      have hr:=rate c hc
      have hlt':i<l.length:=by omega
      have hrd:rd aY (l.drop 1) ((i - 1:Nat):Int)=rd aY l (i:Int):=by
       rw [dI (by simp;omega),dI hlt',List.getElem_drop]
       congr 1
       omega
      obtain ⟨t,et2,_⟩:=Sc l (rd aY l (i:Int)).1 hl
      have hw:IntKind.wrap .i64 (((i - 1:Nat):Int)+1)=((i+1 - 1:Nat):Int):=by rw [bE (by omega)];congr 1;omega
      by_cases cok:t.2.1=true
      ·by_cases cls:WG (ms.1,(ms.2.1,())) t.1=true
       ·refine ⟨YU ms (x,(y,())) (rd aY l (c:Int)).1 (rd aY l (c:Int)).2.1,
         E2.eq (fun k m=>dR.aj k m l _ _ _ _ _ _ _ _ _ _ _) (E2.pos (by omega) (E2.pos (by omega) (E2.pos (by omega) ?_)))⟩
        rw [hrd]
        refine E2.bind et2 (E2.neg (by simpa using cok) (E2.bind (Gs _ _) (E2.pos cls (E2.bind (kM _ _) (E2.bind (uM _ _ (by omega) (by omega) (by omega) (by omega)) (E2.bind (Dk _ _) (E2.bind (kM _ _) ?_)))))))
        rw [MI ((rd aY l (c:Int)).1,(1,()))]
        exact MJ _ _ _ _ (Kn _)
       ·obtain ⟨v,e2⟩:=ih (i+1) i t.1.1 t.1.2.1 w1 w2 (by omega) (by omega) hlt'
        refine ⟨v,E2.eq (fun k m=>dR.aj k m l _ _ _ _ _ _ _ _ _ _ _) (E2.pos (by omega) (E2.pos (by omega) (E2.pos (by omega) ?_)))⟩
        rw [hrd]
        refine E2.bind et2 (E2.neg (by simpa using cok) (E2.bind (Gs _ _) (E2.neg cls ?_)))
        rw [hw];exact e2
      ·refine ⟨Dp,E2.eq (fun k m=>dR.aj k m l _ _ _ _ _ _ _ _ _ _ _) (E2.pos (by omega) (E2.pos (by omega) (E2.pos (by omega) ?_)))⟩
       rw [hrd]
       exact E2.bind et2 (E2.pos cok E2.ret)
    obtain ⟨v,e2⟩:=key (l.length - 1) 1 0 0 1 0 0 (by omega) (by omega) (by omega)
    refine ⟨v,Ev.eq (fun k=>mG k l ms) (Ev.bind (mX l hl) (Ev.neg (by simpa using hp) (Ev.bind (bP ms) (Ev.neg (by simpa using hm) (Ev.neg hn (Ev.pos (by omega) (Ev.pos (by omega) (Ev.pos (by omega) (Ev.pos (by omega) ?_)))))))))⟩
    rw [ht]
    exact Ev.loop (f:=fun k m=>dR.l0 k m l (l.drop 1) ((List.length (l.drop 1):Nat):Int) 0 ms.1 ms.2.1 0 0 (rd aY l 0).1 (rd aY l 0).2.1 0 1) e2
  ·exact ⟨Dp,Ev.eq (fun k=>mG k l ms) (Ev.bind (mX l hl) (Ev.neg (by simpa using hp) (Ev.bind (bP ms) (Ev.pos (by simpa using hm) Ev.ret))))⟩
 ·exact ⟨Dp,Ev.eq (fun k=>mG k l ms) (Ev.bind (mX l hl) (Ev.pos (by simpa using hp) Ev.ret))⟩
theorem MO {o:cK} (h:Ev (fun k=>cu k o) true):Ev (fun k=>dV k o.2.2.2.1 o.1 o.2.2.2.2.1) true:=by
 obtain ⟨K,h⟩:=h
 refine ⟨K,fun k hk=>?_⟩
 have h:=h (k+1) (by omega)
 have h:cu (k+1) o=some true:=h
 rw [dW] at h
 obtain ⟨r1,_,h⟩:=Option.bind_eq_some_iff.1 h
 split at h
 case isFalse=>cases h
 obtain ⟨r2,_,h⟩:=Option.bind_eq_some_iff.1 h
 split at h
 case isFalse=>cases h
 obtain ⟨r3,_,h⟩:=Option.bind_eq_some_iff.1 h
 split at h
 case isFalse=>cases h
 obtain ⟨r4,_,h⟩:=Option.bind_eq_some_iff.1 h
 split at h
 case isFalse=>cases h
 obtain ⟨r5,_,h⟩:=Option.bind_eq_some_iff.1 h
 split at h
 case isFalse=>cases h
 obtain ⟨r6,h6,h⟩:=Option.bind_eq_some_iff.1 h
 split at h
 case isFalse=>cases h
 rename_i hr
 rw [hr] at h6
 exact h6
theorem MP {can:Nat->Int->Bool} {fq:Nat->Int} {len:Nat}:∀ (d:Nat) (t:List Int),(uH can fq len d t).1.length<=t.length+d
 | 0,t=>Nat.le_refl _
 | d+1,t=>by
  have key:∀ e,(lI (uH can fq len d) can fq len t e).1.length<=t.length+(d+1):=by
   intro e
   induction e with
   | zero=>exact Nat.le_add_right _ _
   | succ e ih=>
    unfold lI
    split
    ·exact ih
    ·split
     ·have:=MP (can:=can) (fq:=fq) (len:=len) d (t++[fq (len - (e+1))])
      rw [List.length_append,List.length_singleton] at this
      show (uH can fq len d (t++[fq (len - (e+1))])).1.length<=_
      omega
     ·exact ih
  exact key len
theorem Ux (l:List bT) (sc:List aC) (v:Int):(pV Go.gy.QK Go.gy.QN Go.gy.Bv l sc v).1.length<=4:=by
 unfold pV
 split
 ·rename_i h
  refine Nat.le_trans (MP _ _) ?_
  rw [List.length_nil]
  omega
 ·simp
theorem WR (l:List bT) (sc:List aC) (v:Int) (hok:Aq l sc):Ev (fun k=>tJ k l sc v) ((pV Go.gy.QK Go.gy.QN Go.gy.Bv l sc v).1,((pV Go.gy.QK Go.gy.QN Go.gy.Bv l sc v).2,())):=
 Ev.eq (fun k=>BN k l sc v) (by
  have:=PW Go.gy.QK Go.gy.QN Go.gy.Bv (v:=v) hok
  exact ⟨0,fun _ _=>this⟩)
theorem Ku {can:Nat->Int->Bool} {fq:Nat->Int} {len:Nat}:∀ (d:Nat) (t:List Int),(uH can fq len d t).2=true->(uH can fq len d t).1.length=t.length+d
 | 0,t,_=>rfl
 | d+1,t,h=>by
  have key:∀ e,(lI (uH can fq len d) can fq len t e).2=true->(lI (uH can fq len d) can fq len t e).1.length=t.length+(d+1):=by
   intro e
   induction e with
   | zero=>intro h;simp [lI] at h
   | succ e ih=>
    intro h
    simp only [lI] at h ⊢
    split at h
    ·rename_i c
     rw [if_pos c]
     exact ih h
    ·rename_i c
     rw [if_neg c]
     split at h
     ·rename_i c2
      rw [if_pos c2]
      have:=Ku (can:=can) (fq:=fq) (len:=len) d (t++[fq (len - (e+1))]) c2
      simp only [List.length_append,List.length_singleton] at this
      show (uH can fq len d (t++[fq (len - (e+1))])).1.length=_
      omega
     ·rename_i c2
      rw [if_neg c2]
      exact ih h
  exact key len h
theorem Sg (l:List bT) (sc:List aC) (v:Int) (h:(pV Go.gy.QK Go.gy.QN Go.gy.Bv l sc v).2=true):(((pV Go.gy.QK Go.gy.QN Go.gy.Bv l sc v).1.length:Nat):Int)=v:=by
 unfold pV at h ⊢
 split at h
 ·rename_i c
  rw [if_pos c]
  have:=Ku _ _ h
  simp only [List.length_nil] at this
  rw [this]
  omega
 ·cases h
def Iq (n:Nat) (o:cK) (P:cK->Prop) (f:Nat->Option (cK × (Bool × Unit))):Prop:=∃ v:cK × (Bool × Unit),Gd (n+1) v.1/\(v=(o,(false,()))\/v.2.1=true/\Ev (fun k=>cu k v.1) true/\P v.1)/\Ev f v
theorem Gv {n:Nat} (hn:n+1<=1000000) {o out:cK} {P:cK->Prop} {g:Nat->cK->Option (Bool × cK)} {ok:Bool} (h:Gd n o) (e:Ev (fun k=>g k o) (ok,out)) (hg:ok=true->Gd (n+1) out) (hP:ok=true->P out) :
  Iq n o P (fun k=>(aA k o).bind fun r1=>(g k r1).bind fun r2=>if ¬ (r2.1=true) then (aA k o).bind fun r3=>some (r3,(false,())) else (cu k r2.2).bind fun r4=>if ¬ (r4=true) then (aA k o).bind fun r5=>some (r5,(false,())) else some (r2.2,(true,()))):=by
 have b:=Gu h (by omega)
 have h':=xC h (Nat.le_succ n)
 by_cases c:ok=true
 ·obtain ⟨r,_,i1⟩:=yG out (MH (Gu (hg c) (by omega)))
  by_cases d:r=true
  ·exact ⟨(out,(true,())),hg c,.inr ⟨rfl,by rw [d] at i1;exact i1,hP c⟩,Ev.bind (wm _ b) (Ev.bind e (Ev.neg (by simpa using c) (Ev.bind i1 (Ev.neg (by simpa using d) Ev.ret))))⟩
  ·exact ⟨(o,(false,())),h',.inl rfl,Ev.bind (wm _ b) (Ev.bind e (Ev.neg (by simpa using c) (Ev.bind i1 (Ev.pos d (Ev.bind (wm _ b) Ev.ret)))))⟩
 ·exact ⟨(o,(false,())),h',.inl rfl,Ev.bind (wm _ b) (Ev.bind e (Ev.pos c (Ev.bind (wm _ b) Ev.ret)))⟩
theorem lX {n:Nat} {o:cK} {P:cK->Prop} {f g:Nat->Option (cK × (Bool × Unit))} (h:Iq n o P f) (hf:∀ v,Ev f v->Ev g (v.1,(decide (v.2.1=true),()))):Iq n o P g:=by
 obtain ⟨v,g1,g2,e1⟩:=h
 have hv:(v.1,(decide (v.2.1=true),()))=v:=by simp
 exact ⟨v,g1,g2,(hf v e1).val hv⟩
theorem AQ {n:Nat} {o:cK} {P:cK->Prop} {f F:Nat->Option (cK × (Bool × Unit))} (hF:∀ k,F (k+1)=f k) (h:Iq n o P f):Iq n o P F:=by
 obtain ⟨v,g1,g2,e1⟩:=h
 exact ⟨v,g1,g2,Ev.eq hF e1⟩
theorem Yu (l:List aC) (e:aC) (hl:l.length<=1048576):∃ p,p<=l.length/\(∀ j,j<p->ze (rd aP l (j:Int)) e)/\(p<l.length->¬ ze (rd aP l (p:Int)) e) /\
  Ev (fun k=>xQ k l e) (if dU (l.take p++[e]++l.drop p) then (l.take p++[e]++l.drop p,(true,())) else (l,(false,()))):=by
 obtain ⟨p,hp,h1,h2⟩:=nK (fun i=>ze (rd aP l (i:Int)) e) l.length
 have hm:(l.take p++[e]++l.drop p).length=l.length+1:=by simp;omega
 refine ⟨p,hp,h1,h2, ?_⟩
 have hi:Ev (fun k=>bg k l e) (if p<l.length then (p:Int) else -1):=by
  have key:∀ d i:Nat,i+d=p->E2 (fun k m=>bg.l0 k m l e ((List.length l:Nat):Int) (i:Int)) (if p<l.length then (p:Int) else -1):=by
   intro d
   induction d with
   | zero=>
    intro i hi
    have hi:i=p:=by omega
    subst hi
    refine E2.eq (fun k m=>bg.aj k m l e _ _) ?_
    by_cases c:i<l.length
    ·rw [if_pos c]
     exact E2.pos (by omega) (E2.pos (by omega) (E2.pos (by omega) (E2.bind (Tt _ _) (E2.pos (by simpa using h2 c) E2.ret))))
    ·rw [if_neg c]
     exact E2.neg (by omega) E2.ret
   | succ d ih=>
    intro i hi
    refine E2.eq (fun k m=>bg.aj k m l e _ _) (E2.pos (by omega) (E2.pos (by omega) (E2.pos (by omega) (E2.bind (Tt _ _) (E2.neg (by simpa using h1 i (by omega)) ?_)))))
    simp only [bE (show i<9223372036854775807 by omega)]
    exact ih (i+1) (by omega)
  exact Ev.eq (fun k=>qO k l e) (Ev.loop (f:=fun k m=>bg.l0 k m l e ((List.length l:Nat):Int) 0) (key p 0 (by omega)))
 have hins:Ev (fun k=>jE k l (p:Int) [e]) (l.take p++[e]++l.drop p):=by
  refine Ev.eq (f:=fun _=>some (l.take p++[e]++l.drop p)) (fun k=>?_) Ev.ret
  rw [vU]
  have:=tY (T:=aP) (B:=32) (l:=l) (i:=(p:Int)) (x:=e) (by omega) (by omega) (by omega)
  simpa using this
 have Xo:=pW (l.take p++[e]++l.drop p) (by omega)
 by_cases c:dU (l.take p++[e]++l.drop p)
 ·rw [if_pos c]
  refine Ev.eq (fun k=>yE k l e) (Ev.bind hi ?_)
  by_cases d:p<l.length
  ·rw [if_pos d]
   exact Ev.neg (by omega) (Ev.bind (jr _ hl) (Ev.bind hins (Ev.bind Xo (Ev.neg (by simpa using c) Ev.ret))))
  ·rw [if_neg d]
   have hpl:p=l.length:=by omega
   rw [hpl] at hins Xo c ⊢
   exact Ev.pos (by omega) (Ev.bind (jr _ hl) (Ev.bind hins (Ev.bind Xo (Ev.neg (by simpa using c) Ev.ret))))
 ·rw [if_neg c]
  refine Ev.eq (fun k=>yE k l e) (Ev.bind hi ?_)
  by_cases d:p<l.length
  ·rw [if_pos d]
   exact Ev.neg (by omega) (Ev.bind (jr _ hl) (Ev.bind hins (Ev.bind Xo (Ev.pos (by simpa using c) (Ev.bind (jr _ hl) Ev.ret)))))
  ·rw [if_neg d]
   have hpl:p=l.length:=by omega
   rw [hpl] at hins Xo c
   exact Ev.pos (by omega) (Ev.bind (jr _ hl) (Ev.bind hins (Ev.bind Xo (Ev.pos (by simpa using c) (Ev.bind (jr _ hl) Ev.ret)))))
theorem Kv {n:Nat} (hn:n+1<=1000000) {o out:cK} {P:cK->Prop} {ok:Bool} {e:aC} (h:Gd n o) (ec:Ev (fun k=>kG k o e) (ok,out)) (hg:ok=true->Gd (n+1) out) (hP:ok=true->P out):Iq n o P (fun k=>rU k o e):=
 lX (AQ (F:=fun k=>uY k o e) (fun k=>Da k o e) (Gv (g:=fun k r=>kG k r e) hn h ec hg hP)) fun v e1=>Ev.eq (fun k=>En k o e) (Ev.bind e1 Ev.ret)
theorem Si {n:Nat} (hn:n+1<=1000000) {o out:cK} {P:cK->Prop} {ok:Bool} {e:aC} (h:Gd n o) (ec:Ev (fun k=>mE k o e) (ok,out)) (hg:ok=true->Gd (n+1) out) (hP:ok=true->P out):Iq n o P (fun k=>rV k o e):=
 lX (AQ (F:=fun k=>sV k o e) (fun k=>BA k o e) (Gv (g:=fun k r=>mE k r e) hn h ec hg hP)) fun v e1=>Ev.eq (fun k=>Eo k o e) (Ev.bind e1 Ev.ret)
theorem Sj {n:Nat} (hn:n+1<=1000000) {o out:cK} {P:cK->Prop} {ok:Bool} {x:aZ} (h:Gd n o) (ec:Ev (fun k=>mF k o x) (ok,out)) (hg:ok=true->Gd (n+1) out) (hP:ok=true->P out):Iq n o P (fun k=>rW k o x):=
 lX (AQ (F:=fun k=>sW k o x) (fun k=>BD k o x) (Gv (g:=fun k r=>mF k r x) hn h ec hg hP)) fun v e1=>Ev.eq (fun k=>Ep k o x) (Ev.bind e1 Ev.ret)
theorem Uy {n:Nat} (hn:n+1<=1000000) {o out:cK} {P:cK->Prop} {ok:Bool} {v:Int} (h:Gd n o) (ec:Ev (fun k=>ny k o v) (ok,out)) (hg:ok=true->Gd (n+1) out) (hP:ok=true->P out):Iq n o P (fun k=>tZ k o v):=
 lX (AQ (F:=fun k=>sZ k o v) (fun k=>BF k o v) (Gv (g:=fun k r=>ny k r v) hn h ec hg hP)) fun w e1=>Ev.eq (fun k=>Fy k o v) (Ev.bind e1 Ev.ret)
theorem zy {n:Nat} (hn:n+1<=1000000) {o out:cK} {P:cK->Prop} {ok:Bool} {id:Int} (h:Gd n o) (ec:Ev (fun k=>kH k o id) (ok,out)) (hg:ok=true->Gd (n+1) out) (hP:ok=true->P out):Iq n o P (fun k=>rX k o id):=
 lX (AQ (F:=fun k=>tq k o id) (fun k=>BG k o id) (Gv (g:=fun k r=>kH k r id) hn h ec hg hP)) fun v e1=>Ev.eq (fun k=>Er k o id) (Ev.bind e1 Ev.ret)
theorem Uz {n:Nat} (hn:n+1<=1000000) {o out:cK} {P:cK->Prop} {ok:Bool} {p:bT} (h:Gd n o) (ec:Ev (fun k=>dx k o p) (ok,out)) (hg:ok=true->Gd (n+1) out) (hP:ok=true->P out):Iq n o P (fun k=>uf k o p):=
 lX (AQ (F:=fun k=>tu k o p) (fun k=>BH k o p) (Gv (g:=fun k r=>dx k r p) hn h ec hg hP)) fun v e1=>Ev.eq (fun k=>Fz k o p) (Ev.bind e1 Ev.ret)
theorem FR {n:Nat} (hn:n+1<=1000000) {o out:cK} {P:cK->Prop} {ok:Bool} {x:Int} (h:Gd n o) (ec:Ev (fun k=>nC k o x) (ok,out)) (hg:ok=true->Gd (n+1) out) (hP:ok=true->P out):Iq n o P (fun k=>uh k o x):=
 lX (AQ (F:=fun k=>tF k o x) (fun k=>BJ k o x) (Gv (g:=fun k r=>nC k r x) hn h ec hg hP)) fun v e1=>Ev.eq (fun k=>FD k o x) (Ev.bind e1 Ev.ret)
theorem UA {n:Nat} (hn:n+1<=1000000) {o out:cK} {P:cK->Prop} {ok:Bool} {x1 x2 x3 x4:Int} (h:Gd n o) (ec:Ev (fun k=>nA k o x1 x2 x3 x4) (ok,out)) (hg:ok=true->Gd (n+1) out) (hP:ok=true->P out):Iq n o P (fun k=>ug k o x1 x2 x3 x4):=
 lX (AQ (F:=fun k=>tC k o x1 x2 x3 x4) (fun k=>BI k o x1 x2 x3 x4) (Gv (g:=fun k r=>nA k r x1 x2 x3 x4) hn h ec hg hP)) fun v e1=>Ev.eq (fun k=>FC k o x1 x2 x3 x4) (Ev.bind e1 Ev.ret)
theorem aae {n:Nat} (hn:n+1<=1000000) {o:cK} (h:Gd n o) (e:aC):Iq n o (fun b=>e ∈ b.1/\Eq (α:=Int) b.2.2.2.2.2.2.2.1 (IntKind.wrap .i64 (o.2.2.2.2.2.2.2.1+1))) (fun k=>rU k o e):=by
 obtain ⟨p,hp,_,_,ep⟩:=Yu o.1 e (by have:=h.1;omega)
 have hm:(o.1.take p++[e]++o.1.drop p).length=o.1.length+1:=by simp;omega
 have hmem:e ∈ o.1.take p++[e]++o.1.drop p:=by simp
 generalize o.1.take p++[e]++o.1.drop p=L at ep hm hmem
 by_cases c:dU L
 ·rw [if_pos c] at ep
  have ec:Ev (fun k=>kG k o e) (true,(L,(o.2.1,(o.2.2.1,(o.2.2.2.1,(o.2.2.2.2.1,(o.2.2.2.2.2.1,(o.2.2.2.2.2.2.1,(IntKind.wrap .i64 (o.2.2.2.2.2.2.2.1+1),o.2.2.2.2.2.2.2.2))))))))):=Ev.eq (fun k=>vH k o e) (Ev.bind ep Ev.ret)
  exact Kv hn h ec (fun _=>Qo h (by have:=h.1;omega) _) fun _=>⟨hmem,rfl⟩
 ·rw [if_neg c] at ep
  have ec:Ev (fun k=>kG k o e) (false,(o.1,(o.2.1,(o.2.2.1,(o.2.2.2.1,(o.2.2.2.2.1,(o.2.2.2.2.2.1,(o.2.2.2.2.2.2.1,(IntKind.wrap .i64 (o.2.2.2.2.2.2.2.1+1),o.2.2.2.2.2.2.2.2))))))))):=Ev.eq (fun k=>vH k o e) (Ev.bind ep Ev.ret)
  exact Kv hn h ec (fun hh=>by cases hh) fun hh=>by cases hh
theorem WS (l:List aC) (e:aC) (hl:l.length<=1048576):∃ v:List aC × (Bool × Unit),(v.2.1=true->v.1.length<=l.length/\e ∉ v.1)/\Ev (fun k=>wL k l e) v:=by
 obtain ⟨p,hp,h1,h2⟩:=nK (fun i=>rd aP l (i:Int) ≠ e) l.length
 have hi:Ev (fun k=>bV k l e) (if p<l.length then (p:Int) else -1):=by
  have key:∀ d i:Nat,i+d=p->E2 (fun k m=>bV.l0 k m l ((List.length l:Nat):Int) (i:Int) e.1 e.2.1 e.2.2.1 e.2.2.2.1) (if p<l.length then (p:Int) else -1):=by
   intro d
   induction d with
   | zero=>
    intro i hi
    have hi:i=p:=by omega
    subst hi
    refine E2.eq (fun k m=>bV.aj k m l _ _ _ _ _ _) ?_
    by_cases c:i<l.length
    ·rw [if_pos c]
     have he:rd aP l (i:Int)=e:=Classical.not_not.1 (h2 c)
     exact E2.pos (by omega) (E2.pos (by omega) (E2.pos (by omega) (E2.pos ((WI _ _).2 he.symm) E2.ret)))
    ·rw [if_neg c]
     exact E2.neg (by omega) E2.ret
   | succ d ih=>
    intro i hi
    refine E2.eq (fun k m=>bV.aj k m l _ _ _ _ _ _) (E2.pos (by omega) (E2.pos (by omega) (E2.pos (by omega) (E2.neg (fun h=>h1 i (by omega) ((WI _ _).1 h).symm) ?_))))
    simp only [bE (show i<9223372036854775807 by omega)]
    exact ih (i+1) (by omega)
  exact Ev.eq (fun k=>wQ k l e) (Ev.loop (f:=fun k m=>bV.l0 k m l ((List.length l:Nat):Int) 0 e.1 e.2.1 e.2.2.1 e.2.2.2.1) (key p 0 (by omega)))
 have Xo:=bJ l hl
 by_cases d:p<l.length
 ·by_cases c:dU l
  ·have hk:=Qj c.1 d (Classical.not_not.1 (h2 d))
   have hdel:Ev (fun k=>lN k l (p:Int) (IntKind.wrap .i64 ((p:Int)+1))) (Ko l e l.length):=by
    refine Ev.eq (f:=fun _=>some (Ko l e l.length)) (fun k=>?_) Ev.ret
    rw [vV,bE (show p<9223372036854775807 by omega)]
    have:=BX (T:=aP) (l:=l) (i:=(p:Int)) (j:=((p+1:Nat):Int)) (by omega) (by omega) (by omega) (by omega)
    rw [hk]
    simpa using this
   refine ⟨(Ko l e l.length,(true,())),fun _=>⟨Um,fun hm=>?_⟩,Ev.eq (fun k=>sj k l e) (Ev.bind hi ?_)⟩
   ·have hm:e ∈ (l.take l.length).filter (fun x=>decide (x ≠ e)):=hm
    simp at hm
   ·rw [if_pos d]
    exact Ev.bind Xo (Ev.neg (by simpa using c) (Ev.neg (by omega) (Ev.bind (jr _ hl) (Ev.bind hdel Ev.ret))))
  ·exact ⟨(l,(false,())),fun h=>(by cases h),Ev.eq (fun k=>sj k l e) (Ev.bind hi (Ev.bind Xo (Ev.pos (by simpa using c) (Ev.bind (jr _ hl) Ev.ret))))⟩
 ·refine ⟨(l,(false,())),fun h=>(by cases h),Ev.eq (fun k=>sj k l e) (Ev.bind hi (Ev.bind Xo ?_))⟩
  rw [if_neg d]
  by_cases c:dU l
  ·exact Ev.neg (by simpa using c) (Ev.pos (by omega) (Ev.bind (jr _ hl) Ev.ret))
  ·exact Ev.pos (by simpa using c) (Ev.bind (jr _ hl) Ev.ret)
theorem aaf {n:Nat} (hn:n+1<=1000000) {o:cK} (h:Gd n o) (e:aC):Iq n o (fun b=>e ∉ b.1) (fun k=>rV k o e):=by
 obtain ⟨v,hv,ev⟩:=WS o.1 e (by have:=h.1;omega)
 have ec:Ev (fun k=>mE k o e) (decide (v.2.1=true),(v.1,(o.2.1,(o.2.2.1,(o.2.2.2.1,(o.2.2.2.2.1,(o.2.2.2.2.2.1,(o.2.2.2.2.2.2.1,(IntKind.wrap .i64 (o.2.2.2.2.2.2.2.1+1),o.2.2.2.2.2.2.2.2))))))))):=Ev.eq (fun k=>BL k o e) (Ev.bind ev Ev.ret)
 exact Si hn h ec (fun c=>Qo h (by have:=(hv (by simpa using c)).1;have:=h.1;omega) _) fun c=>(hv (by simpa using c)).2
theorem aag {n:Nat} (hn:n+1<=1000000) {o:cK} (h:Gd n o) (x:aZ):Iq n o (fun b=>∃ p,p<=o.2.2.1.length/\(∀ j,j<p->((rd aY o.2.2.1 (j:Int)).1:Int)<x.1)/\(p<o.2.2.1.length->¬ ((rd aY o.2.2.1 (p:Int)).1:Int)<x.1)/\b.2.2.1=Hl o.2.2.1 x p) (fun k=>rW k o x):=by
 have hl:o.2.2.1.length<=1048576:=by have:=h.2.1;omega
 obtain ⟨p,hp,h1,h2⟩:=nK (fun i=>((rd aY o.2.2.1 (i:Int)).1:Int)<x.1) o.2.2.1.length
 have hlen:=WH o.2.2.1 x p hp
 have hi:=Uk o.2.2.1 x hl p hp h1 h2
 have i1:Ev (fun k=>mF k o x) (true,(o.1,(o.2.1,(Hl o.2.2.1 x p,o.2.2.2)))):=by
  refine Ev.eq (fun k=>BM k o x) (Ev.bind hi ?_)
  by_cases c:p<o.2.2.1.length
  ·rw [if_pos c]
   refine Ev.neg (by omega) (Ev.pos (by omega) (Ev.pos (by omega) ?_))
   by_cases q:((rd aY o.2.2.1 (p:Int)).1:Int)=x.1
   ·refine Ev.pos q (Ev.pos (by omega) (Ev.pos (by omega) (Ev.ret.val ?_)))
    have e:List.set o.2.2.1 (Int.toNat (p:Int)) x=Hl o.2.2.1 x p:=by
     unfold Hl
     rw [if_pos ⟨c,q⟩,Int.toNat_natCast,List.set_eq_take_append_cons_drop,if_pos c]
     simp
    rw [e]
   ·have hins:Ev (fun k=>lM k o.2.2.1 (p:Int) [x]) (Hl o.2.2.1 x p):=by
     refine Ev.eq (f:=fun _=>some (Hl o.2.2.1 x p)) (fun k=>?_) Ev.ret
     rw [vT]
     have:=tY (T:=aY) (B:=16) (l:=o.2.2.1) (i:=(p:Int)) (x:=x) (by omega) (by omega) (by omega)
     unfold Hl
     rw [if_neg (fun h=>q h.2)]
     simpa using this
    exact Ev.neg q (Ev.bind hins Ev.ret)
  ·rw [if_neg c]
   refine Ev.pos (by omega) (Ev.pos (by simp only [List.length_singleton];omega) (Ev.ret.val ?_))
   have e:o.2.2.1++[x]=Hl o.2.2.1 x p:=by
    have:p=o.2.2.1.length:=by omega
    subst this
    unfold Hl
    rw [if_neg (fun h=>c h.1)]
    simp
   rw [e]
 have h':=xC h (Nat.le_succ n)
 exact Sj hn h i1 (fun _=>⟨h'.1,by have:=h.2.1;show (Hl o.2.2.1 x p).length<=_;omega,h'.2.2⟩) fun _=>⟨p,hp,h1,h2,rfl⟩
theorem abH {n:Nat} (h4:4<=n) (hn:n+1<=1000000) {o:cK} (h:Gd n o) (v:Int):Iq n o (fun b=>((b.2.2.2.2.1.length:Nat):Int)=v) (fun k=>tZ k o v):=by
 have b:=Gu h (by omega)
 have hok:Aq o.2.2.2.1 o.1:=⟨b.2.2.2.1.1,b.1.1,fun p hp=>(b.2.2.2.1.2 p hp).2.2.2.1.1⟩
 have ei:=WR o.2.2.2.1 o.1 v hok
 have hlen:=Ux o.2.2.2.1 o.1 v
 have htr:=Sg o.2.2.2.1 o.1 v
 generalize pV Go.gy.QK Go.gy.QN Go.gy.Bv o.2.2.2.1 o.1 v=R at ei hlen htr
 have ec:Ev (fun k=>ny k o v) (decide (R.2=true),(o.1,(o.2.1,(o.2.2.1,(o.2.2.2.1,(R.1,o.2.2.2.2.2)))))):=Ev.eq (fun k=>Dc k o v) (Ev.bind ei Ev.ret)
 have h':=xC h (Nat.le_succ n)
 exact Uy hn h ec (fun _=>⟨h'.1,h'.2.1,h'.2.2.1,by show R.1.length<=_;omega,h'.2.2.2.2⟩) fun c=>htr (by simpa using c)
theorem abI {n:Nat} (hn:n+1<=1000000) {o:cK} (h:Gd n o) (x:Int):Iq n o (fun b=>Eq (α:=Int) b.2.2.2.2.2.2.2.2.1 (IntKind.wrap .i64 (o.2.2.2.2.2.2.2.2.1+x))) (fun k=>uh k o x):=by
 have h':=xC h (Nat.le_succ n)
 by_cases c1:(1:Int)<=x/\x<=1000
 ·by_cases c2:(0:Int)<=o.2.2.2.2.2.2.2.2.1/\o.2.2.2.2.2.2.2.2.1<=100000
  ·have ec:Ev (fun k=>nC k o x) (true,(o.1,(o.2.1,(o.2.2.1,(o.2.2.2.1,(o.2.2.2.2.1,(o.2.2.2.2.2.1,(o.2.2.2.2.2.2.1,(o.2.2.2.2.2.2.2.1,(IntKind.wrap .i64 (o.2.2.2.2.2.2.2.2.1+x),())))))))))):=Ev.eq (fun k=>qK k o x) (Ev.bind (aB _ _ _) (Ev.neg (by simpa using c1) (Ev.bind (aB _ _ _) (Ev.neg (by simpa using c2) Ev.ret))))
   exact FR hn h ec (fun _=>h') fun _=>rfl
  ·exact FR (out:=o) (ok:=false) hn h (Ev.eq (fun k=>qK k o x) (Ev.bind (aB _ _ _) (Ev.neg (by simpa using c1) (Ev.bind (aB _ _ _) (Ev.pos (by simpa using c2) Ev.ret))))) (fun hh=>by cases hh) fun hh=>by cases hh
 ·exact FR (out:=o) (ok:=false) hn h (Ev.eq (fun k=>qK k o x) (Ev.bind (aB _ _ _) (Ev.pos (by simpa using c1) Ev.ret))) (fun hh=>by cases hh) fun hh=>by cases hh
theorem WT (l:List eX) (x:eX) (hl:l.length<=1048576):∃ v:List eX,v.length<=l.length+1/\Ev (fun k=>zq k l x) v:=by
 obtain ⟨p,hp,h1,h2⟩:=nK (fun i=>xS (rd gX l (i:Int)) x) l.length
 have hvl:=WJ l x p hp
 obtain ⟨a',WE,ha'⟩:=zx l hl
 obtain ⟨b',eb',hb'⟩:=Ci (Qk l x p) (by omega)
 by_cases c:a'=true
 ·have hq:=(ha'.1 c).1
  have h2':∀ j,p<=j->j<l.length->¬ xS (rd gX l (j:Int)) x:=fun j hpj hj hbj=>by
   rcases Nat.lt_or_ge p j with h | h
   ·have:=Uo hq (j - p - 1) p (by omega)
    rw [show p+(j - p - 1)+1=j by omega] at this
    exact h2 (by omega) (Kq this hbj)
   ·have:j=p:=by omega
    subst this
    exact h2 hj hbj
  have hi:=Ym l x hl p hp h1 h2'
  by_cases d:b'=true
  ·exact ⟨Qk l x p,hvl,Ev.eq (fun k=>vC k l x) (Ev.bind WE (Ev.pos c (Ev.bind (yH _ hl) (Ev.bind hi (Ev.bind eb' (Ev.pos d Ev.ret))))))⟩
  ·exact ⟨l,by omega,Ev.eq (fun k=>vC k l x) (Ev.bind WE (Ev.pos c (Ev.bind (yH _ hl) (Ev.bind hi (Ev.bind eb' (Ev.neg d (Ev.bind (yH _ hl) Ev.ret)))))))⟩
 ·exact ⟨l,by omega,Ev.eq (fun k=>vC k l x) (Ev.bind WE (Ev.neg c (Ev.bind (yH _ hl) Ev.ret)))⟩
theorem abJ {n:Nat} (hn:n+1<=1000000) {o:cK} (h:Gd n o) (x1 x2 x3 x4:Int):Iq n o (fun _=>True) (fun k=>ug k o x1 x2 x3 x4):=by
 have hl:o.2.2.2.2.2.1.length<=1048576:=by have:=h.2.2.2.2.1;omega
 obtain ⟨u,hu,p2⟩:=WT o.2.2.2.2.2.1 (x1,(x2,(x3,(o.2.2.2.2.2.2.2.2.1,(x4,()))))) hl
 obtain ⟨r,er,_⟩:=Yn o.2.2.2.2.2.1 u hl
 have h':=xC h (Nat.le_succ n)
 have ec:Ev (fun k=>nA k o x1 x2 x3 x4) (decide (¬ (r=true)),(o.1,(o.2.1,(o.2.2.1,(o.2.2.2.1,(o.2.2.2.2.1,(u,o.2.2.2.2.2.2))))))):=Ev.eq (fun k=>Dg k o x1 x2 x3 x4) (Ev.bind p2 (Ev.bind er Ev.ret))
 exact UA hn h ec (fun _=>⟨h'.1,h'.2.1,h'.2.2.1,h'.2.2.2.1,by have:=h.2.2.2.2.1;show u.length<=_;omega,h'.2.2.2.2.2⟩) fun _=>trivial
theorem Yv (l:List bT) (id:Int) (hl:l.length<=1048576):∃ p,p<=l.length/\(∀ j,j<p->¬ ((rd dL l (j:Int)).1:Int)=id)/\(p<l.length->((rd dL l (p:Int)).1:Int)=id)/\Ev (fun k=>aU k l id) (if p<l.length then (p:Int) else -1):=by
 obtain ⟨p,hp,h1,h2⟩:=nK (fun i=>¬ ((rd dL l (i:Int)).1:Int)=id) l.length
 refine ⟨p,hp,h1,fun c=>Classical.not_not.1 (h2 c), ?_⟩
 have key:∀ d i:Nat,i+d=p->E2 (fun k m=>aU.l0 k m l id ((List.length l:Nat):Int) (i:Int)) (if p<l.length then (p:Int) else -1):=by
  intro d
  induction d with
  | zero=>
   intro i hi
   have hi:i=p:=by omega
   subst hi
   refine E2.eq (fun k m=>aU.aj k m l id _ _) ?_
   by_cases c:i<l.length
   ·rw [if_pos c]
    exact E2.pos (by omega) (E2.pos (by omega) (E2.pos (by omega) (E2.bind (Ev.eq (fun k=>sJ k _ _) Ev.ret) (E2.pos (by simpa using Classical.not_not.1 (h2 c)) E2.ret))))
   ·rw [if_neg c]
    exact E2.neg (by omega) E2.ret
  | succ d ih=>
   intro i hi
   refine E2.eq (fun k m=>aU.aj k m l id _ _) (E2.pos (by omega) (E2.pos (by omega) (E2.pos (by omega) (E2.bind (Ev.eq (fun k=>sJ k _ _) Ev.ret) (E2.neg (by simpa using h1 i (by omega)) ?_)))))
   simp only [bE (show i<9223372036854775807 by omega)]
   exact ih (i+1) (by omega)
 exact Ev.eq (fun k=>ql k l id) (Ev.loop (f:=fun k m=>aU.l0 k m l id ((List.length l:Nat):Int) 0) (key p 0 (by omega)))
theorem Yw (l:List Int) (x:Int) (hl:l.length<=1048576):∃ p,p<=l.length/\Ev (fun k=>aD k l x) (if p<l.length then (p:Int) else -1):=by
 obtain ⟨p,hp,h1,h2⟩:=nK (fun i=>¬ Eq (α:=Int) x (rd (.int .i64) l (i:Int))) l.length
 refine ⟨p,hp, ?_⟩
 have key:∀ d i:Nat,i+d=p->E2 (fun k m=>aD.l0 k m l x ((List.length l:Nat):Int) (i:Int)) (if p<l.length then (p:Int) else -1):=by
  intro d
  induction d with
  | zero=>
   intro i hi
   have hi:i=p:=by omega
   subst hi
   refine E2.eq (fun k m=>aD.aj k m l x _ _) ?_
   by_cases c:i<l.length
   ·rw [if_pos c]
    exact E2.pos (by omega) (E2.pos (by omega) (E2.pos (by omega) (E2.pos (Classical.not_not.1 (h2 c)) E2.ret)))
   ·rw [if_neg c]
    exact E2.neg (by omega) E2.ret
  | succ d ih=>
   intro i hi
   refine E2.eq (fun k m=>aD.aj k m l x _ _) (E2.pos (by omega) (E2.pos (by omega) (E2.pos (by omega) (E2.neg (h1 i (by omega)) ?_))))
   simp only [bE (show i<9223372036854775807 by omega)]
   exact ih (i+1) (by omega)
 exact Ev.eq (fun k=>ji k l x) (Ev.loop (f:=fun k m=>aD.l0 k m l x ((List.length l:Nat):Int) 0) (key p 0 (by omega)))
theorem UC (l:List bT) (sc:List aC) (seats:List Int) (v:Int) {N:Nat} (hN:N<=1000000) (hl:vW N l) (hs:sc.length<=1048576) (h2:seats.length<=1048576):∃ r:Int × (Bool × Unit),Ev (fun k=>dP k l sc seats v) r:=by
 obtain ⟨a,ea,_⟩:=su l sc seats (Yq hl (by omega)) hs h2
 by_cases qa:a=true
 ·by_cases qc:1<=v/\v<=((List.length seats:Nat):Int)
  ·have hll:=hl.1
   have key:∀ (e i:Nat),i+e=l.length->∃ r:Int × (Bool × Unit),E2 (fun k m=>dP.l0 k m sc seats v l ((List.length l:Nat):Int) (i:Int)) r:=by
    intro e
    induction e with
    | zero=>intro i hi;exact ⟨_,E2.eq (fun k m=>dP.aj k m sc seats v l _ _) (E2.neg (by omega) E2.ret)⟩
    | succ e ihe=>
     intro i hi
     obtain ⟨r,er⟩:=ihe (i+1) (by omega)
     have h1:=jH seats (rd dL l (i:Int)).1 h2
     by_cases q:decide (((rd dL l (i:Int)).1:Int) ∈ seats)=true
     ·refine ⟨r,E2.eq (fun k m=>dP.aj k m sc seats v l _ _) (E2.pos (by omega) (E2.pos (by omega) (E2.pos (by omega) (E2.bind h1 (E2.neg (fun hh=>hh q) ?_)))))⟩
      simp only [bE (show i<9223372036854775807 by omega)]
      exact er
     ·have hv:(rd dL l (i:Int)).2.2.2.1.length<=1048576:=by
       rw [dI (show i<l.length by omega)]
       exact Nat.le_trans (hl.2 _ (List.getElem_mem _)) (by omega)
      obtain ⟨b,eb,_⟩:=zh (rd dL l (i:Int)) sc v hv hs
      by_cases qb:b=true
      ·exact ⟨_,E2.eq (fun k m=>dP.aj k m sc seats v l _ _) (E2.pos (by omega) (E2.pos (by omega) (E2.pos (by omega) (E2.bind h1 (E2.pos q (E2.bind eb (E2.pos qb E2.ret)))))))⟩
      ·refine ⟨r,E2.eq (fun k m=>dP.aj k m sc seats v l _ _) (E2.pos (by omega) (E2.pos (by omega) (E2.pos (by omega) (E2.bind h1 (E2.pos q (E2.bind eb (E2.neg qb ?_)))))))⟩
       simp only [bE (show i<9223372036854775807 by omega)]
       exact er
   obtain ⟨r,er⟩:=key l.length 0 (by omega)
   exact ⟨r,Ev.eq (fun k=>qN k l sc seats v) (Ev.bind ea (Ev.neg (fun hh=>hh qa) (Ev.bind (aB _ _ _) (Ev.neg (by simpa using qc) (Ev.loop (f:=fun k m=>dP.l0 k m sc seats v l ((List.length l:Nat):Int) 0) er)))))⟩
  ·exact ⟨_,Ev.eq (fun k=>qN k l sc seats v) (Ev.bind ea (Ev.neg (fun hh=>hh qa) (Ev.bind (aB _ _ _) (Ev.pos (by simpa using qc) Ev.ret))))⟩
 ·exact ⟨_,Ev.eq (fun k=>qN k l sc seats v) (Ev.bind ea (Ev.pos qa Ev.ret))⟩
theorem aah {n:Nat} (hn:n+1<=1000000) {o:cK} (h:Gd n o) (id:Int):Iq n o (fun b=>∃ p,p<o.2.2.2.1.length/\((rd dL o.2.2.2.1 (p:Int)).1:Int)=id/\b.2.2.2.1=o.2.2.2.1.take p++o.2.2.2.1.drop (p+1)) (fun k=>rX k o id):=by
 have hpl:=h.2.2.1
 have hlen:o.2.2.2.1.length<=n:=hpl.1
 have hsl:o.2.2.2.2.1.length<=n:=h.2.2.2.1
 obtain ⟨p,hp,_,h2,ep⟩:=Yv o.2.2.2.1 id (by omega)
 obtain ⟨q,hq,eq⟩:=Yw o.2.2.2.2.1 id (by omega)
 by_cases c:p<o.2.2.2.1.length
 ·rw [if_pos c] at ep
  have hdel:Ev (fun k=>jk k o.2.2.2.1 (p:Int) (IntKind.wrap .i64 ((p:Int)+1))) (o.2.2.2.1.take p++o.2.2.2.1.drop (p+1)):=by
   refine Ev.eq (f:=fun _=>some (o.2.2.2.1.take p++o.2.2.2.1.drop (p+1))) (fun k=>?_) Ev.ret
   rw [vw,bE (show p<9223372036854775807 by omega)]
   have:=BX (T:=dL) (l:=o.2.2.2.1) (i:=(p:Int)) (j:=((p+1:Nat):Int)) (by omega) (by omega) (by omega) (by omega)
   simpa using this
  have few:vW (n+1) (o.2.2.2.1.take p++o.2.2.2.1.drop (p+1)):=Kt hpl (by simp;omega) fun x hx=>(List.mem_append.1 hx).elim List.mem_of_mem_take List.mem_of_mem_drop
  by_cases d:q<o.2.2.2.2.1.length
  ·rw [if_pos d] at eq
   obtain ⟨r,er⟩:=UC o.2.2.2.1 o.1 o.2.2.2.2.1 (IntKind.wrap .i64 ((q:Int)+1)) (by omega) hpl (by have:=h.1;omega) (by omega)
   by_cases f:r.2.1=true
   ·have ec:Ev (fun k=>kH k o id) (true,(o.1,(o.2.1,(o.2.2.1,(o.2.2.2.1.take p++o.2.2.2.1.drop (p+1),(List.set o.2.2.2.2.1 (Int.toNat (q:Int)) r.1,o.2.2.2.2.2)))))):=
     Ev.eq (fun k=>lW k o id) (Ev.bind ep (Ev.neg (by omega) (Ev.bind eq (Ev.pos (by omega) (Ev.bind er (Ev.neg (fun hh=>hh f) (Ev.pos (by omega) (Ev.pos (by omega) (Ev.bind hdel Ev.ret)))))))))
    exact zy hn h ec (fun _=>Dl h few (by rw [List.length_set];omega)) fun _=>⟨p,c,h2 c,rfl⟩
   ·exact zy (out:=o) (ok:=false) hn h (Ev.eq (fun k=>lW k o id) (Ev.bind ep (Ev.neg (by omega) (Ev.bind eq (Ev.pos (by omega) (Ev.bind er (Ev.pos f Ev.ret))))))) (fun hh=>by cases hh) fun hh=>by cases hh
  ·rw [if_neg d] at eq
   have ec:Ev (fun k=>kH k o id) (true,(o.1,(o.2.1,(o.2.2.1,(o.2.2.2.1.take p++o.2.2.2.1.drop (p+1),o.2.2.2.2))))):=
    Ev.eq (fun k=>lW k o id) (Ev.bind ep (Ev.neg (by omega) (Ev.bind eq (Ev.neg (by omega) (Ev.bind hdel Ev.ret)))))
   exact zy hn h ec (fun _=>Dl (seats:=o.2.2.2.2.1) h few (by omega)) fun _=>⟨p,c,h2 c,rfl⟩
 ·rw [if_neg c] at ep
  exact zy (out:=o) (ok:=false) hn h (Ev.eq (fun k=>lW k o id) (Ev.bind ep (Ev.pos (by omega) Ev.ret))) (fun hh=>by cases hh) fun hh=>by cases hh
theorem abK {n:Nat} (hn:n+1<=1000000) {o:cK} (h:Gd n o) (p:bT) (hp:abG p):Iq n o (fun b=>b.2.2.2.1.length=o.2.2.2.1.length+1) (fun k=>uf k o p):=by
 have hpl:=h.2.2.1
 have hlen:o.2.2.2.1.length<=n:=hpl.1
 have bp:Bk dL p:=⟨trivial,trivial,trivial,⟨Nat.le_trans hp (by omega),fun _ _=>trivial⟩,trivial⟩
 have hone:vW 1 [p]:=⟨by simp,fun q hq=>by simp at hq;subst hq;exact hp⟩
 have key:∀ d i a:Nat,i+d=o.2.2.2.1.length->a<=i->∃ (ok:Bool) (ps:List bT),(ok=true->vW (n+1) ps/\ps.length=o.2.2.2.1.length+1)/\E2 (fun k m=>dx.l0 k m p (a:Int) ((List.length o.2.2.2.1:Nat):Int) (i:Int) o.2.1.1 o.2.1.2.1 o.2.2.2.2.2.2.2.1 o.2.2.2.2.2.2.2.2.1 o.2.2.2.1 o.1 o.2.2.1 o.2.2.2.2.1 o.2.2.2.2.2.1 o.2.2.2.2.2.2.1) (ok,(o.1,(o.2.1,(o.2.2.1,(ps,o.2.2.2.2))))):=by
  intro d
  induction d with
  | zero=>
   intro i a hi ha
   refine ⟨true,o.2.2.2.1.take a++[p]++o.2.2.2.1.drop a,fun _=>⟨?_,by simp;omega⟩, ?_⟩
   ·exact Qp (m:=n) (Qp (n:=n) (m:=1) (k:=n+1) (Kt hpl (by simp;omega) fun x hx=>List.mem_of_mem_take hx) hone (by simp;omega)) (Kt hpl (by simp;omega) fun x hx=>List.mem_of_mem_drop hx) (by simp;omega)
   ·have hins:Ev (fun k=>kR k o.2.2.2.1 (a:Int) [p]) (o.2.2.2.1.take a++[p]++o.2.2.2.1.drop a):=by
     refine Ev.eq (f:=fun _=>some (o.2.2.2.1.take a++[p]++o.2.2.2.1.drop a)) (fun k=>?_) Ev.ret
     rw [vB]
     have:=tY (T:=dL) (B:=48) (l:=o.2.2.2.1) (i:=(a:Int)) (x:=p) (by omega) (by omega) (by omega)
     simpa using this
    exact E2.eq (fun k m=>dx.aj k m _ _ _ _ _ _ _ _ _ _ _ _ _ _) (E2.neg (by omega) (E2.bind (MK p bp) (E2.bind hins E2.ret)))
  | succ d ih=>
   intro i a hi ha
   by_cases c:Eq (α:=Int) (rd dL o.2.2.2.1 (i:Int)).1 p.1
   ·exact ⟨false,o.2.2.2.1,fun hh=>(by cases hh),E2.eq (fun k m=>dx.aj k m _ _ _ _ _ _ _ _ _ _ _ _ _ _) (E2.pos (by omega) (E2.pos (by omega) (E2.pos (by omega) (E2.pos c E2.ret))))⟩
   ·by_cases f:LT.lt (α:=Int) (rd dL o.2.2.2.1 (i:Int)).1 p.1
    ·obtain ⟨ok,ps,g1,e1⟩:=ih (i+1) (a+1) (by omega) (by omega)
     refine ⟨ok,ps,g1,E2.eq (fun k m=>dx.aj k m _ _ _ _ _ _ _ _ _ _ _ _ _ _) (E2.pos (by omega) (E2.pos (by omega) (E2.pos (by omega) (E2.neg c (E2.pos f ?_)))))⟩
     simp only [bE (show i<9223372036854775807 by omega),bE (show a<9223372036854775807 by omega)]
     exact e1
    ·obtain ⟨ok,ps,g1,e1⟩:=ih (i+1) a (by omega) (by omega)
     refine ⟨ok,ps,g1,E2.eq (fun k m=>dx.aj k m _ _ _ _ _ _ _ _ _ _ _ _ _ _) (E2.pos (by omega) (E2.pos (by omega) (E2.pos (by omega) (E2.neg c (E2.neg f ?_)))))⟩
     simp only [bE (show i<9223372036854775807 by omega)]
     exact e1
 obtain ⟨ok,ps,g1,e1⟩:=key o.2.2.2.1.length 0 0 (by omega) (by omega)
 have ec:Ev (fun k=>dx k o p) (ok,(o.1,(o.2.1,(o.2.2.1,(ps,o.2.2.2.2))))):=Ev.eq (fun k=>Df k o p) (Ev.loop (f:=fun k m=>dx.l0 k m p 0 ((List.length o.2.2.2.1:Nat):Int) 0 o.2.1.1 o.2.1.2.1 o.2.2.2.2.2.2.2.1 o.2.2.2.2.2.2.2.2.1 o.2.2.2.1 o.1 o.2.2.1 o.2.2.2.2.1 o.2.2.2.2.2.1 o.2.2.2.2.2.2.1) e1)
 exact Uz hn h ec (fun c=>Dl (seats:=o.2.2.2.2.1) h (g1 c).1 (by have:=h.2.2.2.1;omega)) fun c=>(g1 c).2
theorem uN {n:Nat} {o:cK} {P Q:cK->Prop} {f:Nat->Option (cK × (Bool × Unit))} (h:Iq n o P f) (hP:∀ b,P b->Q b):Iq n o Q f:=by
 obtain ⟨v,g1,g2,e1⟩:=h
 exact ⟨v,g1,g2.imp id fun h=>⟨h.1,h.2.1,hP _ h.2.2⟩,e1⟩
theorem aai {n:Nat} (h4:4<=n) (hn:n+1<=1000000) {o:cK} (h:Gd n o) (x:oO) (hx:Qq x):Iq n o (fun _=>1<=(x.1:Int)/\(x.1:Int)<=8) (fun k=>CS k o x):=by
 by_cases c1:(x.1:Int)=1
 ·exact lX (uN (aae hn h x.2.2.1) fun _ _=>by omega) fun v e=>Ev.eq (fun k=>jF k o x) (Ev.pos c1 (Ev.bind e Ev.ret))
 by_cases c2:(x.1:Int)=2
 ·exact lX (uN (aaf hn h x.2.2.1) fun _ _=>by omega) fun v e=>Ev.eq (fun k=>jF k o x) (Ev.neg c1 (Ev.pos c2 (Ev.bind e Ev.ret)))
 by_cases c3:(x.1:Int)=3
 ·exact lX (uN (aag hn h x.2.2.2.1) fun _ _=>by omega) fun v e=>Ev.eq (fun k=>jF k o x) (Ev.neg c1 (Ev.neg c2 (Ev.pos c3 (Ev.bind e Ev.ret))))
 by_cases c4:(x.1:Int)=4
 ·exact lX (uN (abH h4 hn h x.2.1) fun _ _=>by omega) fun v e=>Ev.eq (fun k=>jF k o x) (Ev.neg c1 (Ev.neg c2 (Ev.neg c3 (Ev.pos c4 (Ev.bind e Ev.ret)))))
 by_cases c5:(x.1:Int)=5
 ·exact lX (uN (aah hn h x.2.1) fun _ _=>by omega) fun v e=>Ev.eq (fun k=>jF k o x) (Ev.neg c1 (Ev.neg c2 (Ev.neg c3 (Ev.neg c4 (Ev.pos c5 (Ev.bind e Ev.ret))))))
 by_cases c6:(x.1:Int)=6
 ·exact lX (uN (abK hn h x.2.2.2.2.1 hx) fun _ _=>by omega) fun v e=>Ev.eq (fun k=>jF k o x) (Ev.neg c1 (Ev.neg c2 (Ev.neg c3 (Ev.neg c4 (Ev.neg c5 (Ev.pos c6 (Ev.bind e Ev.ret)))))))
 by_cases c7:(x.1:Int)=7
 ·exact lX (uN (abJ hn h _ _ _ _) fun _ _=>by omega) fun v e=>Ev.eq (fun k=>jF k o x) (Ev.neg c1 (Ev.neg c2 (Ev.neg c3 (Ev.neg c4 (Ev.neg c5 (Ev.neg c6 (Ev.pos c7 (Ev.bind e Ev.ret))))))))
 by_cases c8:(x.1:Int)=8
 ·exact lX (uN (abI hn h x.2.1) fun _ _=>by omega) fun v e=>Ev.eq (fun k=>jF k o x) (Ev.neg c1 (Ev.neg c2 (Ev.neg c3 (Ev.neg c4 (Ev.neg c5 (Ev.neg c6 (Ev.neg c7 (Ev.pos c8 (Ev.bind e Ev.ret)))))))))
 ·exact ⟨(o,(false,())),xC h (Nat.le_succ n),.inl rfl,Ev.eq (fun k=>jF k o x) (Ev.neg c1 (Ev.neg c2 (Ev.neg c3 (Ev.neg c4 (Ev.neg c5 (Ev.neg c6 (Ev.neg c7 (Ev.neg c8 (Ev.bind (wm _ (Gu h (by omega))) Ev.ret)))))))))⟩
def isO (o:cK):Prop:=Ev (fun k=>cu k o) true
theorem UD (l:List Int) (hl:0<l.length):Dr (fun k c=>CV k c l) (fun x=>x ∈ l):=by
 intro c h
 obtain ⟨x,c1,h1,⟨h2,h3,_⟩,e1⟩:=dQ ((List.length l:Nat):Int) c h
 have h3:=h3 (by omega)
 refine ⟨_,c1,h1, ?_,Ev.eq (fun k=>Ll k c l) (Ev.bind e1 (Ev.pos h2 (Ev.pos h3 Ev.ret)))⟩
 obtain ⟨N,rfl⟩:=Int.eq_ofNat_of_zero_le h2
 show rd (.int .i64) l (N:Int) ∈ l
 rw [dI (show N<l.length by omega)]
 exact List.getElem_mem _
def mOk (m:aZ):Prop:=(1<=(m.1:Int)/\(m.1:Int)<=12)/\((m.2.1:Int)=1\/(m.2.1:Int)=2\/(m.2.1:Int)=4\/(m.2.1:Int)=8)
theorem UE {m:aZ} (h:mOk m):Ev (fun k=>vP k m) true:=by
 refine Ev.eq (fun k=>kT k m) (Ev.bind (aB _ _ _) (Ev.pos (by simpa using h.1) ?_))
 by_cases d1:(m.2.1:Int)=1
 ·exact Ev.pos d1 Ev.ret
 by_cases d2:(m.2.1:Int)=2
 ·exact Ev.neg d1 (Ev.pos d2 Ev.ret)
 by_cases d3:(m.2.1:Int)=4
 ·exact Ev.neg d1 (Ev.neg d2 (Ev.pos d3 Ev.ret))
 ·exact Ev.neg d1 (Ev.neg d2 (Ev.neg d3 (Ev.ret.val (decide_eq_true (((h.2.resolve_left d1).resolve_left d2).resolve_left d3)))))
theorem Qr:Dr (fun k c=>zk k c) mOk:=by
 intro c h
 obtain ⟨x1,c1,h1,hx,e1⟩:=dQ 4 c h
 obtain ⟨x2,c2,h2,hy,e2⟩:=UD [4,4,4,8,2] (by simp) c1 h1
 have:=hx.2.1 (by omega)
 have w:IntKind.wrap .i64 (2+x1)=2+x1:=fO (by omega) (by omega)
 refine ⟨_,c2,h2, ?_,Ev.eq (fun k=>GQ k c) (Ev.bind e1 (Ev.bind e2 Ev.ret))⟩
 have hy:x2 ∈ ([4,4,4,8,2]:List Int):=hy
 simp only [List.mem_cons,List.not_mem_nil,or_false] at hy
 refine ⟨⟨?_, ?_⟩, ?_⟩
 ·show 1<=IntKind.wrap .i64 (2+x1);omega
 ·show IntKind.wrap .i64 (2+x1)<=12;omega
 ·show x2=1\/x2=2\/x2=4\/x2=8;omega
theorem Zb {t:Ty} {s u:List t.den} {i:Nat} (h:i<s.length):rd t (s++u) (i:Int)=rd t s (i:Int):=by
 rw [dI h,dI (by rw [List.length_append];omega),List.getElem_append_left h]
theorem abM {t:Ty} {s:List t.den} {x:t.den}:rd t (s++[x]) (s.length:Int)=x:=by
 rw [dI (by simp),List.getElem_concat_length]
 rfl
def vcP (l:List bT):Prop:=l.length<=5/\∀ j:Nat,j<l.length->okP (rd dL l (j:Int))/\Eq (α:=Int) (rd dL l (j:Int)).1 ((j:Int)+1)
theorem Kw {l:List bT} (h:vcP l):ou l:=by
 have h5:=h.1
 refine ⟨fun i hi=>⟨(h.2 i hi).1, ?_,fun h0=>?_⟩,by simp;omega⟩
 ·have q:=(h.2 i hi).2
  exact ⟨show LE.le (α:=Int) 1 (rd dL l (i:Int)).1 by omega,show LE.le (α:=Int) (rd dL l (i:Int)).1 99 by omega⟩
 ·have q:=(h.2 i hi).2
  have q':=(h.2 (i - 1) (by omega)).2
  omega
theorem aal:NS [1,2,3] 1 4:=by
 intro i hi
 have:i=0\/i=1\/i=2:=by simp at hi;omega
 rcases this with rfl | rfl | rfl
 ·exact ⟨⟨by decide,by decide⟩,fun h=>absurd h (by omega)⟩
 ·exact ⟨⟨by decide,by decide⟩,fun _=>by decide⟩
 ·exact ⟨⟨by decide,by decide⟩,fun _=>by decide⟩
theorem Lr:Dr (fun k c=>fI k c) (fun r=>vW 10 r/\vcP r):=by
 intro c h
 have key:∀ (d i:Nat) (c:iH) (s:List bT),i+d=6->1<=i->Cj c->vW i s->s.length+1=i->vcP s->∃ r c',Cj c'/\(vW 10 r/\vcP r)/\E2 (fun k m=>fI.l0 k m (i:Int) c.1 c.2.1 c.2.2.1 s) (r,c'):=by
  intro d
  induction d with
  | zero=>
   intro i c s hi h1 h hs hl hv
   obtain ⟨x,c1,k1,⟨k2,k3,_⟩,e1⟩:=dQ 4 c h
   have:=k3 (by omega)
   refine ⟨s,c1,k1,⟨Bu hs (by omega),hv⟩,E2.eq (fun k m=>fI.aj k m _ _ _ _ s) (E2.bind e1 (E2.neg ?_ E2.ret))⟩
   rw [fO (by omega) (by omega)];omega
  | succ d ih=>
   intro i c s hi h1 h hs hl hv
   obtain ⟨x,c1,k1,⟨k2,k3,_⟩,e1⟩:=dQ 4 c h
   have:=k3 (by omega)
   by_cases q:(i:Int)<=IntKind.wrap .i64 (2+x)
   ·obtain ⟨x2,c2,k2',hx2,e2⟩:=dQ 18 c1 k1
    obtain ⟨x3,c3,k3',hx3,e3⟩:=dQ 12 c2 k2'
    have b2:=hx2.2.1 (by omega)
    have b3:=hx3.2.1 (by omega)
    have w2:IntKind.wrap .i64 (40+x2)=40+x2:=fO (by omega) (by omega)
    have w3:IntKind.wrap .i64 (76+x3)=76+x3:=fO (by omega) (by omega)
    have hv':vcP (s++[((i:Int),(IntKind.wrap .i64 (40+x2),(IntKind.wrap .i64 (76+x3),([1,2,3],()))))]):=by
     refine ⟨by rw [List.length_append,List.length_singleton];omega,fun j hj=>?_⟩
     rw [List.length_append,List.length_singleton] at hj
     by_cases cj:j<s.length
     ·rw [Zb cj];exact hv.2 j cj
     ·obtain rfl:j=s.length:=by omega
      rw [abM]
      refine ⟨⟨⟨?_, ?_⟩, ?_,aal⟩, ?_⟩
      ·show 21<=IntKind.wrap .i64 (40+x2);omega
      ·show IntKind.wrap .i64 (40+x2)<=IntKind.wrap .i64 (76+x3);omega
      ·show IntKind.wrap .i64 (76+x3)<=108;omega
      ·show (i:Int)=(s.length:Int)+1;omega
    obtain ⟨r,c',h',hr,e5⟩:=ih (i+1) c3 (s++[((i:Int),(IntKind.wrap .i64 (40+x2),(IntKind.wrap .i64 (76+x3),([1,2,3],()))))]) (by omega) (by omega) k3' (WO hs (by simp)) (by rw [List.length_append,List.length_singleton];omega) hv'
    have:=hs.1
    refine ⟨r,c',h',hr,E2.eq (fun k m=>fI.aj k m _ _ _ _ s) (E2.bind e1 (E2.pos q (E2.bind e2 (E2.bind e3 (E2.pos (by rw [List.length_singleton];omega) ?_)))))⟩
    simp only [bE (show i<9223372036854775807 by omega)]
    exact e5
   ·exact ⟨s,c1,k1,⟨Bu hs (by omega),hv⟩,E2.eq (fun k m=>fI.aj k m _ _ _ _ s) (E2.bind e1 (E2.neg q E2.ret))⟩
 obtain ⟨r,c',h',hr,e⟩:=key 5 1 c [] (by omega) (by omega) h ⟨by simp,by simp⟩ (by simp) ⟨by simp,fun j hj=>absurd hj (by simp)⟩
 exact ⟨r,c',h',hr,Ev.eq (fun k=>Eu k c) (Ev.loop (f:=fun k m=>fI.l0 k m 1 c.1 c.2.1 c.2.2.1 []) e)⟩
def wO (m:aZ) (ps:List bT) (sc:List aC) (i:Int):cK:=(sc,(m,([(0,(100,()))],(ps,([],([],([],(i,(0,())))))))))
theorem WU {m:aZ} {ps:List bT} {sc:List aC} {i:Int} (h:vW 10 ps) (hs:sc.length<=100):Gd 100 (wO m ps sc i):=
 ⟨hs,by simp [wO],Bu h (by omega),by simp [wO],by simp [wO],by simp [wO]⟩
theorem Zc {m:aZ} {ps:List bT} {sc:List aC} {i:Int} (hm:mOk m) (h:vW 10 ps) (hp:ou ps) (hs:dU sc) (hi:1<=i/\i<=9999):isO (wO m ps sc i):=by
 have hlen:sc.length<=40:=by have:=of_decide_eq_true hs.2;omega
 have s:=MH (Gu (WU (m:=m) (sc:=sc) (i:=i) h (by omega)) (by omega))
 obtain ⟨a',WE,ha'⟩:=zx [] (by simp)
 obtain ⟨b',eb',hb'⟩:=AP [] (by simp)
 obtain ⟨c',ec',hc'⟩:=su ps sc [] s.Ip s.score (by simp)
 have d3:mI [(0,(100,()))]:=⟨fun i hi=>by
  obtain rfl:i=0:=by simpa using hi
  exact ⟨⟨⟨by decide,by decide⟩,by decide,by decide⟩,fun _=>rfl,fun h=>absurd h (by omega)⟩,by decide⟩
 have d4:a'=true:=ha'.2 ⟨fun i hi=>absurd hi (by simp),by decide⟩
 have d5:b'=true:=hb'.2 ⟨fun i hi=>absurd hi (by simp),by decide⟩
 have d6:c'=true:=hc'.2 ⟨fun i hi=>absurd hi (by simp),hp,hs,by decide⟩
 refine Ev.eq (fun k=>dW k (wO m ps sc i)) (Ev.bind (bJ _ s.score) (Ev.pos (decide_eq_true (show dU (wO m ps sc i).1 from hs)) (Ev.bind (UE hm) ?_)))
 exact Ev.pos rfl (Ev.bind (gu _ s.xB) (Ev.pos (decide_eq_true (show mI (wO m ps sc i).2.2.1 from d3)) (Ev.bind WE (Ev.pos d4 (Ev.bind eb' (Ev.pos d5 (Ev.bind ec' (Ev.pos d6 (Ev.bind (aB _ _ _) (Ev.pos (decide_eq_true hi) (Ev.bind (aB _ _ _) (Ev.ret.val (by simp [wO])))))))))))))
theorem Od:Dr (fun k c=>xM k c) (fun o=>∃ m ps,o=wO m ps [] 1/\mOk m/\vW 10 ps/\vcP ps):=by
 intro c h
 obtain ⟨m,c1,h1,hm,e1⟩:=Qr c h
 obtain ⟨ps,c2,h2,⟨hps,hv⟩,e2⟩:=Lr c1 h1
 have d1:dU []:=⟨fun i hi=>absurd hi (by simp),by decide⟩
 have g:=WU (m:=m) (i:=1) hps (show ([]:List aC).length<=100 by simp)
 have b:=Gu g (by omega)
 have ii:=Zc (i:=1) hm hps (Kw hv) d1 (by omega)
 obtain ⟨r,i1,i2⟩:=yG (wO m ps [] 1) (MH b)
 obtain rfl:r=true:=Ev.uniq i2 ii
 have e3:Ev (fun k=>rZ k m ps) (wO m ps [] 1,(true,())):=Ev.eq (fun k=>AB k m ps) (Ev.bind (aac (wO m ps [] 1) b) (Ev.bind i1 (Ev.neg (by simp) Ev.ret)))
 exact ⟨wO m ps [] 1,c2,h2,⟨m,ps,rfl,hm,hps,hv⟩,Ev.eq (fun k=>Fx k c) (Ev.bind e1 (Ev.bind e2 (Ev.bind e3 Ev.ret)))⟩
theorem Yx {t:Ty} {l:List t.den} {i j:Nat} (h:i<j) (hj:j<=l.length):rd t (l.take j) (i:Int)=rd t l (i:Int):=by
 rw [dI (show i<l.length by omega),dI (by rw [List.length_take];omega),List.getElem_take]
theorem Qs (most:Int) (hm:most<=100):Dr (fun k c=>iO k c most) (fun l=>l.length<=301/\(∀ x ∈ l,Qq x)/\∃ x ∈ l,(x.1:Int)=4):=by
 intro c h
 obtain ⟨sc,c1,h1,hsc,e1⟩:=Qn c h
 have hsc:sc.length<=200:=hsc
 have e2:=Uw sc (by omega)
 have hwl:(yI sc).length=sc.length:=by simp [yI]
 have hwo:∀ x ∈ yI sc,Qq x:=fun x hx=>by
  obtain ⟨e,_,rfl⟩:=List.mem_map.1 hx
  show ([]:List Int).length<=3
  simp
 obtain ⟨n,c2,h2,hn,e3⟩:=dQ most c1 h1
 have key:∀ (d:Nat) (c:iH) (s:List oO),Cj c->s.length+d<=301->(∀ x ∈ s,Qq x)->(∃ x ∈ s,(x.1:Int)=4)->∃ (l:List oO) (c':iH),Cj c'/\(l.length<=301/\(∀ x ∈ l,Qq x)/\∃ x ∈ l,(x.1:Int)=4)/\E2 (fun k m=>iO.l0 k m (d:Int) c.1 c.2.1 c.2.2.1 s) (l,c'):=by
  intro d
  induction d with
  | zero=>
   intro c s hc hs ho h4
   exact ⟨s,c,hc,⟨by omega,ho,h4⟩,E2.eq (fun k m=>iO.aj k m _ _ _ _ _) (E2.neg (by omega) E2.ret)⟩
  | succ d ih=>
   intro c s hc hs ho h4
   obtain ⟨x,c',hc',hx,e⟩:=Uv c hc
   obtain ⟨l,c'',h3,h4,e'⟩:=ih c' (s++[x]) hc' (by simp;omega) (fun y hy=>(List.mem_append.1 hy).elim (ho y) (fun hy=>by simp at hy;rw [hy];exact hx)) (h4.imp fun y hy=>⟨List.mem_append_left _ hy.1,hy.2⟩)
   refine ⟨l,c'',h3,h4,E2.eq (fun k m=>iO.aj k m _ _ _ _ _) (E2.pos (by omega) (E2.bind e (E2.pos (by simp only [List.length_singleton];omega) ?_)))⟩
   have w:IntKind.wrap .i64 (((d+1:Nat):Int) - 1)=(d:Int):=by rw [fO (by omega) (by omega)];omega
   rw [w]
   exact e'
 obtain ⟨N,rfl⟩:=Int.eq_ofNat_of_zero_le hn.1
 have hN:N<=100:=by
  by_cases hm0:0<most
  ·have:=hn.2.1 hm0;omega
  ·have:=hn.2.2 (by omega);omega
 obtain ⟨l,c',h3,h4,e4⟩:=key N c2 (yI sc++[((4,(2,((0,(0,(0,(0,())))),((0,(0,())),((0,(0,(0,([],())))),((0,(0,(0,(0,(0,()))))),())))))):oO)]) h2 (by simp;omega) (fun y hy=>(List.mem_append.1 hy).elim (hwo y) (fun hy=>by
  simp at hy
  subst hy
  show ([]:List Int).length<=3
  simp)) ⟨_,List.mem_append_right _ (List.mem_singleton.2 rfl),rfl⟩
 exact ⟨l,c',h3,h4,Ev.eq (fun k=>GL k c most) (Ev.bind e1 (Ev.bind e2 (Ev.pos (by simp only [List.length_singleton];omega) (Ev.bind e3 (Ev.loop (f:=fun k m=>iO.l0 k m (N:Int) c2.1 c2.2.1 c2.2.2.1 (yI sc++[((4,(2,((0,(0,(0,(0,())))),((0,(0,())),((0,(0,(0,([],())))),((0,(0,(0,(0,(0,()))))),())))))):oO)])) e4)))))⟩
theorem Sk (code:List Int) (hc:code.length<=1048576):∃ (m:aZ) (ps:List bT) (l:List oO),mOk m/\vW 10 ps/\vcP ps/\(l.length<=301/\(∀ x ∈ l,Qq x)/\∃ x ∈ l,(x.1:Int)=4)/\Ev (fun k=>uV k code) (wO m ps [] 1,(l,())):=by
 obtain ⟨c,hc,e0⟩:=WQ code hc
 obtain ⟨o,c1,h1,⟨m,ps,rfl,hm,hf,hv⟩,e1⟩:=Od c hc
 obtain ⟨l,c2,h2,hl,e2⟩:=Qs 9 (by omega) c1 h1
 exact ⟨m,ps,l,hm,hf,hv,hl,Ev.eq (fun k=>CW k code) (Ev.bind e0 (Ev.bind e1 (Ev.bind e2 Ev.ret)))⟩
theorem Sl {o:cK} (h:isO o):Ev (fun k=>dM k o.2.2.1) true:=by
 obtain ⟨K,h⟩:=h
 refine ⟨K,fun k hk=>?_⟩
 have h:=h (k+1) (by omega)
 have h:cu (k+1) o=some true:=h
 rw [dW] at h
 obtain ⟨r1,_,h⟩:=Option.bind_eq_some_iff.1 h
 split at h
 case isFalse=>cases h
 obtain ⟨r2,_,h⟩:=Option.bind_eq_some_iff.1 h
 split at h
 case isFalse=>cases h
 obtain ⟨r3,h3,h⟩:=Option.bind_eq_some_iff.1 h
 split at h
 case isFalse=>cases h
 rename_i hr
 rw [hr] at h3
 exact h3
theorem Gw {o:cK} (h:isO o) (b:Sm o):Kl o.2.2.2.1 o.1 o.2.2.2.2.1:=by
 obtain ⟨r,er,hr⟩:=su o.2.2.2.1 o.1 o.2.2.2.2.1 b.Ip b.score b.seats
 exact hr.1 (Ev.uniq er (MO h))
theorem UF {o:cK} (h:isO o) (b:Sm o):mI o.2.2.1:=of_decide_eq_true (Ev.uniq (gu _ b.xB) (Sl h))
theorem UG {l:List aZ} (h:∀ i,i<l.length->QT l i):∀ d i:Nat,i+d+1<l.length->LT.lt (α:=Int) (rd aY l (i:Int)).1 (rd aY l ((i+d+1:Nat):Int)).1:=by
 intro d
 induction d with
 | zero=>intro i hi;exact (h (i+1) (by omega)).2.2 (by omega)
 | succ d ih=>intro i hi;exact Int.lt_trans (ih i (by omega)) ((h (i+(d+1)+1) (by omega)).2.2 (by omega))
theorem Qt (t:List Int) (f:List Int × (Int × Unit)) (hf:f.1.length<=100) (ht:t.length<=100):∃ r,Ev (fun k=>bQ k t f) r/\(r=true->f.1.length=t.length+1/\∀ i:Nat,i<f.1.length->LE.le (α:=Int) 0 (rd (.int .i64) f.1 (i:Int))/\LE.le (α:=Int) (rd (.int .i64) f.1 (i:Int)) 1000):=by
 have key:∀ (d i:Nat),i+d=f.1.length->(∀ j:Nat,j<i->LE.le (α:=Int) 0 (rd (.int .i64) f.1 (j:Int))/\LE.le (α:=Int) (rd (.int .i64) f.1 (j:Int)) 1000)->∃ r,E2 (fun k m=>bQ.l0 k m t f.1 ((List.length f.1:Nat):Int) (i:Int) f.1 f.2.1) r/\(r=true->f.1.length=t.length+1/\∀ i:Nat,i<f.1.length->LE.le (α:=Int) 0 (rd (.int .i64) f.1 (i:Int))/\LE.le (α:=Int) (rd (.int .i64) f.1 (i:Int)) 1000):=by
  intro d
  induction d with
  | zero=>
   intro i hi hb
   have w:IntKind.wrap .i64 (((List.length t:Nat):Int)+1)=((List.length t:Nat):Int)+1:=fO (by omega) (by omega)
   by_cases c1:(((List.length t:Nat):Int):Int)<=40
   ·by_cases c2:(((List.length f.1:Nat):Int):Int)=(IntKind.wrap .i64 (((List.length t:Nat):Int)+1))
    ·exact ⟨_,E2.eq (fun k m=>bQ.aj k m _ _ _ _ _ _) (E2.neg (by omega) (E2.pos c1 (E2.pos c2 (E2.bind (aB _ _ _) E2.ret)))),fun _=>⟨by omega,fun j hj=>hb j (by omega)⟩⟩
    ·exact ⟨false,E2.eq (fun k m=>bQ.aj k m _ _ _ _ _ _) (E2.neg (by omega) (E2.pos c1 (E2.neg c2 E2.ret))),fun h=>by cases h⟩
   ·exact ⟨false,E2.eq (fun k m=>bQ.aj k m _ _ _ _ _ _) (E2.neg (by omega) (E2.neg c1 E2.ret)),fun h=>by cases h⟩
  | succ d ih=>
   intro i hi hb
   by_cases c1:LE.le (α:=Int) 0 (rd (.int .i64) f.1 (i:Int))/\LE.le (α:=Int) (rd (.int .i64) f.1 (i:Int)) 1000
   ·obtain ⟨r,e,hr⟩:=ih (i+1) (by omega) (fun j hj=>by
     by_cases q:j=i
     ·subst q;exact c1
     ·exact hb j (by omega))
    by_cases c2:(0:Int)<(i:Int)
    ·have w:IntKind.wrap .i64 ((i:Int) - 1)=((i - 1:Nat):Int):=by rw [fO (by omega) (by omega)];omega
     by_cases c3:-1<=IntKind.wrap .i64 ((rd (.int .i64) f.1 (i:Int):Int) - (rd (.int .i64) f.1 (IntKind.wrap .i64 ((i:Int) - 1)):Int))/\IntKind.wrap .i64 ((rd (.int .i64) f.1 (i:Int):Int) - (rd (.int .i64) f.1 (IntKind.wrap .i64 ((i:Int) - 1)):Int))<=1
     ·refine ⟨r,E2.eq (fun k m=>bQ.aj k m _ _ _ _ _ _) (E2.pos (by omega) (E2.pos (by omega) (E2.pos (by omega) (E2.bind (aB _ _ _) (E2.neg (by simpa using c1) (E2.pos c2 (E2.pos (by omega) (E2.pos (by omega) (E2.bind (aB _ _ _) (E2.neg (by simpa using c3) ?_)))))))))),hr⟩
      simp only [bE (show i<9223372036854775807 by omega)]
      exact e
     ·exact ⟨false,E2.eq (fun k m=>bQ.aj k m _ _ _ _ _ _) (E2.pos (by omega) (E2.pos (by omega) (E2.pos (by omega) (E2.bind (aB _ _ _) (E2.neg (by simpa using c1) (E2.pos c2 (E2.pos (by omega) (E2.pos (by omega) (E2.bind (aB _ _ _) (E2.pos (by simpa using c3) E2.ret)))))))))),fun h=>by cases h⟩
    ·refine ⟨r,E2.eq (fun k m=>bQ.aj k m _ _ _ _ _ _) (E2.pos (by omega) (E2.pos (by omega) (E2.pos (by omega) (E2.bind (aB _ _ _) (E2.neg (by simpa using c1) (E2.neg c2 ?_)))))),hr⟩
     simp only [bE (show i<9223372036854775807 by omega)]
     exact e
   ·exact ⟨false,E2.eq (fun k m=>bQ.aj k m _ _ _ _ _ _) (E2.pos (by omega) (E2.pos (by omega) (E2.pos (by omega) (E2.bind (aB _ _ _) (E2.pos (by simpa using c1) E2.ret))))),fun h=>by cases h⟩
 obtain ⟨r,e,hr⟩:=key f.1.length 0 (by omega) (fun j hj=>absurd hj (by omega))
 exact ⟨r,Ev.eq (fun k=>Db k t f) (Ev.loop (f:=fun k m=>bQ.l0 k m t f.1 ((List.length f.1:Nat):Int) 0 f.1 f.2.1) e),hr⟩
theorem Qu (t:List Int) (ht:t.length<=100):∃ v:(List Int × (Int × Unit)) × (Bool × Unit),Ev (fun k=>dO k t) v/\(v.2.1=true->t.length<=40/\v.1.1.length=t.length+1/\LE.le (α:=Int) (rd (.int .i64) v.1.1 0) 0):=by
 by_cases c:(40:Int)<((List.length t:Nat):Int)
 ·exact ⟨_,Ev.eq (fun k=>sH k t) (Ev.pos c Ev.ret),fun h=>by cases h⟩
 ·have w:IntKind.wrap .i64 (((List.length t:Nat):Int)+1)=((t.length+1:Nat):Int):=by rw [fO (by omega) (by omega)];omega
  have key:∀ (d i:Nat) (s:List Int),i+d=t.length+1->s.length=i->(0<i->LE.le (α:=Int) (rd (.int .i64) s 0) 0)->∃ c:List Int,(c.length=t.length+1/\LE.le (α:=Int) (rd (.int .i64) c 0) 0)/\E2 (fun k m=>dO.l0 k m ((t.length+1:Nat):Int) (i:Int) 0 0 s) ((c,(0,())),(true,())):=by
   intro d
   induction d with
   | zero=>
    intro i s hi hs h0
    exact ⟨s,⟨by omega,h0 (by omega)⟩,E2.eq (fun k m=>dO.aj k m _ _ _ _ _) (E2.neg (by omega) E2.ret)⟩
   | succ d ih=>
    intro i s hi hs h0
    obtain ⟨c,hc,e⟩:=ih (i+1) (s++[(i:Int)]) (by omega) (by simp;omega) (fun _=>by
     by_cases q:i=0
     ·subst q
      obtain rfl:s=[]:=List.length_eq_zero_iff.1 hs
      exact Int.le_refl 0
     ·have:=Zb (t:=.int .i64) (s:=s) (u:=[(i:Int)]) (i:=0) (by omega)
      have h0:=h0 (by omega)
      exact this ▸ h0)
    refine ⟨c,hc,E2.eq (fun k m=>dO.aj k m _ _ _ _ _) (E2.pos (by omega) (E2.pos (by simp only [List.length_singleton];omega) ?_))⟩
    simp only [bE (show i<9223372036854775807 by omega)]
    exact e
  obtain ⟨s,hs,e⟩:=key (t.length+1) 0 [] (by omega) rfl (fun h=>absurd h (by omega))
  refine ⟨((s,(0,())),(true,())),Ev.eq (fun k=>sH k t) (Ev.neg c ?_),fun _=>⟨by omega,hs⟩⟩
  rw [w]
  exact Ev.loop (f:=fun k m=>dO.l0 k m ((t.length+1:Nat):Int) 0 0 0 []) e
theorem UH (a b:Int):Ev (fun k=>Az k a b) (if a ≠ b then 1 else 0):=by
 by_cases c:a ≠ b
 ·rw [if_pos c];exact Ev.eq (fun k=>AJ k a b) (Ev.pos c Ev.ret)
 ·rw [if_neg c];exact Ev.eq (fun k=>AJ k a b) (Ev.neg c Ev.ret)
theorem WV (f:List Int × (Int × Unit)) (hf:f.1.length<=100) {i:Nat} (hi:i<f.1.length) (hc:LE.le (α:=Int) (rd (.int .i64) f.1 (i:Int)) 0):∃ v:Int × (Int × Unit),Ev (fun k=>bX k f 0) v/\v.1<=(i:Int):=by
 have key:∀ (d j:Nat) (a b:Int),j+d=f.1.length->(0<=a->a<=(i:Int))->(i<j->0<=a)->∃ v:Int × (Int × Unit),E2 (fun k m=>bX.l0 k m 0 a b f.1 ((List.length f.1:Nat):Int) (j:Int)) v/\v.1<=(i:Int):=by
  intro d
  induction d with
  | zero=>
   intro j a b hj ha hb
   exact ⟨_,E2.eq (fun k m=>bX.aj k m _ _ _ _ _ _) (E2.neg (by omega) E2.ret),ha (hb (by omega))⟩
  | succ d ih=>
   intro j a b hj ha hb
   by_cases c1:LE.le (α:=Int) (rd (.int .i64) f.1 (j:Int)) 0
   ·by_cases c2:a<0
    ·obtain ⟨v,e,hv⟩:=ih (j+1) (j:Int) (j:Int) (by omega) (fun _=>by
      by_cases q:i<j
      ·have:=hb q;omega
      ·omega) (fun _=>by omega)
     refine ⟨v,E2.eq (fun k m=>bX.aj k m _ _ _ _ _ _) (E2.pos (by omega) (E2.pos (by omega) (E2.pos (by omega) (E2.pos c1 (E2.pos c2 ?_))))),hv⟩
     simp only [bE (show j<9223372036854775807 by omega)]
     exact e
    ·obtain ⟨v,e,hv⟩:=ih (j+1) a (j:Int) (by omega) ha (fun _=>by omega)
     refine ⟨v,E2.eq (fun k m=>bX.aj k m _ _ _ _ _ _) (E2.pos (by omega) (E2.pos (by omega) (E2.pos (by omega) (E2.pos c1 (E2.neg c2 ?_))))),hv⟩
     simp only [bE (show j<9223372036854775807 by omega)]
     exact e
   ·obtain ⟨v,e,hv⟩:=ih (j+1) a b (by omega) ha (fun q=>by
     by_cases hji:j=i
     ·subst hji;exact absurd hc c1
     ·exact hb (by omega))
    refine ⟨v,E2.eq (fun k m=>bX.aj k m _ _ _ _ _ _) (E2.pos (by omega) (E2.pos (by omega) (E2.pos (by omega) (E2.neg c1 ?_)))),hv⟩
    simp only [bE (show j<9223372036854775807 by omega)]
    exact e
 obtain ⟨v,e,hv⟩:=key f.1.length 0 (-1) (-1) (by omega) (fun h=>by omega) (fun h=>by omega)
 exact ⟨v,Ev.eq (fun k=>zM k f 0) (Ev.loop (f:=fun k m=>bX.l0 k m 0 (-1) (-1) f.1 ((List.length f.1:Nat):Int) 0) e),hv⟩
theorem aam (l:List aC) (u:Int) (hl:l.length<=1048576):∃ r:List aC,Ev (fun k=>dz k l 1 (-1) u) r/\r.length<=l.length/\∀ e ∈ r,(-1:Int)<e.1/\(e.1:Int)<=u:=by
 by_cases c:dU l
 ·have key:∀ (d i:Nat) (s:List aC),i+d=l.length->s.length<=i->(∀ e ∈ s,(-1:Int)<e.1/\(e.1:Int)<=u)->∃ r:List aC,E2 (fun k m=>dz.l0 k m 1 (-1) u l ((List.length l:Nat):Int) (i:Int) s) r/\r.length<=l.length/\∀ e ∈ r,(-1:Int)<e.1/\(e.1:Int)<=u:=by
   intro d
   induction d with
   | zero=>
    intro i s hi hs he
    exact ⟨s,E2.eq (fun k m=>dz.aj k m _ _ _ _ _ _ _) (E2.neg (by omega) E2.ret),by omega,he⟩
   | succ d ih=>
    intro i s hi hs he
    by_cases c1:Ne (α:=Int) (rd aP l (i:Int)).2.2.2.1 1
    ·by_cases c2:LT.lt (α:=Int) (-1) (rd aP l (i:Int)).1
     ·by_cases c3:LE.le (α:=Int) (rd aP l (i:Int)).1 u
      ·obtain ⟨r,e,hr⟩:=ih (i+1) (s++[rd aP l (i:Int)]) (by omega) (by simp;omega) (fun x hx=>(List.mem_append.1 hx).elim (he x) (fun hx=>by
        rw [List.mem_singleton.1 hx];exact ⟨c2,c3⟩))
       refine ⟨r,E2.eq (fun k m=>dz.aj k m _ _ _ _ _ _ _) (E2.pos (by omega) (E2.pos (by omega) (E2.pos (by omega) (E2.pos c1 (E2.pos c2 (E2.pos c3 (E2.pos (by simp only [List.length_singleton];omega) ?_))))))),hr⟩
       simp only [bE (show i<9223372036854775807 by omega)]
       exact e
      ·obtain ⟨r,e,hr⟩:=ih (i+1) s (by omega) (by omega) he
       refine ⟨r,E2.eq (fun k m=>dz.aj k m _ _ _ _ _ _ _) (E2.pos (by omega) (E2.pos (by omega) (E2.pos (by omega) (E2.pos c1 (E2.pos c2 (E2.neg c3 ?_)))))),hr⟩
       simp only [bE (show i<9223372036854775807 by omega)]
       exact e
     ·obtain ⟨r,e,hr⟩:=ih (i+1) s (by omega) (by omega) he
      refine ⟨r,E2.eq (fun k m=>dz.aj k m _ _ _ _ _ _ _) (E2.pos (by omega) (E2.pos (by omega) (E2.pos (by omega) (E2.pos c1 (E2.neg c2 ?_))))),hr⟩
      simp only [bE (show i<9223372036854775807 by omega)]
      exact e
    ·obtain ⟨r,e,hr⟩:=ih (i+1) s (by omega) (by omega) he
     refine ⟨r,E2.eq (fun k m=>dz.aj k m _ _ _ _ _ _ _) (E2.pos (by omega) (E2.pos (by omega) (E2.pos (by omega) (E2.neg c1 ?_)))),hr⟩
     simp only [bE (show i<9223372036854775807 by omega)]
     exact e
  obtain ⟨r,e,hr⟩:=key l.length 0 [] (by omega) (by simp) (by simp)
  exact ⟨r,Ev.eq (fun k=>xA k l 1 (-1) u) (Ev.bind (bJ l hl) (Ev.pos (decide_eq_true c) (Ev.loop (f:=fun k m=>dz.l0 k m 1 (-1) u l ((List.length l:Nat):Int) 0 []) e))),hr⟩
 ·exact ⟨[],Ev.eq (fun k=>xA k l 1 (-1) u) (Ev.bind (bJ l hl) (Ev.neg (by simpa using c) Ev.ret)),by simp,by simp⟩
def Stuck (t:List Int) (f:List Int × (Int × Unit)):Prop:=Ev (fun k=>bQ k t f) false\/500<f.2.1
theorem Yy {s:List Int} {i:Nat} {x:Int} (h:i<s.length):Eq (α:=Int) (rd (.int .i64) (List.set s i x) (i:Int)) x:=by
 rw [dI (t:=.int .i64) (l:=List.set s i x) (by rw [List.length_set];exact h)]
 exact List.getElem_set_self ..
theorem Yz {s:List Int} {i j:Nat} {x:Int} (h:j<s.length) (hij:i ≠ j):Eq (α:=Int) (rd (.int .i64) (List.set s i x) (j:Int)) (rd (.int .i64) s (j:Int)):=by
 rw [dI (t:=.int .i64) (l:=List.set s i x) (by rw [List.length_set];exact h),dI (t:=.int .i64) (l:=s) h]
 exact List.getElem_set_ne hij ..
theorem Sn (t:List Int) (f:List Int × (Int × Unit)) (p:Int) (ht:t.length<=50) (hf:f.1.length<=60):∃ v:List Int × (Int × Unit),Ev (fun k=>eP k t f p) v/\v.1.length=f.1.length/\(Stuck t f->v=f)/\(v=f/\Stuck t f\/∀ j:Nat,j<t.length->LE.le (α:=Int) (rd (.int .i64) v.1 ((j+1:Nat):Int)) ((rd (.int .i64) f.1 (j:Int):Int)+(if Ne (α:=Int) (rd (.int .i64) t (j:Int)) p then 1 else 0))):=by
 obtain ⟨r,er,hr⟩:=Qt t f (by omega) (by omega)
 have ec:=FN f.1 (by omega)
 by_cases c1:r=true
 ·by_cases c2:500<f.2.1
  ·exact ⟨f,Ev.eq (fun k=>oG k t f p) (Ev.bind ec (Ev.bind er (Ev.neg (fun h=>h c1) (Ev.pos c2 Ev.ret)))),rfl,fun _=>rfl,.inl ⟨rfl,.inr c2⟩⟩
  ·obtain ⟨h1,h2⟩:=hr c1
   have key:∀ (d i:Nat) (s:List Int),i+d=t.length->s.length=f.1.length->(∀ j:Nat,j<i->LE.le (α:=Int) (rd (.int .i64) s ((j+1:Nat):Int)) ((rd (.int .i64) f.1 (j:Int):Int)+(if Ne (α:=Int) (rd (.int .i64) t (j:Int)) p then 1 else 0)))->∃ v:List Int,v.length=f.1.length/\(∀ j:Nat,j<t.length->LE.le (α:=Int) (rd (.int .i64) v ((j+1:Nat):Int)) ((rd (.int .i64) f.1 (j:Int):Int)+(if Ne (α:=Int) (rd (.int .i64) t (j:Int)) p then 1 else 0)))/\E2 (fun k m=>eP.l0 k m p t ((List.length t:Nat):Int) (i:Int) f.1 f.2.1 0 (IntKind.wrap .i64 (f.2.1+1)) s) (v,(IntKind.wrap .i64 (f.2.1+1),())):=by
    intro d
    induction d with
    | zero=>
     intro i s hi hs hj
     exact ⟨s,hs,fun j h=>hj j (by omega),E2.eq (fun k m=>eP.aj k m _ _ _ _ _ _ _ _ _) (E2.neg (by omega) E2.ret)⟩
    | succ d ih=>
     intro i s hi hs hj
     have b:=h2 i (by omega)
     have w:IntKind.wrap .i64 ((i:Int)+1)=((i+1:Nat):Int):=bE (by omega)
     have wc:IntKind.wrap .i64 ((rd (.int .i64) f.1 (i:Int):Int)+(if Ne (α:=Int) (rd (.int .i64) t (i:Int)) p then 1 else 0))=(rd (.int .i64) f.1 (i:Int):Int)+(if Ne (α:=Int) (rd (.int .i64) t (i:Int)) p then 1 else 0):=by
      have:((if Ne (α:=Int) (rd (.int .i64) t (i:Int)) p then 1 else 0):Int)=1\/((if Ne (α:=Int) (rd (.int .i64) t (i:Int)) p then 1 else 0):Int)=0:=by
       by_cases q:Ne (α:=Int) (rd (.int .i64) t (i:Int)) p
       ·rw [if_pos q];exact .inl rfl
       ·rw [if_neg q];exact .inr rfl
      exact fO (by omega) (by omega)
     obtain ⟨v,h3,h4,e⟩:=ih (i+1) (List.set s (Int.toNat (IntKind.wrap .i64 ((i:Int)+1))) (min (min (IntKind.wrap .i64 ((rd (.int .i64) f.1 (IntKind.wrap .i64 ((i:Int)+1)))+1)) (IntKind.wrap .i64 ((rd (.int .i64) s (i:Int))+1)):Int) (IntKind.wrap .i64 ((rd (.int .i64) f.1 (i:Int))+(if Ne (α:=Int) (rd (.int .i64) t (i:Int)) p then 1 else 0))):Int)) (by omega) (by rw [List.length_set];exact hs) (fun j hji=>by
      rw [w,Int.toNat_natCast]
      by_cases q:j=i
      ·subst q
       rw [Yy (by omega)]
       have:=Int.min_le_right (min (IntKind.wrap .i64 ((rd (.int .i64) f.1 ((j+1:Nat):Int))+1)) (IntKind.wrap .i64 ((rd (.int .i64) s (j:Int))+1)):Int) (IntKind.wrap .i64 ((rd (.int .i64) f.1 (j:Int))+(if Ne (α:=Int) (rd (.int .i64) t (j:Int)) p then 1 else 0)))
       exact Int.le_trans this (Int.le_of_eq wc)
      ·rw [Yz (by omega) (by omega)]
       exact hj j (by omega))
     refine ⟨v,h3,h4,E2.eq (fun k m=>eP.aj k m _ _ _ _ _ _ _ _ _) (E2.pos (by omega) (E2.pos (by omega) (E2.pos (by omega) (E2.pos (by omega) (E2.pos (by omega) (E2.pos (by omega) (E2.pos (by omega) (E2.pos (by omega) (E2.pos (by omega) (E2.bind (UH _ _) (E2.pos (by omega) (E2.pos (by omega) ?_))))))))))))⟩
     rw [<- w] at e
     exact e
   obtain ⟨v,h3,h4,e⟩:=key t.length 0 (List.set f.1 (Int.toNat 0) (IntKind.wrap .i64 ((rd (.int .i64) f.1 0)+1))) (by omega) (by rw [List.length_set]) (fun j hj=>absurd hj (by omega))
   refine ⟨(v,(IntKind.wrap .i64 (f.2.1+1),())),Ev.eq (fun k=>oG k t f p) (Ev.bind ec (Ev.bind er (Ev.neg (fun h=>h c1) (Ev.neg c2 (Ev.pos (Nat.le_refl 0) (Ev.pos (show (0:Int)<((List.length f.1:Nat):Int) by omega) (Ev.pos (Nat.le_refl 0) (Ev.pos (show (0:Int)<((List.length f.1:Nat):Int) by omega) (Ev.loop (f:=fun k m=>eP.l0 k m p t ((List.length t:Nat):Int) 0 f.1 f.2.1 0 (IntKind.wrap .i64 (f.2.1+1)) (List.set f.1 (Int.toNat 0) (IntKind.wrap .i64 ((rd (.int .i64) f.1 0)+1)))) e))))))))),h3,fun hs=>?_,.inr h4⟩
   rcases hs with hs | hs
   ·exact absurd ((Ev.uniq er hs).symm.trans c1) (by simp)
   ·exact absurd hs c2
 ·have er':Ev (fun k=>bQ k t f) false:=by rw [show r=false by simpa using c1] at er;exact er
  exact ⟨f,Ev.eq (fun k=>oG k t f p) (Ev.bind ec (Ev.bind er (Ev.pos c1 Ev.ret))),rfl,fun _=>rfl,.inl ⟨rfl,.inl er'⟩⟩
def YA (a:List Int):Prop:=∀ i j:Nat,i<=j->j<a.length->LE.le (α:=Int) 0 (rd (.int .i64) a (i:Int))/\LE.le (α:=Int) (rd (.int .i64) a (i:Int)) (rd (.int .i64) a (j:Int))
theorem Qv (q:List Int × (List Int × Unit)) (h1:q.1.length<=100) (h2:q.2.1.length<=100):∃ r,Ev (fun k=>gD k q) r:=by
 have key:∀ (d i:Nat),i+d=q.2.1.length->∃ r,E2 (fun k m=>gD.l0 k m q.2.1 ((List.length q.2.1:Nat):Int) (i:Int) q.1 q.2.1) r:=by
  intro d
  induction d with
  | zero=>
   intro i hi
   by_cases c1:(((List.length q.1:Nat):Int):Int)<=40
   ·exact ⟨_,E2.eq (fun k m=>gD.aj k m _ _ _ _ _) (E2.neg (by omega) (E2.pos c1 E2.ret))⟩
   ·exact ⟨_,E2.eq (fun k m=>gD.aj k m _ _ _ _ _) (E2.neg (by omega) (E2.neg c1 E2.ret))⟩
  | succ d ih=>
   intro i hi
   obtain ⟨r,e⟩:=ih (i+1) (by omega)
   by_cases c1:LE.le (α:=Int) 0 (rd (.int .i64) q.2.1 (i:Int))/\LE.le (α:=Int) (rd (.int .i64) q.2.1 (i:Int)) 2000
   ·by_cases c2:(0:Int)<(i:Int)
    ·have w:IntKind.wrap .i64 ((i:Int) - 1)=((i - 1:Nat):Int):=by rw [fO (by omega) (by omega)];omega
     by_cases c3:LT.lt (α:=Int) (rd (.int .i64) q.2.1 (i:Int)) (rd (.int .i64) q.2.1 (IntKind.wrap .i64 ((i:Int) - 1)))
     ·exact ⟨_,E2.eq (fun k m=>gD.aj k m _ _ _ _ _) (E2.pos (by omega) (E2.pos (by omega) (E2.pos (by omega) (E2.bind (aB _ _ _) (E2.neg (by simpa using c1) (E2.pos c2 (E2.pos (by omega) (E2.pos (by omega) (E2.pos c3 E2.ret)))))))))⟩
     ·refine ⟨r,E2.eq (fun k m=>gD.aj k m _ _ _ _ _) (E2.pos (by omega) (E2.pos (by omega) (E2.pos (by omega) (E2.bind (aB _ _ _) (E2.neg (by simpa using c1) (E2.pos c2 (E2.pos (by omega) (E2.pos (by omega) (E2.neg c3 ?_)))))))))⟩
      simp only [bE (show i<9223372036854775807 by omega)]
      exact e
    ·refine ⟨r,E2.eq (fun k m=>gD.aj k m _ _ _ _ _) (E2.pos (by omega) (E2.pos (by omega) (E2.pos (by omega) (E2.bind (aB _ _ _) (E2.neg (by simpa using c1) (E2.neg c2 ?_))))))⟩
     simp only [bE (show i<9223372036854775807 by omega)]
     exact e
   ·exact ⟨_,E2.eq (fun k m=>gD.aj k m _ _ _ _ _) (E2.pos (by omega) (E2.pos (by omega) (E2.pos (by omega) (E2.bind (aB _ _ _) (E2.pos (by simpa using c1) E2.ret)))))⟩
 obtain ⟨r,e⟩:=key q.2.1.length 0 (by omega)
 exact ⟨r,Ev.eq (fun k=>Lj k q) (Ev.loop (f:=fun k m=>gD.l0 k m q.2.1 ((List.length q.2.1:Nat):Int) 0 q.1 q.2.1) e)⟩
theorem Qw (q:List Int × (List Int × Unit)) (f:List Int × (Int × Unit)) (h1:q.1.length<=50) (h2:q.2.1.length=q.1.length) (ha:YA q.2.1) (hf:f.1.length=q.1.length+1) {i j:Nat} (hij:i<=j+1) (hj:j<q.1.length) (hi:i<f.1.length) (hc:LE.le (α:=Int) (rd (.int .i64) f.1 (i:Int)) 0):∃ v:Int,Ev (fun k=>xP k q f 0) v/\LE.le (α:=Int) v (rd (.int .i64) q.2.1 (j:Int)):=by
 obtain ⟨v,e,hv⟩:=WV f (by omega) hi hc
 obtain ⟨r2,e2⟩:=Qv q (by omega) (by omega)
 obtain ⟨r3,e3,_⟩:=Qt q.1 f (by omega) (by omega)
 have h0:LE.le (α:=Int) (-1) (rd (.int .i64) q.2.1 (j:Int)):=Int.le_trans (show (-1:Int)<=0 by omega) (ha j j (by omega) (by omega)).1
 by_cases c1:v.1<1
 ·exact ⟨-1,Ev.eq (fun k=>oW k q f 0) (Ev.bind e (Ev.pos c1 Ev.ret)),h0⟩
 by_cases c2:r2=true
 ·by_cases c3:r3=true
  ·have w:IntKind.wrap .i64 (v.1 - 1)=v.1 - 1:=fO (by omega) (by omega)
   obtain ⟨N,hN⟩:=Int.eq_ofNat_of_zero_le (show 0<=v.1 - 1 by omega)
   refine ⟨_,Ev.eq (fun k=>oW k q f 0) (Ev.bind e (Ev.neg c1 (Ev.bind e2 (Ev.neg (fun h=>h c2) (Ev.bind e3 (Ev.neg (fun h=>h c3) (Ev.pos (by omega) (Ev.pos (by omega) Ev.ret)))))))), ?_⟩
   rw [w,hN]
   exact (ha N j (by omega) (by omega)).2
  ·exact ⟨-1,Ev.eq (fun k=>oW k q f 0) (Ev.bind e (Ev.neg c1 (Ev.bind e2 (Ev.neg (fun h=>h c2) (Ev.bind e3 (Ev.pos c3 Ev.ret)))))),h0⟩
 ·exact ⟨-1,Ev.eq (fun k=>oW k q f 0) (Ev.bind e (Ev.neg c1 (Ev.bind e2 (Ev.pos c2 Ev.ret)))),h0⟩
def abN (a:List Int) (j:Nat) (u:Int):Prop:=(j=0->u = -1)/\∀ i:Nat,j=i+1->LE.le (α:=Int) u (rd (.int .i64) a (i:Int))
theorem Oe (l:List aC) (q:List Int × (List Int × Unit)) (hl:l.length<=1048576) (hq:Ev (fun k=>fP k l 1) (q,(true,()))) (h1:q.1.length<=40) (h2:q.2.1.length=q.1.length) (ha:YA q.2.1) (n:Nat) (hn:n<=q.1.length):∃ v:List aC × (Bool × Unit),Ev (fun k=>fH k l 1 (q.1.take n) 0) v/\v.1.length<=l.length/\∀ e ∈ v.1,∃ i:Nat,n=i+1/\LE.le (α:=Int) e.1 (rd (.int .i64) q.2.1 (i:Int)):=by
 have ht:(q.1.take n).length=n:=by rw [List.length_take];omega
 obtain ⟨v0,e0,hv0⟩:=Qu q.1 (by omega)
 by_cases c:v0.2.1=true
 ·obtain ⟨_,g1,g2⟩:=hv0 c
  have key:∀ (d j:Nat) (f:List Int × (Int × Unit)) (u:Int),j+d=n->f.1.length=q.1.length+1->(∃ i:Nat,i<=j/\i<f.1.length/\LE.le (α:=Int) (rd (.int .i64) f.1 (i:Int)) 0)->(LE.le (α:=Int) (rd (.int .i64) f.1 (j:Int)) 0\/Stuck q.1 f)->abN q.2.1 j u->∃ r:List aC,(r.length<=l.length/\∀ e ∈ r,∃ i:Nat,n=i+1/\LE.le (α:=Int) e.1 (rd (.int .i64) q.2.1 (i:Int)))/\E2 (fun k m=>fH.l0 k m l 1 0 u (q.1.take n) ((List.length (q.1.take n):Nat):Int) (j:Int) f.2.1 q.1 q.2.1 f.1) (r,(true,())):=by
   intro d
   induction d with
   | zero=>
    intro j f u hj hf hi hs hu
    obtain ⟨r,er,hr1,hr2⟩:=aam l u hl
    refine ⟨r,⟨hr1,fun e he=>?_⟩,E2.eq (fun k m=>fH.aj k m _ _ _ _ _ _ _ _ _ _ _) (E2.neg (by omega) (E2.bind er E2.ret))⟩
    obtain ⟨a1,a2⟩:=hr2 e he
    by_cases z:j=0
    ·have:=hu.1 z
     exfalso
     omega
    ·exact ⟨j - 1,by omega,Int.le_trans a2 (hu.2 (j - 1) (by omega))⟩
   | succ d ih=>
    intro j f u hj hf hi hs hu
    have hp:rd (.int .i64) (q.1.take n) (j:Int)=rd (.int .i64) q.1 (j:Int):=Yx (t:=.int .i64) (by omega) hn
    obtain ⟨v,e1,hvl,hst,hv⟩:=Sn q.1 f (rd (.int .i64) (q.1.take n) (j:Int)) (by omega) (by omega)
    have hnew:(∃ i:Nat,i<=j+1/\i<v.1.length/\LE.le (α:=Int) (rd (.int .i64) v.1 (i:Int)) 0)/\(LE.le (α:=Int) (rd (.int .i64) v.1 ((j+1:Nat):Int)) 0\/Stuck q.1 v):=by
     by_cases hk:Stuck q.1 f
     ·rw [hst hk]
      obtain ⟨i,a1,a2,a3⟩:=hi
      exact ⟨⟨i,by omega,a2,a3⟩,.inr hk⟩
     ·have hz:=hs.resolve_right hk
      rcases hv with ⟨_,hk'⟩ | hv
      ·exact absurd hk' hk
      ·have:=hv j (by omega)
       rw [hp,if_neg (fun h=>h rfl)] at this
       have hle:LE.le (α:=Int) (rd (.int .i64) v.1 ((j+1:Nat):Int)) 0:=by omega
       exact ⟨⟨j+1,by omega,by omega,hle⟩,.inl hle⟩
    obtain ⟨⟨i,a1,a2,a3⟩,hs'⟩:=hnew
    obtain ⟨w,e2,hw⟩:=Qw q v (by omega) h2 ha (by omega) a1 (by omega) a2 a3
    have hu':abN q.2.1 (j+1) (max u w):=by
     refine ⟨fun h=>by omega,fun i hi=>?_⟩
     obtain rfl:i=j:=by omega
     refine Int.max_le.2 ⟨?_,hw⟩
     by_cases z:i=0
     ·rw [hu.1 z]
      exact Int.le_trans (show (-1:Int)<=0 by omega) (ha i i (by omega) (by omega)).1
     ·exact Int.le_trans (hu.2 (i - 1) (by omega)) (ha (i - 1) i (by omega) (by omega)).2
    obtain ⟨r,hr,e⟩:=ih (j+1) v (max u w) (by omega) (by omega) ⟨i,a1,a2,a3⟩ hs' hu'
    refine ⟨r,hr,E2.eq (fun k m=>fH.aj k m _ _ _ _ _ _ _ _ _ _ _) (E2.pos (by omega) (E2.pos (by omega) (E2.pos (by omega) (E2.bind e1 (E2.bind e2 ?_)))))⟩
    simp only [bE (show j<9223372036854775807 by omega)]
    exact e
  obtain ⟨r,hr,e⟩:=key n 0 v0.1 (-1) (by omega) g1 ⟨0,by omega,by omega,g2⟩ (.inl g2) ⟨fun _=>rfl,fun i hi=>by omega⟩
  exact ⟨(r,(true,())),Ev.eq (fun k=>xw k l 1 _ 0) (Ev.bind hq (Ev.bind e0 (Ev.neg (by simp) (Ev.neg (fun h=>h c) (Ev.loop (f:=fun k m=>fH.l0 k m l 1 0 (-1) (q.1.take n) ((List.length (q.1.take n):Nat):Int) 0 v0.1.2.1 q.1 q.2.1 v0.1.1) e))))),hr⟩
 ·exact ⟨([],(false,())),Ev.eq (fun k=>xw k l 1 _ 0) (Ev.bind hq (Ev.bind e0 (Ev.neg (by simp) (Ev.pos c Ev.ret)))),by simp,by simp⟩
theorem Sq (q:List Int × (List Int × Unit)) (e:aC) (h1:q.1.length<=40) (h2:q.2.1.length=q.1.length) {i:Nat} (hi:i<q.1.length) (he:LE.le (α:=Int) e.1 (rd (.int .i64) q.2.1 (i:Int))):Ev (fun k=>zi k q e ((i+1:Nat):Int)) false:=by
 obtain ⟨r,er⟩:=Qv q (by omega) (by omega)
 have w:IntKind.wrap .i64 (((i+1:Nat):Int) - 1)=(i:Int):=by rw [fO (by omega) (by omega)];omega
 by_cases c:r=true
 ·refine Ev.eq (fun k=>zH k q e _) (Ev.bind er (Ev.neg (fun h=>h c) (Ev.neg (by omega) (Ev.neg (by omega) (Ev.pos (by omega) (Ev.pos (by omega) (Ev.ret.val ?_)))))))
  rw [w]
  exact decide_eq_false (Int.not_lt.2 he)
 ·exact Ev.eq (fun k=>zH k q e _) (Ev.bind er (Ev.pos c Ev.ret))
section
variable {t:List oO} {b1 b2 b8 b9:Int} {l:List aC} {q:List Int × (List Int × Unit)} {x1:Int} {s4:List aZ} {s5:List bT} {s6:List Int} {s7:List eX} {s8:List aZ}
theorem acN (h1:q.1.length<=40) (h2:q.2.1.length=q.1.length) {n:Nat} (hn:n<=q.1.length) {evs:List aC} (hlen:evs.length<=1048576) (he:∀ e ∈ evs,∃ i:Nat,n=i+1/\LE.le (α:=Int) e.1 (rd (.int .i64) q.2.1 (i:Int))) (hnext:E2 (fun k m=>bn.l2 k m x1 ((n+1:Nat):Int) t b1 b2 b8 b9 l s4 s5 s6 s7 s8 q.1 q.2.1) true) (fine:Bool):∀ d j:Nat,j+d=evs.length->E3 (fun k x m=>bn.l3 k x m x1 (n:Int) fine (j:Int) t b1 b2 b8 b9 evs l s4 s5 s6 s7 s8 q.1 q.2.1) true:=by
 have w:IntKind.wrap .i64 ((n:Int)+1)=((n+1:Nat):Int):=bE (by omega)
 intro d
 induction d with
 | zero=>
  intro j hj
  refine E3.eq (fun k x m=>bn.WB k x m _ _ _ _ _ _ _ _ _ _ _ _ _ _ _ _ _ _) (E3.neg (by omega) ?_)
  rw [w]
  exact E3.out hnext
 | succ d ih=>
  intro j hj
  by_cases c:fine=true
  ·subst c
   obtain ⟨i,hni,hle⟩:=he (rd aP evs (j:Int)) (by rw [dI (show j<evs.length by omega)];exact List.getElem_mem _)
   have e:=Sq q (rd aP evs (j:Int)) h1 h2 (i:=i) (by omega) hle
   rw [<- hni] at e
   refine E3.eq (fun k x m=>bn.WB k x m _ _ _ _ _ _ _ _ _ _ _ _ _ _ _ _ _ _) (E3.pos (by omega) (E3.pos rfl (E3.pos (by omega) (E3.pos (by omega) (E3.bind e (E3.neg (by simp) ?_))))))
   simp only [bE (show j<9223372036854775807 by omega)]
   exact ih (j+1) (by omega)
  ·refine E3.eq (fun k x m=>bn.WB k x m _ _ _ _ _ _ _ _ _ _ _ _ _ _ _ _ _ _) (E3.pos (by omega) (E3.neg c ?_))
   rw [w]
   exact E3.out hnext
theorem acO (hl:l.length<=1048576) (hq:Ev (fun k=>fP k l 1) (q,(true,()))) (h1:q.1.length<=40) (h2:q.2.1.length=q.1.length) (ha:YA q.2.1):∀ d n:Nat,n+d=q.1.length+1->E2 (fun k m=>bn.l2 k m x1 (n:Int) t b1 b2 b8 b9 l s4 s5 s6 s7 s8 q.1 q.2.1) true:=by
 intro d
 induction d with
 | zero=>
  intro n hn
  exact E2.eq (fun k m=>bn.YS k m _ _ _ _ _ _ _ _ _ _ _ _ _ _ _) (E2.neg (by omega) E2.ret)
 | succ d ih=>
  intro n hn
  obtain ⟨v,e,hv,he⟩:=Oe l q hl hq h1 h2 ha n (by omega)
  have e':Ev (fun k=>fH k l 1 (List.take ((Int.toNat (n:Int)) - (Int.toNat 0)) (List.drop (Int.toNat 0) q.1)) 0) v:=by
   have:List.take ((Int.toNat (n:Int)) - (Int.toNat 0)) (List.drop (Int.toNat 0) q.1)=q.1.take n:=by simp
   rw [this]
   exact e
  refine E2.eq (fun k m=>bn.YS k m _ _ _ _ _ _ _ _ _ _ _ _ _ _ _) (E2.pos (by omega) (E2.pos (by omega) (E2.pos (by omega) (E2.bind e' ?_))))
  exact E3.loop (f:=fun k x m=>bn.l3 k x m x1 (n:Int) (decide (v.2.1=true)) 0 t b1 b2 b8 b9 v.1 l s4 s5 s6 s7 s8 q.1 q.2.1) (acN h1 h2 (by omega) (by omega) he (ih (n+1) (by omega)) _ v.1.length 0 (by omega))
end
def AR (l:List aC):List Int × (List Int × Unit):=((l.filter (bF 1)).map fun e=>e.2.2.1,((l.filter (bF 1)).map fun e=>e.1,()))
theorem YB {l:List aC} (h:dU l):YA (AR l).2.1:=by
 have hp:l.Pairwise fun a b=>LE.le (α:=Int) a.1 b.1:=List.pairwise_iff_getElem.2 fun i j hi hj hij=>by
  have:=FP h.1 (j - i - 1) i (by omega)
  rw [show i+(j - i - 1)+1=j by omega,dI hi,dI hj] at this
  unfold ze at this
  omega
 have hf:=(hp.filter (bF 1)).map (f:=fun e:aC=>(e.1:Int)) (S:=fun a b:Int=>a<=b) fun a b h=>h
 have h0:∀ x ∈ (AR l).2.1,(0:Int)<=x:=fun x hx=>by
  obtain ⟨e,he,rfl⟩:=List.mem_map.1 hx
  obtain ⟨i,hi,rfl⟩:=List.mem_iff_getElem.1 (List.mem_filter.1 he).1
  have:=(h.1 i hi).1.1.1
  rwa [dI hi] at this
 intro i j hij hj
 have hi:i<(AR l).2.1.length:=by omega
 rw [dI (t:=.int .i64) (l:=(AR l).2.1) hi,dI (t:=.int .i64) (l:=(AR l).2.1) hj]
 refine ⟨h0 _ (List.getElem_mem _), ?_⟩
 by_cases q:i=j
 ·subst q;exact Int.le_refl _
 ·exact List.pairwise_iff_getElem.1 hf i j hi hj (by omega)
def val (r:aZ):Rat:=(((r.1:Int):Int):Rat) / (((r.2.1:Int):Int):Rat)
theorem tO {d:Int} (h:1<=d):(0:Rat)<(d:Rat):=by
 have:((0:Int):Rat)<(d:Rat):=Rat.intCast_lt_intCast.2 (by omega)
 simpa using this
theorem mk_val {n d:Int} (hd:1<=d) (h:(mk n d).2.1=true):yF (mk n d).1.1 (mk n d).1.2.1=true/\val (mk n d).1=(n:Rat) / (d:Rat):=by
 have hg:=Kg (qm n) d (by omega)
 unfold mk at h ⊢
 split at h
 ·rename_i c
  rw [if_pos c]
  refine ⟨c, ?_⟩
  have d1:(1:Int)<=Int.tdiv d (qP (qm n) d):=(je c).1.1
  have e1:qP (qm n) d ∣ n:=by
   unfold qP qm
   have:=Nat.gcd_dvd_left n.natAbs d.toNat
   exact Int.ofNat_dvd_left.2 (by simpa using this)
  have e2:qP (qm n) d ∣ d:=by
   unfold qP qm
   have:=Nat.gcd_dvd_right n.natAbs d.toNat
   refine Int.ofNat_dvd_left.2 ?_
   have hn:d.natAbs=d.toNat:=by omega
   rw [hn]
   simpa using this
  obtain ⟨x,hx⟩:=e1
  obtain ⟨y,hy⟩:=e2
  have hgp:(0:Int)<qP (qm n) d:=by omega
  have t1:Int.tdiv n (qP (qm n) d)=x:=by
   conv=>lhs;lhs;rw [hx]
   exact Int.mul_tdiv_cancel_left _ (by omega)
  have t2:Int.tdiv d (qP (qm n) d)=y:=by
   conv=>lhs;lhs;rw [hy]
   exact Int.mul_tdiv_cancel_left _ (by omega)
  rw [t2] at d1
  show ((Int.tdiv n (qP (qm n) d):Int):Rat) / ((Int.tdiv d (qP (qm n) d):Int):Rat)=_
  rw [t1,t2]
  have q1:=tO d1
  have q2:=tO (show 1<=qP (qm n) d by omega)
  have h1:(n:Rat)=(qP (qm n) d:Rat)*(x:Rat):=by rw [<- Rat.intCast_mul,<- hx]
  have h2:(d:Rat)=(qP (qm n) d:Rat)*(y:Rat):=by rw [<- Rat.intCast_mul,<- hy]
  rw [h1,h2]
  generalize (qP (qm n) d:Rat)=g at q2
  generalize (x:Rat)=X
  generalize (y:Rat)=Y at q1
  have hg0:g ≠ 0:=by grind
  have hy0:Y ≠ 0:=by grind
  grind
 ·cases h
theorem AU {a b:aZ} (h:(mO a b).2.1=true):yF a.1 a.2.1=true/\yF b.1 b.2.1=true/\yF (mO a b).1.1 (mO a b).1.2.1=true/\val (mO a b).1=val a+val b:=by
 unfold mO at h ⊢
 split at h
 ·rename_i c
  rw [if_pos c]
  have h1:=(je c.1).1.1
  have h2:=(je c.2).1.1
  have hp:1<=(a.2.1:Int)*b.2.1:=Int.mul_pos (show (0:Int)<a.2.1 by omega) (show (0:Int)<b.2.1 by omega)
  obtain ⟨g1,g2⟩:=mk_val hp h
  refine ⟨c.1,c.2,g1,g2.trans ?_⟩
  have q1:=tO h1
  have q2:=tO h2
  unfold val
  rw [Rat.intCast_add,Rat.intCast_mul,Rat.intCast_mul,Rat.intCast_mul]
  generalize ((a.2.1:Int):Rat)=p at q1
  generalize ((b.2.1:Int):Rat)=q at q2
  generalize ((a.1:Int):Rat)=x
  generalize ((b.1:Int):Rat)=y
  have hp0:p ≠ 0:=by grind
  have hq0:q ≠ 0:=by grind
  grind
 ·cases h
theorem WW {a b:aZ} (ha:yF a.1 a.2.1=true) (hb:yF b.1 b.2.1=true):(a.1:Int)*b.2.1<(b.1:Int)*a.2.1 ↔ val a<val b:=by
 have h1:=tO (je ha).1.1
 have h2:=tO (je hb).1.1
 unfold val
 rw [Rat.div_lt_iff h1,<- Rat.intCast_lt_intCast,Rat.intCast_mul,Rat.intCast_mul]
 generalize ((a.2.1:Int):Rat)=p at *
 generalize ((b.2.1:Int):Rat)=q at *
 generalize ((a.1:Int):Rat)=x
 generalize ((b.1:Int):Rat)=y
 have e:y / q*p=y*p / q:=by grind
 rw [e,Rat.lt_div_iff h2]
theorem UJ {r:aZ} {n:Int} (h:yF r.1 r.2.1=true) (hv:val r=(n:Rat)):(r.1:Int)=n/\(r.2.1:Int)=1:=by
 have h1:=tO (je h).1.1
 have h0:=(je h).1.1
 have e:((r.1:Int):Rat)=((n*r.2.1:Int):Rat):=by
  rw [Rat.intCast_mul]
  unfold val at hv
  generalize ((r.2.1:Int):Rat)=p at *
  generalize ((r.1:Int):Rat)=x at *
  have:p ≠ 0:=by grind
  grind
 have e:(r.1:Int)=n*r.2.1:=Rat.intCast_inj.1 e
 unfold yF at h
 have h:=(of_decide_eq_true h).2.2
 have hd:((r.2.1:Int)).toNat ∣ (qm (r.1:Int)).toNat:=by
  rw [e]
  unfold qm
  rw [Int.natAbs_mul,Int.toNat_natCast,show ((r.2.1:Int)).natAbs=((r.2.1:Int)).toNat by omega]
  exact Nat.dvd_mul_left _ _
 have hg:qP (qm (r.1:Int)) r.2.1=((((r.2.1:Int)).toNat:Nat):Int):=by
  unfold qP
  rw [Nat.gcd_eq_right hd]
 have h2:(r.2.1:Int)=1:=by
  rw [hg] at h
  omega
 exact ⟨by rw [e,h2];omega,h2⟩
def vX (t:aZ) (e:Int):Gr:=mk ((e - t.1)*5000) t.2.1
def tQ (l:List aZ):Nat->aZ->Prop
 | 0,s=>s=(0,(1,()))
 | i+1,s=>∃ s0,tQ l i s0/\(vX (rd aY l (i:Int)) (rd aY l ((i+1:Nat):Int)).1).2.1=true/\(mO s0 (vX (rd aY l (i:Int)) (rd aY l ((i+1:Nat):Int)).1).1).2.1=true/\s=(mO s0 (vX (rd aY l (i:Int)) (rd aY l ((i+1:Nat):Int)).1).1).1
theorem WX {l:List aZ} (h:mI l) {i j:Nat} (hij:i<=j) (hj:j<l.length):LE.le (α:=Int) (rd aY l (i:Int)).1 (rd aY l (j:Int)).1:=by
 by_cases q:i=j
 ·subst q;exact Int.le_refl _
 ·have:=UG h.1 (j - i - 1) i (by omega)
  rw [show i+(j - i - 1)+1=j by omega] at this
  exact Int.le_of_lt this
theorem FT {l:List aZ} (hl:mI l) {tick:Int} (ht:0<=tick/\tick<=2000) {i:Nat} (hi:i<l.length) (h1:LE.le (α:=Int) (rd aY l (i:Int)).1 tick) (h2:i+1<l.length->LT.lt (α:=Int) tick (rd aY l ((i+1:Nat):Int)).1):∃ v:Gr,Ev (fun k=>bC k l tick) v/\(v.2.1=true->∃ s,tQ l i s/\(Eq (α:=Int) (rd aY l (i:Int)).1 tick/\v.1=s\/LT.lt (α:=Int) (rd aY l (i:Int)).1 tick/\(vX (rd aY l (i:Int)) tick).2.1=true/\(mO s (vX (rd aY l (i:Int)) tick).1).2.1=true/\v.1=(mO s (vX (rd aY l (i:Int)) tick).1).1)):=by
 have hlen:l.length<=8:=by have:=(of_decide_eq_true hl.2).2;omega
 have ok:∀ j:Nat,j<l.length->(0<=((rd aY l (j:Int)).1:Int)/\((rd aY l (j:Int)).1:Int)<=2000)/\20<=((rd aY l (j:Int)).2.1:Int)/\((rd aY l (j:Int)).2.1:Int)<=300:=fun j hj=>⟨(hl.1 j hj).1.2,(hl.1 j hj).1.1⟩
 have seg:∀ (j:Nat) (e:Int),j<l.length->0<=e->e<=2000->Ev (fun k=>iK k (IntKind.wrap .i64 ((IntKind.wrap .i64 (e - (rd aY l (j:Int)).1))*5000)) (rd aY l (j:Int)).2.1) (vX (rd aY l (j:Int)) e):=fun j e hj h0 h3=>by
  have b:=ok j hj
  have b1:(0:Int)<=(rd aY l (j:Int)).1:=b.1.1
  have b2:LE.le (α:=Int) (rd aY l (j:Int)).1 2000:=b.1.2
  have b3:LE.le (α:=Int) 20 (rd aY l (j:Int)).2.1:=b.2.1
  have b4:LE.le (α:=Int) (rd aY l (j:Int)).2.1 300:=b.2.2
  have w1:IntKind.wrap .i64 (e - (rd aY l (j:Int)).1)=e - (rd aY l (j:Int)).1:=fO (by omega) (by omega)
  have w2:IntKind.wrap .i64 ((e - (rd aY l (j:Int)).1)*5000)=(e - (rd aY l (j:Int)).1)*5000:=fO (by omega) (by omega)
  rw [w1,w2]
  exact uM _ _ (by omega) (by omega) (by omega) (by omega)
 have tail:∀ s:aZ,E2 (fun k m=>bC.l0 k m l tick l ((List.length l:Nat):Int) ((i+1:Nat):Int) 0 0 s.1 s.2.1) (s,(true,())):=fun s=>by
  by_cases c:i+1<l.length
  ·have lt:=h2 c
   have w:IntKind.wrap .i64 (((i+1:Nat):Int)+1)=((i+1+1:Nat):Int):=bE (by omega)
   by_cases c2:i+1+1<l.length
   ·refine E2.eq (fun k m=>bC.aj k m _ _ _ _ _ _ _ _ _) (E2.pos (by omega) (E2.pos (by omega) (E2.pos (by omega) (E2.pos (by omega) (E2.pos (by omega) (E2.pos (by omega) (E2.pos ?_ E2.ret)))))))
    exact Int.le_trans (Int.min_le_left _ _) (Int.le_of_lt lt)
   ·exact E2.eq (fun k m=>bC.aj k m _ _ _ _ _ _ _ _ _) (E2.pos (by omega) (E2.pos (by omega) (E2.pos (by omega) (E2.neg (by omega) (E2.pos (Int.le_of_lt lt) E2.ret)))))
  ·exact E2.eq (fun k m=>bC.aj k m _ _ _ _ _ _ _ _ _) (E2.neg (by omega) E2.ret)
 have key:∀ (d j:Nat) (s:aZ),j+d=i->tQ l j s->∃ v:Gr,E2 (fun k m=>bC.l0 k m l tick l ((List.length l:Nat):Int) (j:Int) 0 0 s.1 s.2.1) v/\(v.2.1=true->∃ s,tQ l i s/\(Eq (α:=Int) (rd aY l (i:Int)).1 tick/\v.1=s\/LT.lt (α:=Int) (rd aY l (i:Int)).1 tick/\(vX (rd aY l (i:Int)) tick).2.1=true/\(mO s (vX (rd aY l (i:Int)) tick).1).2.1=true/\v.1=(mO s (vX (rd aY l (i:Int)) tick).1).1)):=by
  intro d
  induction d with
  | zero=>
   intro j s hj hs
   obtain rfl:j=i:=by omega
   have w:IntKind.wrap .i64 ((j:Int)+1)=((j+1:Nat):Int):=bE (by omega)
   have w1:=tail
   by_cases ce:Eq (α:=Int) (rd aY l (j:Int)).1 tick
   ·refine ⟨(s,(true,())), ?_,fun _=>⟨s,hs,.inl ⟨ce,rfl⟩⟩⟩
    by_cases c:j+1<l.length
    ·refine E2.eq (fun k m=>bC.aj k m _ _ _ _ _ _ _ _ _) (E2.pos (by omega) (E2.pos (by omega) (E2.pos (by omega) (E2.pos (by omega) (E2.pos (by omega) (E2.pos (by omega) (E2.pos ?_ E2.ret)))))))
     exact Int.le_trans (Int.min_le_left _ _) (Int.le_of_eq ce.symm)
    ·exact E2.eq (fun k m=>bC.aj k m _ _ _ _ _ _ _ _ _) (E2.pos (by omega) (E2.pos (by omega) (E2.pos (by omega) (E2.neg (by omega) (E2.pos (Int.le_of_eq ce.symm) E2.ret)))))
   ·have lt:LT.lt (α:=Int) (rd aY l (j:Int)).1 tick:=by omega
    have e1:=seg j tick hi ht.1 ht.2
    have e2:=kM s (vX (rd aY l (j:Int)) tick).1
    have fin:∃ v:Gr,E2 (fun k m=>(iK k (IntKind.wrap .i64 ((IntKind.wrap .i64 (tick - (rd aY l (j:Int)).1))*5000)) (rd aY l (j:Int)).2.1).bind fun r5=>(gU k (s.1,(s.2.1,())) r5.1).bind fun r6=>if ¬ (r5.2.1=true) then some ((0,(0,())),(false,())) else if ¬ (r6.2.1=true) then some ((0,(0,())),(false,())) else bC.l0 k m l tick l ((List.length l:Nat):Int) (IntKind.wrap .i64 ((j:Int)+1)) 0 0 r6.1.1 r6.1.2.1) v/\(v.2.1=true->∃ s,tQ l j s/\(Eq (α:=Int) (rd aY l (j:Int)).1 tick/\v.1=s\/LT.lt (α:=Int) (rd aY l (j:Int)).1 tick/\(vX (rd aY l (j:Int)) tick).2.1=true/\(mO s (vX (rd aY l (j:Int)) tick).1).2.1=true/\v.1=(mO s (vX (rd aY l (j:Int)) tick).1).1)):=by
     by_cases q1:(vX (rd aY l (j:Int)) tick).2.1=true
     ·by_cases q2:(mO s (vX (rd aY l (j:Int)) tick).1).2.1=true
      ·refine ⟨((mO s (vX (rd aY l (j:Int)) tick).1).1,(true,())),E2.bind e1 (E2.bind e2 (E2.neg (fun h=>h q1) (E2.neg (fun h=>h q2) ?_))),fun _=>⟨s,hs,.inr ⟨lt,q1,q2,rfl⟩⟩⟩
       rw [w]
       exact tail _
      ·exact ⟨_,E2.bind e1 (E2.bind e2 (E2.neg (fun h=>h q1) (E2.pos q2 E2.ret))),fun h=>by cases h⟩
     ·exact ⟨_,E2.bind e1 (E2.bind e2 (E2.pos q1 E2.ret)),fun h=>by cases h⟩
    obtain ⟨v,ev,hv⟩:=fin
    refine ⟨v, ?_,hv⟩
    by_cases c:j+1<l.length
    ·have mn:min tick (rd aY l (IntKind.wrap .i64 ((j:Int)+1))).1=tick:=by
      rw [w]
      have:=h2 c
      exact Int.min_eq_left (Int.le_of_lt this)
     refine E2.eq (fun k m=>bC.aj k m _ _ _ _ _ _ _ _ _) (E2.pos (by omega) (E2.pos (by omega) (E2.pos (by omega) (E2.pos (by omega) (E2.pos (by omega) (E2.pos (by omega) ?_))))))
     rw [mn]
     exact E2.neg (Int.not_le.2 lt) ev
    ·exact E2.eq (fun k m=>bC.aj k m _ _ _ _ _ _ _ _ _) (E2.pos (by omega) (E2.pos (by omega) (E2.pos (by omega) (E2.neg (by omega) (E2.neg (Int.not_le.2 lt) ev)))))
  | succ d ih=>
   intro j s hj hs
   have w:IntKind.wrap .i64 ((j:Int)+1)=((j+1:Nat):Int):=bE (by omega)
   have b:=ok (j+1) (by omega)
   have b1:(0:Int)<=(rd aY l ((j+1:Nat):Int)).1:=b.1.1
   have b2:LE.le (α:=Int) (rd aY l ((j+1:Nat):Int)).1 2000:=b.1.2
   have lt:LT.lt (α:=Int) (rd aY l (j:Int)).1 (rd aY l ((j+1:Nat):Int)).1:=(hl.1 (j+1) (by omega)).2.2 (by omega)
   have mn:min tick (rd aY l (IntKind.wrap .i64 ((j:Int)+1))).1=(rd aY l ((j+1:Nat):Int)).1:=by
    rw [w]
    exact Int.min_eq_right (Int.le_trans (WX hl (by omega) hi) h1)
   have e1:=seg j (rd aY l ((j+1:Nat):Int)).1 (by omega) b1 b2
   have e2:=kM s (vX (rd aY l (j:Int)) (rd aY l ((j+1:Nat):Int)).1).1
   by_cases q1:(vX (rd aY l (j:Int)) (rd aY l ((j+1:Nat):Int)).1).2.1=true
   ·by_cases q2:(mO s (vX (rd aY l (j:Int)) (rd aY l ((j+1:Nat):Int)).1).1).2.1=true
    ·obtain ⟨v,ev,hv⟩:=ih (j+1) (mO s (vX (rd aY l (j:Int)) (rd aY l ((j+1:Nat):Int)).1).1).1 (by omega) ⟨s,hs,q1,q2,rfl⟩
     refine ⟨v,E2.eq (fun k m=>bC.aj k m _ _ _ _ _ _ _ _ _) (E2.pos (by omega) (E2.pos (by omega) (E2.pos (by omega) (E2.pos (by omega) (E2.pos (by omega) (E2.pos (by omega) ?_)))))),hv⟩
     rw [mn]
     refine E2.neg (Int.not_le.2 lt) (E2.bind e1 (E2.bind e2 (E2.neg (fun h=>h q1) (E2.neg (fun h=>h q2) ?_))))
     rw [w]
     exact ev
    ·refine ⟨Dp,E2.eq (fun k m=>bC.aj k m _ _ _ _ _ _ _ _ _) (E2.pos (by omega) (E2.pos (by omega) (E2.pos (by omega) (E2.pos (by omega) (E2.pos (by omega) (E2.pos (by omega) ?_)))))), ?_⟩
     ·rw [mn]
      exact E2.neg (Int.not_le.2 lt) (E2.bind e1 (E2.bind e2 (E2.neg (fun h=>h q1) (E2.pos q2 E2.ret))))
     ·exact fun h=>by cases h
   ·refine ⟨Dp,E2.eq (fun k m=>bC.aj k m _ _ _ _ _ _ _ _ _) (E2.pos (by omega) (E2.pos (by omega) (E2.pos (by omega) (E2.pos (by omega) (E2.pos (by omega) (E2.pos (by omega) ?_)))))), ?_⟩
    ·rw [mn]
     exact E2.neg (Int.not_le.2 lt) (E2.bind e1 (E2.bind e2 (E2.pos q1 E2.ret)))
    ·exact fun h=>by cases h
 obtain ⟨v,ev,hv⟩:=key i 0 (0,(1,())) (by omega) rfl
 exact ⟨v,Ev.eq (fun k=>oD k l tick) (Ev.bind (gu l (by omega)) (Ev.neg (by simpa using hl) (Ev.bind (aB _ _ _) (Ev.neg (by simpa using ht) (Ev.loop (f:=fun k m=>bC.l0 k m l tick l ((List.length l:Nat):Int) 0 0 0 0 1) ev))))),hv⟩
theorem WY {a b:aZ} (h:(mulR a b).2.1=true):yF (mulR a b).1.1 (mulR a b).1.2.1=true/\val (mulR a b).1=val a*val b:=by
 unfold mulR at h ⊢
 split at h
 ·rename_i c
  rw [if_pos c]
  have h1:=(je c.1).1.1
  have h2:=(je c.2).1.1
  have hp:1<=(a.2.1:Int)*b.2.1:=Int.mul_pos (show (0:Int)<a.2.1 by omega) (show (0:Int)<b.2.1 by omega)
  obtain ⟨g1,g2⟩:=mk_val hp h
  refine ⟨g1,g2.trans ?_⟩
  have q1:=tO h1
  have q2:=tO h2
  unfold val
  rw [Rat.intCast_mul,Rat.intCast_mul]
  generalize ((a.2.1:Int):Rat)=p at q1
  generalize ((b.2.1:Int):Rat)=q at q2
  generalize ((a.1:Int):Rat)=x
  generalize ((b.1:Int):Rat)=y
  have hp0:p ≠ 0:=by grind
  have hq0:q ≠ 0:=by grind
  grind
 ·cases h
theorem WZ (a b:aZ) (ha:yF a.1 a.2.1=true) (hb:yF b.1 b.2.1=true):∃ r,Ev (fun k=>rY k a b) r/\(r=true ↔ val a<val b):=by
 obtain ⟨a1,a2⟩:=je ha
 obtain ⟨b1,b2⟩:=je hb
 have m1:=AO (x:=a.1) (y:=b.2.1) (A:=1000000000) (B:=1000000) ⟨a2.1,a2.2⟩ ⟨by omega,b1.2⟩
 have m2:=AO (x:=b.1) (y:=a.2.1) (A:=1000000000) (B:=1000000) ⟨b2.1,b2.2⟩ ⟨by omega,a1.2⟩
 refine ⟨decide ((a.1:Int)*b.2.1<(b.1:Int)*a.2.1),Ev.eq (fun k=>nR k a b) (Ev.bind (bP a) (Ev.pos ha (Ev.bind (bP b) (Ev.pos hb (Ev.ret.val ?_))))), ?_⟩
 ·rw [fO (n:=a.1*b.2.1) (by omega) (by omega),fO (n:=b.1*a.2.1) (by omega) (by omega)]
 ·rw [decide_eq_true_iff];exact WW ha hb
theorem Tx {t:aZ} {e:Int} (hr:1<=(t.2.1:Int)) (h:(vX t e).2.1=true):val (vX t e).1=((e - t.1:Int):Rat)*5000 / ((t.2.1:Int):Rat):=by
 have:=(mk_val hr h).2
 unfold vX
 rw [this,Rat.intCast_mul]
 rfl
theorem yJ {l:List aZ}:∀ {i:Nat} {s s':aZ},tQ l i s->tQ l i s'->s=s'
 | 0,_,_,h,h'=>by
  have h:_=_:=h
  have h':_=_:=h'
  rw [h,h']
 | i+1,_,_,⟨s0,h,_,_,e⟩,⟨s0',h',_,_,e'⟩=>by
  obtain rfl:=yJ h h'
  rw [e,e']
theorem abO:yF 0 1=true:=by simp [yF,qP,qm]
theorem ED {l:List aZ}:∀ {i:Nat} {s:aZ},tQ l i s->yF s.1 s.2.1=true
 | 0,s,h=>by
  have h:s=(0,(1,())):=h
  rw [h]
  exact abO
 | i+1,s,⟨s0,_,_,h,e⟩=>by
  rw [e]
  exact (AU h).2.2.1
theorem MQ {l:List aZ} (hl:mI l) {i:Nat} {s:aZ} (hi:i+1<l.length) (h:tQ l (i+1) s):∃ s0,tQ l i s0/\val s=val s0+((((rd aY l ((i+1:Nat):Int)).1:Int) - ((rd aY l (i:Int)).1:Int):Int):Rat)*5000 / (((rd aY l (i:Int)).2.1:Int):Rat):=by
 obtain ⟨s0,h0,q1,q2,e⟩:=h
 have hr:LE.le (α:=Int) 20 (rd aY l (i:Int)).2.1:=(hl.1 i (by omega)).1.1.1
 refine ⟨s0,h0, ?_⟩
 rw [e,(AU q2).2.2.2,Tx (by omega) q1]
theorem Sr {n r:Int} (hn:0<n) (hr:1<=r):(0:Rat)<(n:Rat)*5000 / (r:Rat):=by
 have h1:=tO hr
 have h2:=tO (show 1<=n by omega)
 rw [Rat.lt_div_iff h1]
 grind
theorem Tz {l:List aZ} (hl:mI l):∀ (d:Nat) {j i:Nat} {s:aZ},j+d=i->i<l.length->tQ l i s->∃ s',tQ l j s'/\val s'<=val s
 | 0,j,i,s,h,_,hs=>by
  obtain rfl:j=i:=by omega
  exact ⟨s,hs,Rat.le_refl⟩
 | d+1,j,i,s,h,hi,hs=>by
  obtain ⟨i',rfl⟩:∃ i',i=i'+1:=⟨i - 1,by omega⟩
  obtain ⟨s0,h0,hv⟩:=MQ hl hi hs
  obtain ⟨s',h1,h2⟩:=Tz hl d (j:=j) (by omega) (by omega) h0
  have lt:LT.lt (α:=Int) (rd aY l (i':Int)).1 (rd aY l ((i'+1:Nat):Int)).1:=(hl.1 (i'+1) hi).2.2 (by omega)
  have hr:LE.le (α:=Int) 20 (rd aY l (i':Int)).2.1:=(hl.1 i' (by omega)).1.1.1
  have:=Sr (n:=((rd aY l ((i'+1:Nat):Int)).1:Int) - ((rd aY l (i':Int)).1:Int)) (r:=(rd aY l (i':Int)).2.1) (by omega) (by omega)
  exact ⟨s',h1,by rw [hv];grind⟩
theorem Qx {l:List aZ} (hl:mI l) {i:Nat} (hi:i<l.length) {s r:aZ} {tick:Int} (hs:yF s.1 s.2.1=true) (hv:val r=val s+((tick - ((rd aY l (i:Int)).1:Int):Int):Rat)*5000 / (((rd aY l (i:Int)).2.1:Int):Rat)):∃ v:Gr,Ev (fun k=>(gU k (r.1,(r.2.1,())) (IntKind.wrap .i64 (-s.1),(s.2.1,()))).bind fun r5=>
  (iK k (rd aY l (i:Int)).2.1 5000).bind fun r6=>
  (qd k r5.1 r6.1).bind fun r7=>
  (gU k ((rd aY l (i:Int)).1,(1,())) r7.1).bind fun r8=>
  if ¬ (r5.2.1=true) then some ((0,(0,())),(false,()))
  else if ¬ (r6.2.1=true) then some ((0,(0,())),(false,()))
  else if ¬ (r7.2.1=true) then some ((0,(0,())),(false,()))
  else if ¬ (r8.2.1=true) then some ((0,(0,())),(false,()))
  else some (r8.1,(true,()))) v/\(v.2.1=true->(v.1.1:Int)=tick/\(v.1.2.1:Int)=1):=by
 have hr:LE.le (α:=Int) 20 (rd aY l (i:Int)).2.1:=(hl.1 i hi).1.1.1
 have hr2:LE.le (α:=Int) (rd aY l (i:Int)).2.1 300:=(hl.1 i hi).1.1.2
 have w:IntKind.wrap .i64 (-(s.1:Int)) = -(s.1:Int):=fO (by have:=(je hs).2;omega) (by have:=(je hs).2;omega)
 rw [w]
 have e5:=kM (r.1,(r.2.1,())) (-(s.1:Int),(s.2.1,()))
 have e6:=uM (rd aY l (i:Int)).2.1 5000 (by omega) (by omega) (by omega) (by omega)
 have e7:=Dk (mO (r.1,(r.2.1,())) (-(s.1:Int),(s.2.1,()))).1 (mk (rd aY l (i:Int)).2.1 5000).1
 have e8:=kM ((rd aY l (i:Int)).1,(1,())) (mulR (mO (r.1,(r.2.1,())) (-(s.1:Int),(s.2.1,()))).1 (mk (rd aY l (i:Int)).2.1 5000).1).1
 by_cases c5:(mO (r.1,(r.2.1,())) (-(s.1:Int),(s.2.1,()))).2.1=true
 ·by_cases c6:(mk (rd aY l (i:Int)).2.1 5000).2.1=true
  ·by_cases c7:(mulR (mO (r.1,(r.2.1,())) (-(s.1:Int),(s.2.1,()))).1 (mk (rd aY l (i:Int)).2.1 5000).1).2.1=true
   ·by_cases c8:(mO ((rd aY l (i:Int)).1,(1,())) (mulR (mO (r.1,(r.2.1,())) (-(s.1:Int),(s.2.1,()))).1 (mk (rd aY l (i:Int)).2.1 5000).1).1).2.1=true
    ·refine ⟨((mO ((rd aY l (i:Int)).1,(1,())) (mulR (mO (r.1,(r.2.1,())) (-(s.1:Int),(s.2.1,()))).1 (mk (rd aY l (i:Int)).2.1 5000).1).1).1,(true,())),Ev.bind e5 (Ev.bind e6 (Ev.bind e7 (Ev.bind e8 (Ev.neg (fun h=>h c5) (Ev.neg (fun h=>h c6) (Ev.neg (fun h=>h c7) (Ev.neg (fun h=>h c8) Ev.ret))))))),fun _=>?_⟩
     have v5:=(AU c5).2.2.2
     have v6:=(mk_val (by omega) c6).2
     have v7:=(WY c7).2
     obtain ⟨_,_,g8,v8⟩:=AU c8
     refine UJ g8 ?_
     rw [v8,v7,v6,v5]
     have n1:val (r.1,(r.2.1,()))=val r:=rfl
     have n2:val (-(s.1:Int),(s.2.1,())) = - val s:=by
      unfold val
      show ((-(s.1:Int):Int):Rat) / _=_
      rw [Rat.intCast_neg]
      grind
     have n3:val ((rd aY l (i:Int)).1,(1,()))=(((rd aY l (i:Int)).1:Int):Rat):=by
      unfold val
      show (((rd aY l (i:Int)).1:Int):Rat) / ((1:Int):Rat)=_
      grind
     rw [n1,n2,n3,hv,Rat.intCast_sub]
     have q:=tO (show (1:Int)<=(rd aY l (i:Int)).2.1 by omega)
     generalize (((rd aY l (i:Int)).2.1:Int):Rat)=p at *
     generalize (((rd aY l (i:Int)).1:Int):Rat)=x at *
     have hp:p ≠ 0:=by grind
     have h5:((5000:Int):Rat)=5000:=rfl
     rw [h5]
     grind
    ·exact ⟨Dp,Ev.bind e5 (Ev.bind e6 (Ev.bind e7 (Ev.bind e8 (Ev.neg (fun h=>h c5) (Ev.neg (fun h=>h c6) (Ev.neg (fun h=>h c7) (Ev.pos c8 Ev.ret))))))),fun h=>by cases h⟩
   ·exact ⟨Dp,Ev.bind e5 (Ev.bind e6 (Ev.bind e7 (Ev.bind e8 (Ev.neg (fun h=>h c5) (Ev.neg (fun h=>h c6) (Ev.pos c7 Ev.ret)))))),fun h=>by cases h⟩
  ·exact ⟨Dp,Ev.bind e5 (Ev.bind e6 (Ev.bind e7 (Ev.bind e8 (Ev.neg (fun h=>h c5) (Ev.pos c6 Ev.ret))))),fun h=>by cases h⟩
 ·exact ⟨Dp,Ev.bind e5 (Ev.bind e6 (Ev.bind e7 (Ev.bind e8 (Ev.pos c5 Ev.ret)))),fun h=>by cases h⟩
theorem Sv {l:List aZ} (hl:mI l) {tick:Int} (ht:0<=tick/\tick<=2000) {r:aZ} (hr:Ev (fun k=>bC k l tick) (r,(true,()))):∃ v:Gr,Ev (fun k=>dR k l r) v/\(v.2.1=true->(v.1.1:Int)=tick/\(v.1.2.1:Int)=1):=by
 have hb:=of_decide_eq_true hl.2
 have hlen:l.length<=8:=by omega
 obtain ⟨p,hp,a1,a2⟩:=nK (fun i=>LE.le (α:=Int) (rd aY l (i:Int)).1 tick) l.length
 have hz:Eq (α:=Int) (rd aY l ((0:Nat):Int)).1 0:=(hl.1 0 (by omega)).2.1 rfl
 have hp0:p ≠ 0:=fun h=>by
  subst h
  exact a2 (by omega) (by omega)
 obtain ⟨i,rfl⟩:∃ i,p=i+1:=⟨p - 1,by omega⟩
 obtain ⟨v0,e0,h0⟩:=FT hl ht (i:=i) (by omega) (a1 i (by omega)) (fun c=>Int.not_le.1 (a2 c))
 obtain rfl:=Ev.uniq e0 hr
 obtain ⟨si,hsi,hcase⟩:=h0 rfl
 have rate:∀ j:Nat,j<l.length->LE.le (α:=Int) 20 (rd aY l (j:Int)).2.1:=fun j hj=>(hl.1 j hj).1.1.1
 have hv:yF r.1 r.2.1=true/\val r=val si+((tick - ((rd aY l (i:Int)).1:Int):Int):Rat)*5000 / (((rd aY l (i:Int)).2.1:Int):Rat):=by
  have hri:=rate i (by omega)
  rcases hcase with ⟨ce,cr⟩ | ⟨lt,q1,q2,cr⟩
  ·have cr:r=si:=cr
   subst cr
   refine ⟨ED hsi, ?_⟩
   have:tick - ((rd aY l (i:Int)).1:Int)=0:=by omega
   rw [this]
   grind
  ·have cr:r=_:=cr
   obtain ⟨_,_,g1,g2⟩:=AU q2
   rw [cr]
   exact ⟨g1,by rw [g2,Tx (by omega) q1]⟩
 obtain ⟨hR,hv⟩:=hv
 have hge:val si<=val r:=by
  have hri:=rate i (by omega)
  have h1:=a1 i (by omega)
  by_cases c:tick - ((rd aY l (i:Int)).1:Int)=0
  ·rw [hv,c];grind
  ·have:=Sr (n:=tick - ((rd aY l (i:Int)).1:Int)) (r:=(rd aY l (i:Int)).2.1) (by omega) (by omega)
   rw [hv];grind
 have hL:(List.take ((Int.toNat ((List.length l:Nat):Int)) - (Int.toNat 1)) (List.drop (Int.toNat 1) l))=l.drop 1:=by
  have e1:Int.toNat 1=1:=rfl
  rw [e1,Int.toNat_natCast]
  exact List.take_of_length_le (by simp)
 have hLr:∀ j:Nat,j+1<l.length->rd aY (l.drop 1) (j:Int)=rd aY l ((j+1:Nat):Int):=fun j hj=>by
  rw [dI (show j<(l.drop 1).length by rw [List.length_drop];omega),dI hj,List.getElem_drop]
  congr 1
  omega
 have hLl:(l.drop 1).length=l.length - 1:=List.length_drop
 have key:∀ (d j:Nat) (s:aZ),j+d=l.length - 1->j<=i->tQ l j s->∃ v:Gr,E2 (fun k m=>dR.l0 k m l (l.drop 1) ((List.length (l.drop 1):Nat):Int) (j:Int) r.1 r.2.1 0 0 (rd aY l (j:Int)).1 (rd aY l (j:Int)).2.1 s.1 s.2.1) v/\(v.2.1=true->(v.1.1:Int)=tick/\(v.1.2.1:Int)=1):=by
  intro d
  induction d with
  | zero=>
   intro j s hj hji hs
   obtain rfl:j=i:=by omega
   obtain rfl:=yJ hs hsi
   obtain ⟨v,e,h⟩:=Qx hl (by omega) (ED hs) hv
   exact ⟨v,E2.eq (fun k m=>dR.aj k m _ _ _ _ _ _ _ _ _ _ _ _) (E2.neg (by omega) (E2.of e)),h⟩
  | succ d ih=>
   intro j s hj hji hs
   have hat:=(hl.1 (j+1) (by omega)).1.2
   obtain ⟨w,ew,hw⟩:=FT hl (tick:=(rd aY l ((j+1:Nat):Int)).1) hat (i:=j+1) (by omega) (Int.le_refl _) (fun c=>(hl.1 (j+1+1) c).2.2 (by omega))
   by_cases cw:w.2.1=true
   ·obtain ⟨s1,hs1,hc⟩:=hw cw
    have hw1:w.1=s1:=by
     rcases hc with ⟨_,h⟩ | ⟨h,_⟩
     ·exact h
     ·exact absurd h (Int.lt_irrefl _)
    have g1:=ED hs1
    rw [<- hw1] at g1
    obtain ⟨q,eq,hq⟩:=WZ r w.1 hR g1
    rw [hw1] at hq
    by_cases cq:q=true
    ·have hji:j=i:=by
      apply Classical.byContradiction
      intro hne
      obtain ⟨s',h1,h2⟩:=Tz hl (i - (j+1)) (j:=j+1) (by omega) (by omega) hsi
      obtain rfl:=yJ h1 hs1
      have:=hq.1 cq
      grind
     subst hji
     obtain rfl:=yJ hs hsi
     obtain ⟨v,e,h⟩:=Qx hl (by omega) (ED hs) hv
     refine ⟨v,E2.eq (fun k m=>dR.aj k m _ _ _ _ _ _ _ _ _ _ _ _) (E2.pos (by omega) (E2.pos (by omega) (E2.pos (by omega) ?_))),h⟩
     rw [hLr j (by omega)]
     exact E2.bind ew (E2.neg (fun h=>h cw) (E2.bind eq (E2.pos cq (E2.of e))))
    ·have acQ:j+1<=i:=by
      apply Classical.byContradiction
      intro hne
      obtain rfl:j=i:=by omega
      obtain ⟨s0,h1,h2⟩:=MQ hl (by omega) hs1
      obtain rfl:=yJ h1 hsi
      have lt:=Int.not_le.1 (a2 (by omega))
      have hri:=rate j (by omega)
      refine cq (hq.2 ?_)
      rw [hv,h2]
      have:=Sr (n:=((rd aY l ((j+1:Nat):Int)).1:Int) - tick) (r:=(rd aY l (j:Int)).2.1) (by omega) (by omega)
      have qp:=tO (show (1:Int)<=(rd aY l (j:Int)).2.1 by omega)
      rw [Rat.intCast_sub] at this ⊢
      rw [Rat.intCast_sub]
      generalize (((rd aY l (j:Int)).2.1:Int):Rat)=p at *
      have hp:p ≠ 0:=by grind
      grind
     obtain ⟨v,e,h⟩:=ih (j+1) s1 (by omega) acQ hs1
     refine ⟨v,E2.eq (fun k m=>dR.aj k m _ _ _ _ _ _ _ _ _ _ _ _) (E2.pos (by omega) (E2.pos (by omega) (E2.pos (by omega) ?_))),h⟩
     rw [hLr j (by omega)]
     refine E2.bind ew (E2.neg (fun h=>h cw) (E2.bind eq (E2.neg cq ?_)))
     simp only [bE (show j<9223372036854775807 by omega),hw1]
     exact e
   ·refine ⟨Dp,E2.eq (fun k m=>dR.aj k m _ _ _ _ _ _ _ _ _ _ _ _) (E2.pos (by omega) (E2.pos (by omega) (E2.pos (by omega) ?_))),fun h=>by cases h⟩
    rw [hLr j (by omega)]
    exact E2.bind ew (E2.pos cw E2.ret)
 obtain ⟨v,e,h⟩:=key (l.length - 1) 0 (0,(1,())) (by omega) (by omega) rfl
 by_cases cn:(r.1:Int)<0
 ·exact ⟨Dp,Ev.eq (fun k=>mG k l r) (Ev.bind (gu l (by omega)) (Ev.neg (by simpa using hl) (Ev.bind (bP r) (Ev.neg (fun h=>h hR) (Ev.pos cn Ev.ret))))),fun h=>by cases h⟩
 ·refine ⟨v,Ev.eq (fun k=>mG k l r) (Ev.bind (gu l (by omega)) (Ev.neg (by simpa using hl) (Ev.bind (bP r) (Ev.neg (fun h=>h hR) (Ev.neg cn (Ev.pos (Nat.le_refl 0) (Ev.pos (show (0:Int)<((List.length l:Nat):Int) by omega) (Ev.pos (by omega) (Ev.pos (by omega) ?_))))))))),h⟩
  rw [hL]
  exact Ev.loop (f:=fun k m=>dR.l0 k m l (l.drop 1) ((List.length (l.drop 1):Nat):Int) 0 r.1 r.2.1 0 0 (rd aY l 0).1 (rd aY l 0).2.1 0 1) e
theorem Xa (l:List aZ) (hl:mI l) (t:Int):∃ v:Gr,Ev (fun k=>bC k l t) v/\(v.2.1=true->0<=t/\t<=2000):=by
 have hlen:l.length<=8:=by have:=(of_decide_eq_true hl.2).2;omega
 by_cases c:0<=t/\t<=2000
 ·obtain ⟨p,hp,a1,a2⟩:=nK (fun i=>LE.le (α:=Int) (rd aY l (i:Int)).1 t) l.length
  have hb:=of_decide_eq_true hl.2
  have hz:Eq (α:=Int) (rd aY l ((0:Nat):Int)).1 0:=(hl.1 0 (by omega)).2.1 rfl
  have hp0:p ≠ 0:=fun h=>by
   subst h
   exact a2 (by omega) (by omega)
  obtain ⟨i,rfl⟩:∃ i,p=i+1:=⟨p - 1,by omega⟩
  obtain ⟨v,e,_⟩:=FT hl c (i:=i) (by omega) (a1 i (by omega)) (fun c=>Int.not_le.1 (a2 c))
  exact ⟨v,e,fun _=>c⟩
 ·exact ⟨Dp,Ev.eq (fun k=>oD k l t) (Ev.bind (gu l (by omega)) (Ev.neg (by simpa using hl) (Ev.bind (aB _ _ _) (Ev.pos (by simpa using c) Ev.ret)))),fun h=>by cases h⟩
section
variable {t:List oO} {b1 b2 b8 b9:Int} {x1:Int} {l:List aC} {s3:List aZ} {s4:List bT} {s5:List Int} {s6:List eX} {s7:List aZ}
theorem acR (h3:mI s3) (hnext:E2 (fun k m=>bn.l0 k m (IntKind.wrap .i64 (x1+1)) t b1 b2 b8 b9 l s3 s4 s5 s6 s7) true) (hl:l.length<=1048576):∀ d j:Nat,j+d=l.length->E3 (fun k x m=>bn.l1 k x m x1 (j:Int) t b1 b2 b8 b9 l s3 s4 s5 s6 s7) true:=by
 have hlen:s3.length<=8:=by have:=(of_decide_eq_true h3.2).2;omega
 intro d
 induction d with
 | zero=>
  intro j hj
  exact E3.eq (fun k x m=>bn.yA k x m _ _ _ _ _ _ _ _ _ _ _ _ _) (E3.neg (by omega) (E3.out hnext))
 | succ d ih=>
  intro j hj
  have e:=ih (j+1) (by omega)
  obtain ⟨v,ev,hv⟩:=Xa s3 h3 (rd aP l (j:Int)).1
  have hw:∃ w:Gr,Ev (fun k=>dR k s3 v.1) w/\(v.2.1=true->w.2.1=true->(w.1.1:Int)=(rd aP l (j:Int)).1/\(w.1.2.1:Int)=1):=by
   by_cases c:v.2.1=true
   ·have hr:Ev (fun k=>bC k s3 (rd aP l (j:Int)).1) (v.1,(true,())):=by
     rw [<- c]
     exact ev
    obtain ⟨w,ew,h⟩:=Sv h3 (hv c) hr
    exact ⟨w,ew,fun _=>h⟩
   ·obtain ⟨w,ew⟩:=Sd s3 v.1 (by omega)
    exact ⟨w,ew,fun h=>absurd h c⟩
  obtain ⟨w,ew,hw⟩:=hw
  refine E3.eq (fun k x m=>bn.yA k x m _ _ _ _ _ _ _ _ _ _ _ _ _) (E3.pos (by omega) (E3.pos (by omega) (E3.pos (by omega) (E3.bind ev (E3.bind ew ?_)))))
  simp only [bE (show j<9223372036854775807 by omega)]
  by_cases c1:v.2.1=true
  ·by_cases c2:w.2.1=true
   ·exact E3.pos c1 (E3.pos c2 (E3.pos (by omega) (E3.pos (by omega) (E3.neg (fun h=>h (hw c1 c2)) e))))
   ·exact E3.pos c1 (E3.neg c2 e)
  ·exact E3.neg c1 e
end
def evs (v:Int) (p:List gY):List aC:=p.flatMap fun s=>if Ne (α:=Int) s.2.2.1 0 then [(s.1,(s.2.1,(s.2.2.1,(v,()))))] else []
theorem Xb {v:Int} {p:List gY} {i:Nat} (hi:i<p.length):evs v (p.drop i)=(if Ne (α:=Int) (rd iB p (i:Int)).2.2.1 0 then [((rd iB p (i:Int)).1,((rd iB p (i:Int)).2.1,((rd iB p (i:Int)).2.2.1,(v,()))))] else [])++evs v (p.drop (i+1)):=by
 rw [List.drop_eq_getElem_cons hi,dI hi]
 rfl
theorem Ky (p:List gY) (v:Int) (hl:p.length<=4194304) (hp:Ev (fun k=>eZ k p) true):Ev (fun k=>fZ k p v) (evs v p):=by
 have key:∀ d i:Nat,∀ s:List aC,i+d=p.length->s.length<=i->E2 (fun k m=>fZ.l0 k m v p ((List.length p:Nat):Int) (i:Int) s) (s++evs v (p.drop i)):=by
  intro d
  induction d with
  | zero=>
   intro i s hi hs
   exact E2.eq (fun k m=>fZ.aj k m v p _ _ _) (E2.neg (by omega) (E2.ret.val (by rw [List.drop_eq_nil_of_le (by omega)];simp [evs])))
  | succ d ih=>
   intro i s hi hs
   refine E2.eq (fun k m=>fZ.aj k m v p _ _ _) (E2.pos (by omega) (E2.pos (by omega) (E2.pos (by omega) ?_)))
   simp only [bE (show i<9223372036854775807 by omega)]
   rw [Xb (by omega),<- List.append_assoc]
   by_cases c:Ne (α:=Int) (rd iB p (i:Int)).2.2.1 0
   ·rw [if_pos c]
    exact E2.pos c (E2.pos (by rw [List.length_singleton];omega) (ih (i+1) _ (by omega) (by simp;omega)))
   ·rw [if_neg c,List.append_nil]
    exact E2.neg c (ih (i+1) s (by omega) (by omega))
 exact Ev.eq (fun k=>FJ k p v) (Ev.bind hp (Ev.pos rfl ((Ev.loop (f:=fun k m=>fZ.l0 k m v p ((List.length p:Nat):Int) 0 []) (key p.length 0 [] (by omega) (by simp))).val (by simp))))
theorem abP (t:List aC) (ht:t.length<=33554432):∃ s:List aC,s.Perm t/\wkE s/\Ev (fun k=>jw k t) ((),s):=by
 refine ⟨kD NM uG t,RO (T:=NM) (cf:=uG) Bg t, ?_,Ev.eq (f:=fun _=>some ((),kD NM uG t)) (fun k=>?_) Ev.ret⟩
 ·refine (Wm (T:=NM) (cf:=uG) Bg t).imp ?_
  intro a b h hb
  have:Go.Proofs.ltOf uG b a=true:=(Ea b a).2 hb
  rw [h] at this
  cases this
 ·rw [rD]
  exact NK (T:=NM) (cf:=uG) (l:=t) (by omega)
def Qy (v:Int) (e:aC):Bool:=decide (LE.le (α:=Int) e.2.2.2.1 v)
theorem Ir (e:aC) (v:Int):Ev (fun k=>xu k e v) (! Qy v e):=by
 refine Ev.eq (fun k=>JZ k e v) (Ev.ret.val ?_)
 unfold Qy
 by_cases c:LE.le (α:=Int) e.2.2.2.1 v
 ·rw [decide_eq_true c,decide_eq_false (by omega)];rfl
 ·rw [decide_eq_false c,decide_eq_true (by omega)];rfl
theorem Sw (l:List aC) (v:Int) (hl:l.length<=1048576):Ev (fun k=>aO k l v) (l.filter (Qy v)):=by
 have ei:Ev (fun k=>aQ k l v) (wI (fun i=>! Qy v (rd aP l (i:Int))) l.length):=by
  have er:=qW (R:=fun i r=>E2 (fun k m=>aQ.l0 k m l v ((List.length l:Nat):Int) i) r) (n:=l.length) (fun i=>! Qy v (rd aP l (i:Int))) (E2.eq (fun k m=>aQ.aj k m l v _ _) (E2.neg (by omega) E2.ret)) (fun i hi hq r e=>by
   refine E2.eq (fun k m=>aQ.aj k m l v _ _) (E2.pos (by omega) (E2.pos (by omega) (E2.pos (by omega) (E2.bind (Ir _ _) (E2.neg (by rw [hq];simp) ?_)))))
   simp only [bE (show i<9223372036854775807 by omega)];exact e) (fun i hi hq=>E2.eq (fun k m=>aQ.aj k m l v _ _) (E2.pos (by omega) (E2.pos (by omega) (E2.pos (by omega) (E2.bind (Ir _ _) (E2.pos hq E2.ret))))))
  exact Ev.eq (fun k=>qL k l v) (Ev.loop (f:=fun k m=>aQ.l0 k m l v ((List.length l:Nat):Int) 0) er)
 refine Ev.eq (fun k=>qh k l v) (Ev.bind ei ?_)
 rcases qV (fun i=>! Qy v (rd aP l (i:Int))) l.length with ⟨h,hall⟩ | ⟨r,h,hr,h1,h0⟩
 ·refine Ev.pos h (Ev.ret.val ?_)
  symm
  rw [List.filter_eq_self]
  intro x hx
  obtain ⟨i,hi,rfl⟩:=List.mem_iff_getElem.1 hx
  have:=hall i hi
  rw [dI hi] at this
  simpa using this
 ·rw [h]
  refine Ev.neg (by omega) ?_
  rw [bE (by omega)]
  refine Ev.loop (f:=fun k m=>aO.l0 k m v (r:Int) ((r+1:Nat):Int) l) ?_
  refine za (t:=aP) (l:=l) (R:=fun i j s w=>E2 (fun k m=>aO.l0 k m v i j s) w) (Qy v) (fun i s hi hs=>?_) (fun i j s hij hj hs hq w e=>?_) (fun i j s hij hj hs hq w e=>?_) r hr (fun j hj=>by simpa using h0 j hj) (by simpa using h1)
  ·refine E2.eq (fun k m=>aO.aj k m v _ _ s) (E2.neg (by omega) (E2.pos (by omega) (E2.pos (by omega) (E2.pos (by omega) (E2.pos ?_ (E2.ret.val ?_))))))
   ·simp only [List.length_append,List.length_take,List.length_replicate,List.length_drop,Int.toNat_natCast]
    omega
   ·simp only [Int.toNat_natCast,show Int.toNat 0=0 from rfl,Nat.sub_zero,List.drop_zero]
    rw [List.append_assoc,List.take_append_of_le_length (by simp;omega),List.take_take,Nat.min_self]
  ·refine E2.eq (fun k m=>aO.aj k m v _ _ s) (E2.pos (by omega) (E2.pos (by omega) (E2.pos (by omega) (E2.bind (Ir _ _) (E2.pos (by rw [hq];simp) (E2.pos (by omega) (E2.pos (by omega) ?_)))))))
   simp only [bE (show i<9223372036854775807 by omega),bE (show j<9223372036854775807 by omega),Int.toNat_natCast];exact e
  ·refine E2.eq (fun k m=>aO.aj k m v _ _ s) (E2.pos (by omega) (E2.pos (by omega) (E2.pos (by omega) (E2.bind (Ir _ _) (E2.neg (by rw [hq];simp) ?_)))))
   simp only [bE (show j<9223372036854775807 by omega)];exact e
theorem YC (l:List aC) (v:Int) (hl:l.length<=1048576):Ev (fun k=>Fq k l v) (l.filter (Qy v)):=
 Ev.eq (fun k=>NW k l v) (Ev.bind (jr l hl) (Ev.bind (Sw l v hl) Ev.ret))
theorem Xc (w a b:Int) (t:List gY):evs w ((a,(b,(0,()))) :: t)=evs w t:=by simp [evs]
theorem UK (l:List aC) (w e:Int) (hl:l.length<=1048576) (he:e<=2096) (hk:∀ i,i<l.length->Uf (rd aP l (i:Int))) (hw:∀ i,i<l.length->Eq (α:=Int) (rd aP l (i:Int)).2.2.2.1 w):∀ (d i:Nat) (a:Int) (s:List gY),i+d=l.length->0<=a->a<=2096->s.length<=2*i->
  ∃ v:List gY × (Bool × Unit),E2 (fun k m=>eF.l0 k m e a ((List.length l:Nat):Int) (i:Int) s l) v/\v.1.length<=2*l.length+1/\(v.2.1=true->∃ t,v.1=s++t/\Uu a false t/\evs w t=l.drop i):=by
 intro d
 induction d with
 | zero=>
  intro i a s hi h0 h1 hs
  have hi:i=l.length:=by omega
  subst hi
  by_cases c1:e<a
  ·exact ⟨ML,E2.eq (fun k m=>eF.aj k m e a _ _ s l) (E2.neg (by omega) (E2.pos c1 E2.ret)),by simp [ML],fun h=>by cases h⟩
  by_cases c3:a<e
  ·refine ⟨((s++([(a,(IntKind.wrap .i64 (e - a),(0,())))]:(List gY))),(true,())),E2.eq (fun k m=>eF.aj k m e a _ _ s l) (E2.neg (by omega) (E2.neg c1 (E2.pos c3 (E2.pos (by simp only [List.length_cons,List.length_nil];omega) E2.ret)))),by simp;omega,fun _=>⟨_,rfl, ?_,by rw [List.drop_length];rfl⟩⟩
   rw [fO (show -9223372036854775808<=e - a by omega) (by omega)]
   exact ⟨rfl,⟨by show 1<=e - a;omega,by show e - a<=3000;omega⟩,fun _=>rfl,fun h=>absurd rfl h,by show a+(e - a)<=2096;omega,trivial⟩
  ·exact ⟨(s,(true,())),E2.eq (fun k m=>eF.aj k m e a _ _ s l) (E2.neg (by omega) (E2.neg c1 (E2.neg c3 E2.ret))),by show s.length<=_;omega,fun _=>⟨[],by simp,trivial,by rw [List.drop_length];rfl⟩⟩
 | succ d ih=>
  intro i a s hi h0 h1 hs
  have hlt:i<l.length:=by omega
  have i0:(0:Int)<=(i:Int):=by omega
  have i1:(i:Int)<((List.length l:Nat):Int):=by omega
  obtain ⟨⟨k1,k2⟩,⟨k3,k4⟩,⟨k5,k6⟩,k7⟩:=hk i hlt
  have w1:IntKind.wrap .i64 ((rd aP l (i:Int)).1+(rd aP l (i:Int)).2.1)=(rd aP l (i:Int)).1+(rd aP l (i:Int)).2.1:=fO (by omega) (by omega)
  have note:∀ t,Uu ((rd aP l (i:Int)).1+(rd aP l (i:Int)).2.1) false t->∀ r,Uu (rd aP l (i:Int)).1 r (((rd aP l (i:Int)).1,((rd aP l (i:Int)).2.1,((rd aP l (i:Int)).2.2.1,()))) :: t):=by
   intro t ht r
   have hz:¬ Eq (α:=Int) (rd aP l (i:Int)).2.2.1 0:=by omega
   refine ⟨rfl,⟨k3,by show LE.le (α:=Int) (rd aP l (i:Int)).2.1 3000;omega⟩,fun h=>absurd h hz,fun _=>⟨⟨k5,k6⟩,k4⟩,by show LE.le (α:=Int) ((rd aP l (i:Int)).1+(rd aP l (i:Int)).2.1) 2096;omega, ?_⟩
   show Uu _ (decide (Eq (α:=Int) (rd aP l (i:Int)).2.2.1 0)) t
   rw [decide_eq_false hz]
   exact ht
  have hev:∀ t,evs w t=l.drop (i+1)->evs w (((rd aP l (i:Int)).1,((rd aP l (i:Int)).2.1,((rd aP l (i:Int)).2.2.1,()))) :: t)=l.drop i:=by
   intro t ht
   rw [List.drop_eq_getElem_cons hlt,<- dI (t:=aP) hlt,<- ht]
   show (if Ne (α:=Int) (rd aP l (i:Int)).2.2.1 0 then _ else _)++evs w t=_
   rw [if_pos (show ¬ Eq (α:=Int) (rd aP l (i:Int)).2.2.1 0 by omega),<- hw i hlt]
   rfl
  by_cases c1:LT.lt (α:=Int) (rd aP l (i:Int)).1 a
  ·exact ⟨ML,E2.eq (fun k m=>eF.aj k m e a _ _ s l) (E2.pos i1 (E2.pos i0 (E2.pos i1 (E2.pos c1 E2.ret)))),by simp [ML],fun h=>by cases h⟩
  by_cases c2:LT.lt (α:=Int) a (rd aP l (i:Int)).1
  ·obtain ⟨v,e1,e2,e3⟩:=ih (i+1) (IntKind.wrap .i64 ((rd aP l (i:Int)).1+(rd aP l (i:Int)).2.1)) ((s++([(a,(IntKind.wrap .i64 ((rd aP l (i:Int)).1 - a),(0,())))]:(List gY)))++([((rd aP l (i:Int)).1,((rd aP l (i:Int)).2.1,((rd aP l (i:Int)).2.2.1,())))]:(List gY))) (by omega) (by rw [w1];omega) (by rw [w1];omega) (by simp;omega)
   refine ⟨v,E2.eq (fun k m=>eF.aj k m e a _ _ s l) (E2.pos i1 (E2.pos i0 (E2.pos i1 (E2.neg c1 (E2.pos c2 (E2.pos (by simp only [List.length_cons,List.length_nil];omega) (E2.pos (by simp only [List.length_append,List.length_cons,List.length_nil];omega) ?_))))))),e2,fun h=>?_⟩
   ·simp only [bE (show i<9223372036854775807 by omega)]
    exact e1
   ·obtain ⟨t,h2,h3,h5⟩:=e3 h
    rw [w1] at h3
    refine ⟨(a,(IntKind.wrap .i64 ((rd aP l (i:Int)).1 - a),(0,()))) :: ((rd aP l (i:Int)).1,((rd aP l (i:Int)).2.1,((rd aP l (i:Int)).2.2.1,()))) :: t,by rw [h2,List.append_assoc,List.append_assoc];rfl, ?_,(Xc w a _ _).trans (hev t h5)⟩
    have hw:IntKind.wrap .i64 ((rd aP l (i:Int)).1 - a)=(rd aP l (i:Int)).1 - a:=fO (by omega) (by omega)
    rw [hw]
    have ha:Uu (a+((rd aP l (i:Int)).1 - a)) true (((rd aP l (i:Int)).1,((rd aP l (i:Int)).2.1,((rd aP l (i:Int)).2.2.1,()))) :: t):=by
     rw [show a+((rd aP l (i:Int)).1 - a)=(rd aP l (i:Int)).1 by omega]
     exact note t h3 true
    exact ⟨rfl,⟨by show LE.le (α:=Int) 1 ((rd aP l (i:Int)).1 - a);omega,by show LE.le (α:=Int) ((rd aP l (i:Int)).1 - a) 3000;omega⟩,fun _=>rfl,fun h=>absurd rfl h,by show LE.le (α:=Int) (a+((rd aP l (i:Int)).1 - a)) 2096;omega,ha⟩
  ·obtain ⟨v,e1,e2,e3⟩:=ih (i+1) (IntKind.wrap .i64 ((rd aP l (i:Int)).1+(rd aP l (i:Int)).2.1)) (s++([((rd aP l (i:Int)).1,((rd aP l (i:Int)).2.1,((rd aP l (i:Int)).2.2.1,())))]:(List gY))) (by omega) (by rw [w1];omega) (by rw [w1];omega) (by simp;omega)
   refine ⟨v,E2.eq (fun k m=>eF.aj k m e a _ _ s l) (E2.pos i1 (E2.pos i0 (E2.pos i1 (E2.neg c1 (E2.neg c2 (E2.pos (by simp only [List.length_cons,List.length_nil];omega) ?_)))))),e2,fun h=>?_⟩
   ·simp only [bE (show i<9223372036854775807 by omega)]
    exact e1
   ·obtain ⟨t,h2,h3,h5⟩:=e3 h
    rw [w1] at h3
    refine ⟨((rd aP l (i:Int)).1,((rd aP l (i:Int)).2.1,((rd aP l (i:Int)).2.2.1,()))) :: t,by rw [h2,List.append_assoc];rfl, ?_,hev t h5⟩
    have ea:(a:Int)=(rd aP l (i:Int)).1:=by omega
    rw [ea]
    exact note t h3 false
theorem MR (l:List aC) (v e:Int) (hp:dU l) (hl:l.length<=1048576):∃ r:List gY × (Bool × Unit),r.1.length<=4194304/\Ev (fun k=>eF k l v e) r/\(r.2.1=true->Uu 0 false r.1/\evs v r.1=l.filter (bF v)):=by
 have hf:(l.filter (bF v)).length<=1048576:=Nat.le_trans (List.length_filter_le _ _) hl
 by_cases ce:2096<e
 ·exact ⟨ML,by simp [ML],Ev.eq (fun k=>yB k l v e) (Ev.bind (bJ l hl) (Ev.neg (by simpa using hp) (Ev.pos ce Ev.ret))),fun h=>by cases h⟩
 ·have hk:∀ i,i<(l.filter (bF v)).length->Uf (rd aP (l.filter (bF v)) (i:Int)):=fun i hi=>by
   rw [dI (t:=aP) hi]
   obtain ⟨j,hj,e⟩:=List.getElem_of_mem (List.mem_filter.1 (List.getElem_mem hi)).1
   rw [<- e,<- dI (t:=aP) hj]
   exact (hp.1 j hj).1
  have hw:∀ i,i<(l.filter (bF v)).length->Eq (α:=Int) (rd aP (l.filter (bF v)) (i:Int)).2.2.2.1 v:=fun i hi=>by
   rw [dI (t:=aP) hi]
   exact of_decide_eq_true (List.mem_filter.1 (List.getElem_mem hi)).2
  obtain ⟨r,e2,h1,h3⟩:=UK (l.filter (bF v)) v e hf (by omega) hk hw (l.filter (bF v)).length 0 0 [] (by omega) (by omega) (by omega) (by simp)
  refine ⟨r,by omega, ?_,fun h=>?_⟩
  ·exact Ev.eq (fun k=>yB k l v e) (Ev.bind (bJ l hl) (Ev.neg (by simpa using hp) (Ev.neg ce (Ev.bind (rR l v hl) (Ev.loop (f:=fun k m=>eF.l0 k m e 0 ((List.length (l.filter (bF v)):Nat):Int) 0 [] (l.filter (bF v))) e2)))))
  ·obtain ⟨t,h2,h4,h5⟩:=h3 h
   rw [h2]
   exact ⟨by simpa using h4,by simpa using h5⟩
theorem Xd (l:List aC) (hp:dU l) (hl:l.length<=1048576):∃ r:List (List gY) × (Bool × Unit),Ev (fun k=>dJ k l 2) r/\(r.2.1=true->∃ p q,r.1=[p,q]/\(p.length<=4194304/\Uu 0 false p/\evs 1 p=l.filter (bF 1))/\q.length<=4194304/\Uu 0 false q/\evs 2 q=l.filter (bF 2)):=by
 obtain ⟨e,he⟩:=Ut l hl
 obtain ⟨p,p1,p2,p3⟩:=MR l 1 e hp hl
 obtain ⟨q,q1,q2,q3⟩:=MR l 2 e hp hl
 have go:∀ r,E2 (fun k m=>dJ.l0 k m l 2 1 []) r->Ev (fun k=>dJ k l 2) r:=fun r h=>
  Ev.eq (fun k=>Em k l 2) (Ev.bind (bJ l hl) (Ev.neg (by simpa using hp) (Ev.bind (aB _ _ _) (Ev.neg (by decide) (Ev.loop (f:=fun k m=>dJ.l0 k m l 2 1 []) h)))))
 cases hp1:p.2.1 with
 | false=>exact ⟨([],(false,())),go _ (E2.eq (fun k m=>dJ.aj k m l 2 1 []) (E2.pos (by decide) (E2.bind he (E2.bind p2 (E2.pos (by rw [hp1];simp) E2.ret))))),fun h=>by cases h⟩
 | true=>
  cases hq1:q.2.1 with
  | false=>
   refine ⟨([],(false,())),go _ (E2.eq (fun k m=>dJ.aj k m l 2 1 []) (E2.pos (by decide) (E2.bind he (E2.bind p2 (E2.neg (by rw [hp1];simp) (E2.pos (by simp) ?_)))))),fun h=>by cases h⟩
   exact E2.eq (fun k m=>dJ.aj k m l 2 2 [p.1]) (E2.pos (by decide) (E2.bind he (E2.bind q2 (E2.pos (by rw [hq1];simp) E2.ret))))
  | true=>
   refine ⟨([p.1,q.1],(true,())),go _ (E2.eq (fun k m=>dJ.aj k m l 2 1 []) (E2.pos (by decide) (E2.bind he (E2.bind p2 (E2.neg (by rw [hp1];simp) (E2.pos (by simp) ?_)))))),fun _=>⟨p.1,q.1,rfl,⟨p1,p3 hp1⟩,q1,q3 hq1⟩⟩
   refine E2.eq (fun k m=>dJ.aj k m l 2 2 [p.1]) (E2.pos (by decide) (E2.bind he (E2.bind q2 (E2.neg (by rw [hq1];simp) (E2.pos (by simp) ?_)))))
   exact E2.eq (fun k m=>dJ.aj k m l 2 3 [p.1,q.1]) (E2.neg (by decide) E2.ret)
theorem Qz {l:List aC} (h:∀ e ∈ l,Uf e) (hp:l.Pairwise ze) (hl:l.length<=40):dU l:=by
 refine ⟨fun i hi=>⟨?_,fun h0=>?_⟩,decide_eq_true (by omega)⟩
 ·rw [dI (t:=aP) hi]
  exact h _ (List.getElem_mem hi)
 ·rw [dI (t:=aP) hi,dI (t:=aP) (show i - 1<l.length by omega)]
  exact List.pairwise_iff_getElem.1 hp (i - 1) i (by omega) hi (by omega)
theorem Og {l:List aC} (h:dU l) (f:aC->Bool):dU (l.filter f):=by
 have hl:=of_decide_eq_true h.2
 have hf:=List.length_filter_le f l
 refine Qz (fun e he=>?_) ((Ql h).filter f) (by omega)
 obtain ⟨j,hj,e'⟩:=List.getElem_of_mem (List.mem_filter.1 he).1
 rw [<- e',<- dI (t:=aP) hj]
 exact (h.1 j hj).1
theorem QB:∀ l:List aC,(∀ e ∈ l,LE.le (α:=Int) 1 e.2.2.2.1)->(l.filter (Qy 2)).Perm (l.filter (bF 1)++l.filter (bF 2))
 | [],_=>List.Perm.refl _
 | x :: l,h=>by
  have ih:=QB l fun e he=>h e (List.mem_cons_of_mem _ he)
  have hx:=h x (by simp)
  by_cases c1:Eq (α:=Int) x.2.2.2.1 1
  ·rw [List.filter_cons_of_pos (by unfold Qy;simp;omega),List.filter_cons_of_pos (by unfold bF;simpa using c1),List.filter_cons_of_neg (by unfold bF;simp;omega)]
   exact ih.cons x
  by_cases c2:Eq (α:=Int) x.2.2.2.1 2
  ·rw [List.filter_cons_of_pos (by unfold Qy;simp;omega),List.filter_cons_of_neg (by unfold bF;simpa using c1),List.filter_cons_of_pos (by unfold bF;simpa using c2)]
   exact (ih.cons x).trans List.perm_middle.symm
  ·rw [List.filter_cons_of_neg (by unfold Qy;simp;omega),List.filter_cons_of_neg (by unfold bF;simpa using c1),List.filter_cons_of_neg (by unfold bF;simpa using c2)]
   exact ih
theorem Xe (l:List aC) (hp:dU l) (hl:l.length<=1048576) (p q:List gY) (p1:p.length<=4194304) (p2:Uu 0 false p) (p3:evs 1 p=l.filter (bF 1)) (q1:q.length<=4194304) (q2:Uu 0 false q) (q3:evs 2 q=l.filter (bF 2)):Ev (fun k=>uX k l [p,q]) true:=by
 have adT:=of_decide_eq_true hp.2
 have h1:=List.length_filter_le (bF 1) l
 have h2:=List.length_filter_le (bF 2) l
 have i1:=Gt p p1 p2
 have i2:=Gt q q1 q2
 have v1:=Ky p 1 p1 i1
 have v2:=Ky q 2 q1 i2
 rw [p3] at v1
 rw [q3] at v2
 obtain ⟨s,s1,s2,s3⟩:=abP (l.filter (bF 1)++l.filter (bF 2)) (by rw [List.length_append];omega)
 have hu:=Og hp (Qy 2)
 have hs:l.filter (Qy 2)=s:=YX ((QB l fun e he=>by
  obtain ⟨j,hj,e'⟩:=List.getElem_of_mem he
  have:=(hp.1 j hj).1.2.2.2.1
  rw [dI (t:=aP) hj,e'] at this
  exact this).trans s1.symm) (Ql hu) s2
 have j1:Ev (fun k=>fU k [p,q]) (s,(true,())):=by
  refine Ev.eq (fun k=>Es k [p,q]) (Ev.neg (by simp) (Ev.loop (f:=fun k m=>fU.l0 k m [p,q] ((List.length [p,q]:Nat):Int) 0 []) ?_))
  refine E2.eq (fun k m=>fU.aj k m [p,q] _ _ _) (E2.pos (by simp) (E2.pos (by omega) (E2.pos (by simp) (E2.bind i1 (E2.neg (by simp) (E2.bind v1 (E2.pos (by simp only [List.length_nil];omega) ?_)))))))
  refine E2.eq (fun k m=>fU.aj k m [p,q] _ _ _) (E2.pos (by show IntKind.wrap .i64 ((0:Int)+1)<(2:Int);decide) (E2.pos (by decide) (E2.pos (by show IntKind.wrap .i64 ((0:Int)+1)<(2:Int);decide) (E2.bind i2 (E2.neg (by simp) (E2.bind v2 (E2.pos (by simp only [List.length_nil,List.nil_append];omega) ?_)))))))
  refine E2.eq (fun k m=>fU.aj k m [p,q] _ _ _) (E2.neg (by show ¬ IntKind.wrap .i64 (IntKind.wrap .i64 ((0:Int)+1)+1)<(2:Int);decide) (E2.bind s3 (E2.bind (pW s (by rw [<- hs];have:=List.length_filter_le (Qy 2) l;omega)) (E2.neg ?_ E2.ret))))
  rw [<- hs]
  simpa using hu
 obtain ⟨r,e1,e2⟩:=Yp s (l.filter (Qy 2)) (by rw [<- hs];have:=List.length_filter_le (Qy 2) l;omega)
 exact Ev.eq (fun k=>CY k l [p,q]) (Ev.bind j1 (Ev.pos rfl (Ev.bind (YC l 2 hl) (Ev.bind e1 (Ev.ret.val (by rw [e2.2 hs.symm];rfl))))))
theorem aan (l:List aC) (hp:dU l) (hl:l.length<=1048576):Ev (fun k=>fP k l 1) (AR l,(true,())):=by
 have hf:(l.filter (bF 1)).length<=1048576:=Nat.le_trans (List.length_filter_le _ _) hl
 have key:∀ r:List aC,r.length<=1048576->∀ d i:Nat,∀ a b:List Int,i+d=r.length->a.length=i->b.length=i->E2 (fun k m=>fP.l0 k m ((List.length r:Nat):Int) (i:Int) r a b) ((a++(r.drop i).map (fun e=>e.2.2.1),(b++(r.drop i).map (fun e=>e.1),())),(true,())):=by
  intro r hr d
  induction d with
  | zero=>
   intro i a b hi ha hb
   refine E2.eq (fun k m=>fP.aj k m _ _ r a b) (E2.neg (by omega) (E2.ret.val ?_))
   rw [List.drop_eq_nil_of_le (by omega)]
   simp
  | succ d ih=>
   intro i a b hi ha hb
   have hlt:i<r.length:=by omega
   refine E2.eq (fun k m=>fP.aj k m _ _ r a b) (E2.pos (by omega) (E2.pos (by omega) (E2.pos (by omega) (E2.pos (by simp only [List.length_cons,List.length_nil];omega) (E2.pos (by simp only [List.length_cons,List.length_nil];omega) ?_)))))
   simp only [bE (show i<9223372036854775807 by omega)]
   refine (ih (i+1) _ _ (by omega) (by simp;omega) (by simp;omega)).val ?_
   rw [List.drop_eq_getElem_cons hlt,<- dI (t:=aP) hlt]
   simp
 exact Ev.eq (fun k=>GK k l 1) (Ev.bind (bJ l hl) (Ev.neg (by simpa using hp) (Ev.bind (rR l 1 hl) ((Ev.loop (f:=fun k m=>fP.l0 k m ((List.length (l.filter (bF 1)):Nat):Int) 0 (l.filter (bF 1)) [] []) (key _ hf (l.filter (bF 1)).length 0 [] [] (by omega) rfl rfl)).val (by unfold AR;simp)))))
theorem YD {o:cK} (h:isO o) (b:Sm o) (t:List oO) (x1 b1 b2 b8 b9:Int) (s3:List aZ) (s4:List bT) (s5:List Int) (s6:List eX) (s7:List aZ) (hl:o.1.length<=1048576) (hx:¬ x1<((List.length t:Nat):Int)):E2 (fun k m=>bn.l0 k m x1 t b1 b2 b8 b9 o.1 s3 s4 s5 s6 s7) true:=by
 have hp:dU o.1:=(Gw h b).2.2.1
 have h40:=of_decide_eq_true hp.2
 have hf:=List.length_filter_le (bF 1) o.1
 have l1:(AR o.1).1.length=(o.1.filter (bF 1)).length:=List.length_map _
 have l2:(AR o.1).2.1.length=(o.1.filter (bF 1)).length:=List.length_map _
 have hq:=aan o.1 hp hl
 refine E2.eq (fun k m=>bn.aj k m _ _ _ _ _ _ _ _ _ _ _ _) (E2.neg hx (E2.bind hq (E2.neg (by simp) ?_)))
 exact E2.of (Ev.loop (f:=fun k m=>bn.l2 k m x1 0 t b1 b2 b8 b9 o.1 s3 s4 s5 s6 s7 (AR o.1).1 (AR o.1).2.1) (acO hl hq (by omega) (by omega) (YB hp) _ 0 (Nat.zero_add _)))
theorem acS (l:List oO) (hh:∀ x ∈ l,Qq x) (hl:l.length<=301):∀ d i:Nat,i+d=l.length->∀ o:cK,Gd (100+i) o->isO o->
  E2 (fun k m=>bn.l0 k m (i:Int) l o.2.1.1 o.2.1.2.1 o.2.2.2.2.2.2.2.1 o.2.2.2.2.2.2.2.2.1 o.1 o.2.2.1 o.2.2.2.1 o.2.2.2.2.1 o.2.2.2.2.2.1 o.2.2.2.2.2.2.1) true:=by
 intro d
 induction d with
 | zero=>
  intro i hi o g ho
  have b:=Gu g (by omega)
  exact YD ho (MH b) l (i:Int) _ _ _ _ _ _ _ _ _ (by have:=g.1;omega) (by omega)
 | succ d ih=>
  intro i hi o g ho
  have hlt:i<l.length:=by omega
  obtain ⟨v,g1,g2,e1⟩:=aai (show 4<=100+i by omega) (by omega) g (rd Fa l (i:Int)) (hh _ (by rw [dI (t:=Fa) hlt];exact List.getElem_mem _))
  have hv:isO v.1:=by
   rcases g2 with g2 | g2
   ·rw [g2];exact ho
   ·exact g2.2.1
  have b:=Gu g1 (by omega)
  have hv':Ev (fun k=>cu k v.1) true:=hv
  have pl:Ev (fun k=>uW k v.1) true:=Ev.eq (fun k=>CX k v.1) (Ev.bind (MO hv) (Ev.ret.val (by simp)))
  have hp:dU v.1.1:=(Gw hv (MH b)).2.2.1
  have ht:mI v.1.2.2.1:=UF hv (MH b)
  have hs:v.1.1.length<=1048576:=by have:=g1.1;omega
  have w:=ih (i+1) (by omega) v.1 g1 hv
  obtain ⟨r,e3,h3⟩:=Xd v.1.1 hp hs
  have nx:=fun (s4:List bT) (s5:List Int) (s6:List eX) (s7:List aZ) (b1 b2 b8 b9:Int) h=>E3.loop (acR (t:=l) (b1:=b1) (b2:=b2) (b8:=b8) (b9:=b9) (x1:=(i:Int)) (l:=v.1.1) (s3:=v.1.2.2.1) (s4:=s4) (s5:=s5) (s6:=s6) (s7:=s7) ht h hs v.1.1.length 0 (by omega))
  have hw:IntKind.wrap .i64 ((i:Int)+1)=((i+1:Nat):Int):=bE (by omega)
  have nx:=nx v.1.2.2.2.1 v.1.2.2.2.2.1 v.1.2.2.2.2.2.1 v.1.2.2.2.2.2.2.1 v.1.2.1.1 v.1.2.1.2.1 v.1.2.2.2.2.2.2.2.1 v.1.2.2.2.2.2.2.2.2.1 (by rw [hw];exact w)
  refine E2.eq (fun k m=>bn.aj k m _ _ _ _ _ _ _ _ _ _ _ _) (E2.pos (by omega) (E2.pos (by omega) (E2.pos (by omega) (E2.bind e1 (E2.bind hv' (E2.neg (by simp) (E2.bind pl (E2.neg (by simp) (E2.bind e3 ?_)))))))))
  by_cases c:r.2.1=true
  ·obtain ⟨p,q,hpq,⟨p1,p2,p3⟩,q1,q2,q3⟩:=h3 c
   have ea:=Xe v.1.1 hp hs p q p1 p2 p3 q1 q2 q3
   rw [<- hpq] at ea
   exact E2.pos c (E2.bind ea (E2.neg (by simp) nx))
  ·exact E2.neg c nx
theorem pure (a0:List Int) (w0:Wd (.list (.int .u8)) a0):∃ k,bn k a0=some true:=by
 refine Ev.at (f:=fun k=>bn k a0) ?_
 by_cases hb:(1048576:Int)<((List.length a0:Nat):Int)
 ·exact Ev.eq (fun k=>Ce k a0) (Ev.bind (Ev.eq (fun k=>Gq k a0) Ev.ret) (Ev.pos (by simpa using hb) Ev.ret))
 obtain ⟨m,ps,l,hm,hf,hp,⟨hl,hh,_⟩,e1⟩:=Sk a0 (by omega)
 have hs:dU []:=⟨fun i hi=>by simp at hi,by simp⟩
 have ho:=Zc (i:=1) hm hf (Kw hp) hs (by omega)
 have g0:Gd 100 (wO m ps [] 1):=WU hf (by simp)
 refine Ev.eq (fun k=>Ce k a0) (Ev.bind (Ev.eq (fun k=>Gq k a0) Ev.ret) (Ev.neg (by simpa using hb) (Ev.bind e1 ?_)))
 exact Ev.loop (f:=fun k m'=>bn.l0 k m' 0 l m.1 m.2.1 1 0 [] [(0,(100,()))] ps [] [] []) (acS l hh hl l.length 0 (by omega) (wO m ps [] 1) g0 ho)
end Go.pK
