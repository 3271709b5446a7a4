/- The plain half of FnExactStepJoin. No condition. -/
import Derived.Test.YtmocpfgfjeaelaaGreatHFnExactStepJoin
set_option linter.unusedVariables false
set_option linter.unusedSimpArgs false
open Go Go.Flat
namespace Go.dB
theorem bV (x lo hi:Int):Ev (fun k=>fB k x lo hi) (decide (lo<=x/\x<=hi)):=by
 by_cases c:lo<=x
 ·exact Ev.eq (fun k=>Br k x lo hi) (Ev.pos c (Ev.ret.val (by simp [c])))
 ·exact Ev.eq (fun k=>Br k x lo hi) (Ev.neg c (Ev.ret.val (by simp [c])))
theorem aV (x lo hi:Int):Ev (fun k=>bC k x lo hi) (decide (lo<=x/\x<=hi)):=by
 by_cases c:lo<=x
 ·exact Ev.eq (fun k=>wG k x lo hi) (Ev.pos c (Ev.ret.val (by simp [c])))
 ·exact Ev.eq (fun k=>wG k x lo hi) (Ev.neg c (Ev.ret.val (by simp [c])))
theorem Dn (x:Int):Ev (fun k=>cmp_isNaN_int k x) false:=Ev.eq (fun k=>Dc k x) (Ev.ret.val (by simp))
def KP (x y:Int):Int:=if x<y then -1 else if y<x then 1 else 0
theorem GV (x y:Int):Ev (fun k=>cmp_Compare_int k x y) (KP x y):=by
 unfold KP
 by_cases c:x<y
 ·exact Ev.eq (fun k=>nM k x y) (Ev.bind (Dn x) (Ev.bind (Dn y) (Ev.neg (by simp) (Ev.neg (by simp) (Ev.pos c (Ev.ret.val (by rw [if_pos c])))))))
 ·by_cases c2:y<x
  ·exact Ev.eq (fun k=>nM k x y) (Ev.bind (Dn x) (Ev.bind (Dn y) (Ev.neg (by simp) (Ev.neg (by simp) (Ev.neg c (Ev.pos c2 (Ev.ret.val (by rw [if_neg c,if_pos c2]))))))))
  ·exact Ev.eq (fun k=>nM k x y) (Ev.bind (Dn x) (Ev.bind (Dn y) (Ev.neg (by simp) (Ev.neg (by simp) (Ev.neg c (Ev.neg c2 (Ev.ret.val (by rw [if_neg c,if_neg c2]))))))))
theorem Df {f:Nat->Option Bool} {p:Prop} [d:Decidable p] (h:∃ r,Ev f r/\(r=true ↔ p)):Ev f (decide p):=by
 obtain ⟨r,e,hr⟩:=h
 exact e.val (by rw [Bool.eq_iff_iff,hr];simp)
theorem yN {F:Int->Nat->Nat->Option Bool} {n:Nat} (Q:Nat->Prop) (c:Bool) (hend:E2 (F (n:Int)) c)
  (hgo:∀ i,i<n->Q i->∀ v,E2 (F ((i+1:Nat):Int)) v->E2 (F (i:Int)) v) (hstop:∀ i,i<n->¬ Q i->E2 (F (i:Int)) false) :
  ∃ r,E2 (F 0) r/\(r=true ↔ (∀ i,i<n->Q i)/\c=true):=by
 have key:∀ d i,i+d=n->∃ r,E2 (F (i:Int)) r/\(r=true ↔ (∀ j,i<=j->j<n->Q j)/\c=true):=by
  intro d
  induction d with
  | zero=>
   intro i hi
   have hi:i=n:=by omega
   subst hi
   exact ⟨c,hend,⟨fun h=>⟨fun j _ _=>by omega,h⟩,fun h=>h.2⟩⟩
  | succ d ih=>
   intro i hi
   obtain ⟨r,er,hr⟩:=ih (i+1) (by omega)
   by_cases hq:Q i
   ·refine ⟨r,hgo i (by omega) hq r er,hr.trans ⟨fun h=>⟨fun j h1 h2=>?_,h.2⟩,fun h=>⟨fun j h1 h2=>h.1 j (by omega) h2,h.2⟩⟩⟩
    by_cases hj:j=i
    ·subst hj;exact hq
    ·exact h.1 j (by omega) h2
   ·exact ⟨false,hstop i (by omega) hq,by simp only [Bool.false_eq_true,false_iff];exact fun h=>hq (h.1 i (Nat.le_refl _) (by omega))⟩
 obtain ⟨r,er,hr⟩:=key n 0 (by omega)
 exact ⟨r,er,hr.trans ⟨fun h=>⟨fun i hi=>h.1 i (Nat.zero_le _) hi,h.2⟩,fun h=>⟨fun i _ hi=>h.1 i hi,h.2⟩⟩⟩
theorem mD {i:Nat} (h:0<i) (h2:i<9223372036854775807):IntKind.wrap .i64 ((i:Int) - 1)=((i - 1:Nat):Int):=by
 rw [dM (by omega) (by omega)];omega
def VR (e:bA):Prop:=(0<=(e.1:Int)/\(e.1:Int)<=2000)/\(1<=(e.2.1:Int)/\(e.2.1:Int)<=96)/\(21<=(e.2.2.1:Int)/\(e.2.2.1:Int)<=108)/\1<=(e.2.2.2.1:Int)/\(e.2.2.2.1:Int)<=4
instance (e:bA):Decidable (VR e):=by unfold VR;infer_instance
theorem PD (e:bA):Ev (fun k=>CF k e) (decide (VR e)):=by
 refine Ev.eq (fun k=>KM k e) (Ev.bind (bV _ _ _) ?_)
 unfold VR
 by_cases c1:0<=(e.1:Int)/\(e.1:Int)<=2000
 ·refine Ev.pos (by simp [c1]) (Ev.bind (bV _ _ _) ?_)
  by_cases c2:1<=(e.2.1:Int)/\(e.2.1:Int)<=96
  ·refine Ev.pos (by simp [c2]) (Ev.bind (bV _ _ _) ?_)
   by_cases c3:21<=(e.2.2.1:Int)/\(e.2.2.1:Int)<=108
   ·exact Ev.pos (by simp [c3]) (Ev.bind (bV _ _ _) (Ev.ret.val (by simp only [c1,c2,c3,true_and,and_self,decide_eq_true_eq])))
   ·exact Ev.neg (by simpa using c3) (Ev.ret.val (by simp only [c3,false_and,and_false,decide_false]))
  ·exact Ev.neg (by simpa using c2) (Ev.ret.val (by simp only [c2,false_and,and_false,decide_false]))
 ·exact Ev.neg (by simpa using c1) (Ev.ret.val (by simp only [c1,false_and,decide_false]))
def Uk (a b:bA):Prop:=(a.1:Int)<b.1\/(a.1:Int)=b.1/\((a.2.2.2.1:Int)<b.2.2.2.1\/(a.2.2.2.1:Int)=b.2.2.2.1/\(a.2.2.1:Int)<b.2.2.1)
instance (a b:bA):Decidable (Uk a b):=by unfold Uk;infer_instance
theorem JF (a b:bA):Ev (fun k=>tN k a b) (decide (Uk a b)):=by
 refine Ev.eq (fun k=>Db k a b) ?_
 unfold Uk
 by_cases c1:(a.1:Int)=b.1
 ·refine Ev.neg (by omega) ?_
  by_cases c2:(a.2.2.2.1:Int)=b.2.2.2.1
  ·exact Ev.neg (by omega) (Ev.ret.val (by congr 1;exact propext ⟨fun h=>.inr ⟨c1,.inr ⟨c2,h⟩⟩,fun h=>by omega⟩))
  ·exact Ev.pos (by omega) (Ev.ret.val (by congr 1;exact propext ⟨fun h=>.inr ⟨c1,.inl h⟩,fun h=>by omega⟩))
 ·exact Ev.pos (by omega) (Ev.ret.val (by congr 1;exact propext ⟨fun h=>.inl h,fun h=>by omega⟩))
def Tg (x y:Int):Int:=if x ≠ 0 then x else y
theorem Xx (x y z:Int):Ev (fun k=>eD k [x,y,z]) (Tg x (Tg y z)):=by
 refine Ev.eq (fun k=>zB k _) (Ev.loop (f:=fun k m=>eD.l0 k m 0 [x,y,z] ((List.length [x,y,z]:Nat):Int) 0) ?_)
 have w0:IntKind.wrap .i64 ((0:Int)+1)=1:=dM (by omega) (by omega)
 have w1:IntKind.wrap .i64 ((1:Int)+1)=2:=dM (by omega) (by omega)
 have w2:IntKind.wrap .i64 ((2:Int)+1)=3:=dM (by omega) (by omega)
 have r0:rd (.int .i64) [x,y,z] 0=x:=rfl
 have r1:rd (.int .i64) [x,y,z] 1=y:=rfl
 have r2:rd (.int .i64) [x,y,z] 2=z:=rfl
 have hl:((List.length [x,y,z]:Nat):Int)=3:=rfl
 unfold Tg
 refine E2.eq (fun k m=>eD.aB k m 0 [x,y,z] _ 0) (E2.pos (by rw [hl];omega) (E2.pos (by omega) (E2.pos (by rw [hl];omega) ?_)))
 simp only [r0,w0]
 by_cases c0:x=0
 ·refine E2.neg (fun h=>h c0) ?_
  rw [if_neg (show ¬ x ≠ 0 by omega)]
  refine E2.eq (fun k m=>eD.aB k m 0 [x,y,z] _ 1) (E2.pos (by rw [hl];omega) (E2.pos (by omega) (E2.pos (by rw [hl];omega) ?_)))
  simp only [r1,w1]
  by_cases c1:y=0
  ·refine E2.neg (fun h=>h c1) ?_
   rw [if_neg (show ¬ y ≠ 0 by omega)]
   refine E2.eq (fun k m=>eD.aB k m 0 [x,y,z] _ 2) (E2.pos (by rw [hl];omega) (E2.pos (by omega) (E2.pos (by rw [hl];omega) ?_)))
   simp only [r2,w2]
   by_cases c2:z=0
   ·exact E2.neg (fun h=>h c2) (E2.eq (fun k m=>eD.aB k m 0 [x,y,z] _ 3) (E2.neg (by rw [hl];omega) (E2.ret.val c2.symm)))
   ·exact E2.pos c2 E2.ret
  ·rw [if_pos c1];exact E2.pos c1 E2.ret
 ·rw [if_pos c0];exact E2.pos c0 E2.ret
def VA (a b:bA):Int:=Tg (KP a.1 b.1) (Tg (KP a.2.2.2.1 b.2.2.2.1) (KP a.2.2.1 b.2.2.1))
theorem MX (a b:bA):Ev (fun k=>qE k a b) (VA a b):=
 Ev.eq (fun k=>Af k a b) (Ev.bind (GV _ _) (Ev.bind (GV _ _) (Ev.bind (GV _ _) (Ev.bind (Xx _ _ _) Ev.ret))))
theorem PE (a b:bA):VA a b<0 ↔ Uk a b:=by
 unfold VA Tg KP Uk
 repeat' split
 all_goals omega
def QS (l:List bA) (i:Nat):Prop:=VR (rd fF l (i:Int))/\(0<i->Uk (rd fF l ((i - 1:Nat):Int)) (rd fF l (i:Int)))
instance (l:List bA) (i:Nat):Decidable (QS l i):=by unfold QS;infer_instance
def mF (l:List bA):Prop:=(∀ i,i<l.length->QS l i)/\decide (((l.length:Nat):Int)<=40)=true
instance (l:List bA):Decidable (mF l):=by unfold mF;infer_instance
theorem IB (l:List bA) (hl:l.length<=33554432):Ev (fun k=>dw k l) (decide (mF l)):=by
 refine Df ?_
 obtain ⟨r,er,hr⟩:=yN (F:=fun i k m=>dw.l0 k m l i) (n:=l.length) (QS l) (decide (((l.length:Nat):Int)<=40)) (E2.eq (fun k m=>dw.aB k m l _) (E2.neg (by omega) E2.ret)) (fun i hi hq v e=>by
  refine E2.eq (fun k m=>dw.aB k m l _) (E2.pos (by omega) (E2.pos (by omega) (E2.pos (by omega) (E2.bind (PD _) (E2.neg (by simpa using hq.1) ?_)))))
  by_cases c:0<i
  ·refine E2.pos (by omega) ?_
   simp only [mD c (show i<9223372036854775807 by omega),bX (show i<9223372036854775807 by omega)]
   exact E2.pos (by omega) (E2.pos (by omega) (E2.pos (by omega) (E2.pos (by omega) (E2.bind (JF _ _) (E2.neg (by simpa using hq.2 c) e)))))
  ·refine E2.neg (by omega) ?_
   simp only [bX (show i<9223372036854775807 by omega)]
   exact e) (fun i hi hq=>by
  refine E2.eq (fun k m=>dw.aB k m l _) (E2.pos (by omega) (E2.pos (by omega) (E2.pos (by omega) (E2.bind (PD _) ?_))))
  by_cases c0:VR (rd fF l (i:Int))
  ·refine E2.neg (by simpa using c0) ?_
   have c:0<i:=by
    rcases Nat.eq_zero_or_pos i with h | h
    ·exact absurd ⟨c0,fun h'=>by omega⟩ hq
    ·exact h
   have c1:¬ Uk (rd fF l ((i - 1:Nat):Int)) (rd fF l (i:Int)):=fun h=>hq ⟨c0,fun _=>h⟩
   refine E2.pos (by omega) ?_
   simp only [mD c (show i<9223372036854775807 by omega)]
   exact E2.pos (by omega) (E2.pos (by omega) (E2.pos (by omega) (E2.pos (by omega) (E2.bind (JF _ _) (E2.pos (by simpa using c1) E2.ret)))))
  ·exact E2.pos (by simpa using c0) E2.ret)
 exact ⟨r,Ev.eq (fun k=>Er k l) (Ev.loop (f:=fun k m=>dw.l0 k m l 0) er),hr⟩
theorem gB (l:List bA) (hl:l.length<=1048576):Ev (fun k=>dw k l) (decide (mF l)):=IB l (by omega)
theorem IC (l:List bA) (hl:l.length<=33554432):Ev (fun k=>dx k l) (decide (mF l)):=by
 refine Df ?_
 obtain ⟨r,er,hr⟩:=yN (F:=fun i k m=>dx.l0 k m l l ((List.length l:Nat):Int) i) (n:=l.length) (QS l) (decide (((l.length:Nat):Int)<=40)) (E2.eq (fun k m=>dx.aB k m l l _ _) (E2.neg (by omega) E2.ret)) (fun i hi hq v e=>by
  obtain ⟨⟨h1,h2,h3,h4⟩,h5⟩:=hq
  refine E2.eq (fun k m=>dx.aB k m l l _ _) (E2.pos (by omega) (E2.pos (by omega) (E2.pos (by omega) (E2.bind (aV _ _ _) (E2.neg (by simpa using h1) (E2.bind (aV _ _ _) (E2.neg (by simpa using h2) (E2.bind (aV _ _ _) (E2.neg (by simpa using h3) (E2.bind (aV _ _ _) (E2.neg (by simpa using h4) ?_)))))))))))
  by_cases c:0<i
  ·refine E2.pos (by omega) ?_
   simp only [mD c (show i<9223372036854775807 by omega),bX (show i<9223372036854775807 by omega)]
   have:=(PE _ _).2 (h5 c)
   exact E2.pos (by omega) (E2.pos (by omega) (E2.bind (MX _ _) (E2.neg (by omega) e)))
  ·refine E2.neg (by omega) ?_
   simp only [bX (show i<9223372036854775807 by omega)]
   exact e) (fun i hi hq=>by
  refine E2.eq (fun k m=>dx.aB k m l l _ _) (E2.pos (by omega) (E2.pos (by omega) (E2.pos (by omega) (E2.bind (aV _ _ _) ?_))))
  by_cases h1:0<=((rd fF l (i:Int)).1:Int)/\((rd fF l (i:Int)).1:Int)<=2000
  ·refine E2.neg (by simpa using h1) (E2.bind (aV _ _ _) ?_)
   by_cases h2:1<=((rd fF l (i:Int)).2.1:Int)/\((rd fF l (i:Int)).2.1:Int)<=96
   ·refine E2.neg (by simpa using h2) (E2.bind (aV _ _ _) ?_)
    by_cases h3:21<=((rd fF l (i:Int)).2.2.1:Int)/\((rd fF l (i:Int)).2.2.1:Int)<=108
    ·refine E2.neg (by simpa using h3) (E2.bind (aV _ _ _) ?_)
     by_cases h4:1<=((rd fF l (i:Int)).2.2.2.1:Int)/\((rd fF l (i:Int)).2.2.2.1:Int)<=4
     ·refine E2.neg (by simpa using h4) ?_
      have c:0<i:=by
       rcases Nat.eq_zero_or_pos i with h | h
       ·exact absurd ⟨⟨h1,h2,h3,h4⟩,fun h'=>by omega⟩ hq
       ·exact h
      have c1:¬ Uk (rd fF l ((i - 1:Nat):Int)) (rd fF l (i:Int)):=fun h=>hq ⟨⟨h1,h2,h3,h4⟩,fun _=>h⟩
      refine E2.pos (by omega) ?_
      simp only [mD c (show i<9223372036854775807 by omega)]
      have:=mt (PE _ _).1 c1
      exact E2.pos (by omega) (E2.pos (by omega) (E2.bind (MX _ _) (E2.pos (by omega) E2.ret)))
     ·exact E2.pos (by simpa using h4) E2.ret
    ·exact E2.pos (by simpa using h3) E2.ret
   ·exact E2.pos (by simpa using h2) E2.ret
  ·exact E2.pos (by simpa using h1) E2.ret)
 exact ⟨r,Ev.eq (fun k=>Et k l) (Ev.loop (f:=fun k m=>dx.l0 k m l l ((List.length l:Nat):Int) 0) er),hr⟩
theorem fK (l:List bA) (hl:l.length<=1048576):Ev (fun k=>dx k l) (decide (mF l)):=IC l (by omega)
def YD (t:bq):Prop:=(20<=(t.2.1:Int)/\(t.2.1:Int)<=300)/\(0<=(t.1:Int)/\(t.1:Int)<=2000)
instance (e:bq):Decidable (YD e):=by unfold YD;infer_instance
def QT (l:List bq) (i:Nat):Prop:=YD (rd bT l (i:Int))/\(i=0->Eq (α:=Int) (rd bT l (i:Int)).1 0)/\(0<i->LT.lt (α:=Int) (rd bT l ((i - 1:Nat):Int)).1 (rd bT l (i:Int)).1)
instance (l:List bq) (i:Nat):Decidable (QT l i):=by unfold QT;infer_instance
def GX (l:List bq):Prop:=(∀ i,i<l.length->QT l i)/\decide (1<=((l.length:Nat):Int)/\((l.length:Nat):Int)<=8)=true
instance (l:List bq):Decidable (GX l):=by unfold GX;infer_instance
theorem kX (l:List bq) (hl:l.length<=2097152):Ev (fun k=>dN k l) (decide (GX l)):=by
 refine Df ?_
 obtain ⟨r,er,hr⟩:=yN (F:=fun i k m=>dN.l0 k m l i) (n:=l.length) (QT l) (decide (1<=((l.length:Nat):Int)/\((l.length:Nat):Int)<=8)) (E2.eq (fun k m=>dN.aB k m l _) (E2.neg (by omega) (E2.bind (bV _ _ _) (E2.ret.val (by simp))))) (fun i hi hq v e=>by
  obtain ⟨⟨h1,h2⟩,h3,h4⟩:=hq
  refine E2.eq (fun k m=>dN.aB k m l _) (E2.pos (by omega) (E2.pos (by omega) (E2.pos (by omega) (E2.bind (bV _ _ _) (E2.neg (by simpa using h1) (E2.pos (by omega) (E2.pos (by omega) (E2.bind (bV _ _ _) (E2.neg (by simpa using h2) ?_)))))))))
  simp only [bX (show i<9223372036854775807 by omega)]
  by_cases c:0<i
  ·refine E2.neg (by omega) (E2.pos (by omega) ?_)
   simp only [mD c (show i<9223372036854775807 by omega)]
   have:=h4 c
   exact E2.pos (by omega) (E2.pos (by omega) (E2.pos (by omega) (E2.pos (by omega) (E2.neg (by omega) e))))
  ·refine E2.pos (by omega) (E2.pos (by omega) (E2.pos (by omega) (E2.neg (fun h=>h (h3 (by omega))) (E2.neg (by omega) e))))) (fun i hi hq=>by
  refine E2.eq (fun k m=>dN.aB k m l _) (E2.pos (by omega) (E2.pos (by omega) (E2.pos (by omega) (E2.bind (bV _ _ _) ?_))))
  by_cases h1:LE.le (α:=Int) 20 (rd bT l (i:Int)).2.1/\LE.le (α:=Int) (rd bT l (i:Int)).2.1 300
  ·refine E2.neg (by simpa using h1) (E2.pos (by omega) (E2.pos (by omega) (E2.bind (bV _ _ _) ?_)))
   by_cases h2:LE.le (α:=Int) 0 (rd bT l (i:Int)).1/\LE.le (α:=Int) (rd bT l (i:Int)).1 2000
   ·refine E2.neg (by simpa using h2) ?_
    by_cases c:0<i
    ·refine E2.neg (by omega) (E2.pos (by omega) ?_)
     simp only [mD c (show i<9223372036854775807 by omega)]
     have h4:¬ LT.lt (α:=Int) (rd bT l ((i - 1:Nat):Int)).1 (rd bT l (i:Int)).1:=fun h=>hq ⟨⟨h1,h2⟩,fun h'=>by omega,fun _=>h⟩
     exact E2.pos (by omega) (E2.pos (by omega) (E2.pos (by omega) (E2.pos (by omega) (E2.pos (by omega) E2.ret))))
    ·have h3:¬ Eq (α:=Int) (rd bT l (i:Int)).1 0:=fun h=>hq ⟨⟨h1,h2⟩,fun _=>h,fun h'=>absurd h' c⟩
     exact E2.pos (by omega) (E2.pos (by omega) (E2.pos (by omega) (E2.pos h3 E2.ret)))
   ·exact E2.pos (by simpa using h2) E2.ret
  ·exact E2.pos (by simpa using h1) E2.ret)
 exact ⟨r,Ev.eq (fun k=>Es k l) (Ev.loop (f:=fun k m=>dN.l0 k m l 0) er),hr⟩
def Zh (l:List bq) (i:Nat):Prop:=(i=0->Eq (α:=Int) (rd bT l (i:Int)).1 0)/\(0<i->LT.lt (α:=Int) (rd bT l ((i - 1:Nat):Int)).1 (rd bT l (i:Int)).1)/\LE.le (α:=Int) (rd bT l (i:Int)).1 2000/\(LE.le (α:=Int) 20 (rd bT l (i:Int)).2.1/\LE.le (α:=Int) (rd bT l (i:Int)).2.1 300)
theorem VB (l:List bq):(∀ i,i<l.length->Zh l i) ↔ (∀ i,i<l.length->QT l i):=by
 constructor
 ·intro h
  have hp:∀ i,i<l.length->LE.le (α:=Int) 0 (rd bT l (i:Int)).1:=by
   intro i
   induction i with
   | zero=>intro hi;have:=(h 0 hi).1 rfl;omega
   | succ i ih=>
    intro hi
    have h1:=ih (by omega)
    have h2:=(h (i+1) hi).2.1 (by omega)
    simp only [Nat.add_sub_cancel] at h2
    omega
  intro i hi
  obtain ⟨h1,h2,h3,h4⟩:=h i hi
  exact ⟨⟨h4,hp i hi,h3⟩,h1,h2⟩
 ·intro h i hi
  obtain ⟨⟨h1,h2,h3⟩,h4,h5⟩:=h i hi
  exact ⟨h4,h5,h3,h1⟩
theorem kY (l:List bq) (hl:l.length<=2097152):Ev (fun k=>dO k l) (decide (GX l)):=by
 refine Df ?_
 obtain ⟨r,er,hr⟩:=yN (F:=fun i k m=>dO.l0 k m l l ((List.length l:Nat):Int) i) (n:=l.length) (Zh l) (decide (1<=((l.length:Nat):Int)/\((l.length:Nat):Int)<=8)) (E2.eq (fun k m=>dO.aB k m l l _ _) (E2.neg (by omega) (E2.bind (aV _ _ _) (E2.ret.val (by simp))))) (fun i hi hq v e=>by
  obtain ⟨h3,h4,h5,h6⟩:=hq
  refine E2.eq (fun k m=>dO.aB k m l l _ _) (E2.pos (by omega) (E2.pos (by omega) (E2.pos (by omega) ?_)))
  simp only [bX (show i<9223372036854775807 by omega)]
  by_cases c:0<i
  ·refine E2.neg (by omega) (E2.pos (by omega) ?_)
   simp only [mD c (show i<9223372036854775807 by omega)]
   have:=h4 c
   exact E2.pos (by omega) (E2.pos (by omega) (E2.neg (by omega) (E2.neg (by omega) (E2.bind (aV _ _ _) (E2.neg (by simpa using h6) e)))))
  ·exact E2.pos (by omega) (E2.neg (fun h=>h (h3 (by omega))) (E2.neg (by omega) (E2.neg (by omega) (E2.bind (aV _ _ _) (E2.neg (by simpa using h6) e)))))) (fun i hi hq=>by
  refine E2.eq (fun k m=>dO.aB k m l l _ _) (E2.pos (by omega) (E2.pos (by omega) (E2.pos (by omega) ?_)))
  by_cases c:0<i
  ·refine E2.neg (by omega) (E2.pos (by omega) ?_)
   simp only [mD c (show i<9223372036854775807 by omega)]
   refine E2.pos (by omega) (E2.pos (by omega) ?_)
   by_cases h4:LT.lt (α:=Int) (rd bT l ((i - 1:Nat):Int)).1 (rd bT l (i:Int)).1
   ·refine E2.neg (by omega) ?_
    by_cases h5:LE.le (α:=Int) (rd bT l (i:Int)).1 2000
    ·exact E2.neg (by omega) (E2.bind (aV _ _ _) (E2.pos (by simp only [decide_eq_true_eq];exact fun h6=>hq ⟨fun h=>by omega,fun _=>h4,h5,h6⟩) E2.ret))
    ·exact E2.pos (by omega) E2.ret
   ·exact E2.pos (by omega) E2.ret
  ·refine E2.pos (by omega) ?_
   by_cases h3:Eq (α:=Int) (rd bT l (i:Int)).1 0
   ·refine E2.neg (fun h=>h h3) (E2.neg (by omega) (E2.neg (by omega) (E2.bind (aV _ _ _) (E2.pos (by simp only [decide_eq_true_eq];exact fun h6=>hq ⟨fun _=>h3,fun h=>absurd h c,by omega,h6⟩) E2.ret))))
   ·exact E2.pos h3 E2.ret)
 exact ⟨r,Ev.eq (fun k=>Eu k l) (Ev.loop (f:=fun k m=>dO.l0 k m l l ((List.length l:Nat):Int) 0) er),hr.trans (and_congr (VB l) Iff.rfl)⟩
theorem KQ (m:bq):∃ r,Ev (fun k=>vU k m) r/\Ev (fun k=>vV k m) r:=by
 by_cases c1:1<=(m.1:Int)/\(m.1:Int)<=12
 ·by_cases d1:(m.2.1:Int)=1
  ·exact ⟨true,Ev.eq (fun k=>kR k m) (Ev.bind (bV _ _ _) (Ev.pos (by simpa using c1) (Ev.pos d1 Ev.ret))),Ev.eq (fun k=>kS k m) (Ev.bind (aV _ _ _) (Ev.pos (by simpa using c1) (Ev.pos d1 Ev.ret)))⟩
  ·by_cases d2:(m.2.1:Int)=2
   ·exact ⟨true,Ev.eq (fun k=>kR k m) (Ev.bind (bV _ _ _) (Ev.pos (by simpa using c1) (Ev.neg d1 (Ev.pos d2 Ev.ret)))),Ev.eq (fun k=>kS k m) (Ev.bind (aV _ _ _) (Ev.pos (by simpa using c1) (Ev.neg d1 (Ev.pos d2 Ev.ret))))⟩
   ·by_cases d3:(m.2.1:Int)=4
    ·exact ⟨true,Ev.eq (fun k=>kR k m) (Ev.bind (bV _ _ _) (Ev.pos (by simpa using c1) (Ev.neg d1 (Ev.neg d2 (Ev.pos d3 Ev.ret))))),Ev.eq (fun k=>kS k m) (Ev.bind (aV _ _ _) (Ev.pos (by simpa using c1) (Ev.neg d1 (Ev.neg d2 (Ev.pos d3 Ev.ret)))))⟩
    ·exact ⟨_,Ev.eq (fun k=>kR k m) (Ev.bind (bV _ _ _) (Ev.pos (by simpa using c1) (Ev.neg d1 (Ev.neg d2 (Ev.neg d3 Ev.ret))))),Ev.eq (fun k=>kS k m) (Ev.bind (aV _ _ _) (Ev.pos (by simpa using c1) (Ev.neg d1 (Ev.neg d2 (Ev.neg d3 Ev.ret)))))⟩
 ·exact ⟨false,Ev.eq (fun k=>kR k m) (Ev.bind (bV _ _ _) (Ev.neg (by simpa using c1) Ev.ret)),Ev.eq (fun k=>kS k m) (Ev.bind (aV _ _ _) (Ev.neg (by simpa using c1) Ev.ret))⟩
def MZ (a b:gy):Prop:=(a.1:Int)<b.1\/(a.1:Int)=b.1/\(a.2.1:Int)<b.2.1
instance (a b:gy):Decidable (MZ a b):=by unfold MZ;infer_instance
theorem GY (a b:gy):Ev (fun k=>rO k a b) (decide (MZ a b)):=by
 refine Ev.eq (fun k=>Bu k a b) ?_
 unfold MZ
 by_cases c1:(a.1:Int)<b.1
 ·exact Ev.pos c1 (Ev.ret.val (by simp [c1]))
 ·refine Ev.neg c1 ?_
  by_cases c2:(a.1:Int)=b.1
  ·exact Ev.pos c2 (Ev.ret.val (by congr 1;exact propext ⟨fun h=>.inr ⟨c2,h⟩,fun h=>by omega⟩))
  ·exact Ev.neg c2 (Ev.ret.val (by simp [c1,c2]))
theorem VD (x y:Int):Ev (fun k=>eD k [x,y]) (Tg x y):=by
 refine Ev.eq (fun k=>zB k _) (Ev.loop (f:=fun k m=>eD.l0 k m 0 [x,y] ((List.length [x,y]:Nat):Int) 0) ?_)
 have w0:IntKind.wrap .i64 ((0:Int)+1)=1:=dM (by omega) (by omega)
 have w1:IntKind.wrap .i64 ((1:Int)+1)=2:=dM (by omega) (by omega)
 have r0:rd (.int .i64) [x,y] 0=x:=rfl
 have r1:rd (.int .i64) [x,y] 1=y:=rfl
 have hl:((List.length [x,y]:Nat):Int)=2:=rfl
 unfold Tg
 refine E2.eq (fun k m=>eD.aB k m 0 [x,y] _ 0) (E2.pos (by rw [hl];omega) (E2.pos (by omega) (E2.pos (by rw [hl];omega) ?_)))
 simp only [r0,w0]
 by_cases c0:x=0
 ·refine E2.neg (fun h=>h c0) ?_
  rw [if_neg (show ¬ x ≠ 0 by omega)]
  refine E2.eq (fun k m=>eD.aB k m 0 [x,y] _ 1) (E2.pos (by rw [hl];omega) (E2.pos (by omega) (E2.pos (by rw [hl];omega) ?_)))
  simp only [r1,w1]
  by_cases c1:y=0
  ·exact E2.neg (fun h=>h c1) (E2.eq (fun k m=>eD.aB k m 0 [x,y] _ 2) (E2.neg (by rw [hl];omega) (E2.ret.val c1.symm)))
  ·exact E2.pos c1 E2.ret
 ·rw [if_pos c0];exact E2.pos c0 E2.ret
def VE (a b:gy):Int:=Tg (KP a.1 b.1) (KP a.2.1 b.2.1)
theorem JG (a b:gy):Ev (fun k=>rP k a b) (VE a b):=
 Ev.eq (fun k=>Bv k a b) (Ev.bind (GV _ _) (Ev.bind (GV _ _) (Ev.bind (VD _ _) Ev.ret)))
theorem PG (a b:gy):VE a b<0 ↔ MZ a b:=by
 unfold VE Tg KP MZ
 repeat' split
 all_goals omega
def Zi (e:gy):Prop:=(1<=(e.1:Int)/\(e.1:Int)<=100)/\(1<=(e.2.1:Int)/\(e.2.1:Int)<=4)/\(0<=(e.2.2.1:Int)/\(e.2.2.1:Int)<=9)/\(0<=(e.2.2.2.1:Int)/\(e.2.2.2.1:Int)<=100000)/\(1<=(e.2.2.2.2.1:Int)/\(e.2.2.2.2.1:Int)<=99)
def QM (l:List gy) (i:Nat):Prop:=Zi (rd gW l (i:Int))/\(0<i->MZ (rd gW l ((i - 1:Nat):Int)) (rd gW l (i:Int)))
def KR (l:List gy):Prop:=(∀ i,i<l.length->QM l i)/\decide (((l.length:Nat):Int)<=30)=true
theorem notM (l:List gy) (i:Nat) (h:¬ QM l i) (h1:Zi (rd gW l (i:Int))):0<i/\¬ MZ (rd gW l ((i - 1:Nat):Int)) (rd gW l (i:Int)):=by
 refine ⟨?_,fun c=>h ⟨h1,fun _=>c⟩⟩
 rcases Nat.eq_zero_or_pos i with hi | hi
 ·exact absurd ⟨h1,fun h'=>by omega⟩ h
 ·exact hi
theorem IE (l:List gy) (hl:l.length<=2097152):∃ r,Ev (fun k=>dJ k l) r/\(r=true ↔ KR l):=by
 obtain ⟨r,er,hr⟩:=kW (R:=fun i v=>E2 (fun k m=>dJ.l0 k m l i) v) (n:=l.length) (QM l) (decide (((l.length:Nat):Int)<=30)) (E2.eq (fun k m=>dJ.aB k m l _) (E2.neg (by omega) E2.ret)) (fun i hi hq v e=>by
  obtain ⟨⟨h1,h2,h3,h4,h5⟩,h6⟩:=hq
  refine E2.eq (fun k m=>dJ.aB k m l _) (E2.pos (by omega) (E2.pos (by omega) (E2.pos (by omega) (E2.bind (bV _ _ _) (E2.neg (by simpa using h1) (E2.bind (bV _ _ _) (E2.neg (by simpa using h2) (E2.bind (bV _ _ _) (E2.neg (by simpa using h3) (E2.bind (bV _ _ _) (E2.neg (by simpa using h4) (E2.bind (bV _ _ _) (E2.neg (by simpa using h5) ?_)))))))))))))
  simp only [bX (show i<9223372036854775807 by omega)]
  by_cases c:0<i
  ·refine E2.pos (by omega) ?_
   simp only [mD c (show i<9223372036854775807 by omega)]
   exact E2.pos (by omega) (E2.pos (by omega) (E2.bind (GY _ _) (E2.neg (by simpa using h6 c) e)))
  ·exact E2.neg (by omega) e) (fun i hi hq=>by
  refine E2.eq (fun k m=>dJ.aB k m l _) (E2.pos (by omega) (E2.pos (by omega) (E2.pos (by omega) (E2.bind (bV _ _ _) ?_))))
  by_cases h1:1<=((rd gW l (i:Int)).1:Int)/\((rd gW l (i:Int)).1:Int)<=100
  ·refine E2.neg (by simpa using h1) (E2.bind (bV _ _ _) ?_)
   by_cases h2:1<=((rd gW l (i:Int)).2.1:Int)/\((rd gW l (i:Int)).2.1:Int)<=4
   ·refine E2.neg (by simpa using h2) (E2.bind (bV _ _ _) ?_)
    by_cases h3:0<=((rd gW l (i:Int)).2.2.1:Int)/\((rd gW l (i:Int)).2.2.1:Int)<=9
    ·refine E2.neg (by simpa using h3) (E2.bind (bV _ _ _) ?_)
     by_cases h4:0<=((rd gW l (i:Int)).2.2.2.1:Int)/\((rd gW l (i:Int)).2.2.2.1:Int)<=100000
     ·refine E2.neg (by simpa using h4) (E2.bind (bV _ _ _) ?_)
      by_cases h5:1<=((rd gW l (i:Int)).2.2.2.2.1:Int)/\((rd gW l (i:Int)).2.2.2.2.1:Int)<=99
      ·obtain ⟨c,c1⟩:=notM l i hq ⟨h1,h2,h3,h4,h5⟩
       refine E2.neg (by simpa using h5) (E2.pos (by omega) ?_)
       simp only [mD c (show i<9223372036854775807 by omega)]
       exact E2.pos (by omega) (E2.pos (by omega) (E2.bind (GY _ _) (E2.pos (by simpa using c1) E2.ret)))
      ·exact E2.pos (by simpa using h5) E2.ret
     ·exact E2.pos (by simpa using h4) E2.ret
    ·exact E2.pos (by simpa using h3) E2.ret
   ·exact E2.pos (by simpa using h2) E2.ret
  ·exact E2.pos (by simpa using h1) E2.ret)
 exact ⟨r,Ev.eq (fun k=>CZ k l) (Ev.loop (f:=fun k m=>dJ.l0 k m l 0) er),hr⟩
theorem KT (l:List gy) (hl:l.length<=1048576):∃ r,Ev (fun k=>dJ k l) r/\(r=true ↔ KR l):=IE l (by omega)
theorem IG (l:List gy) (hl:l.length<=2097152):∃ r,Ev (fun k=>dK k l) r/\(r=true ↔ KR l):=by
 obtain ⟨r,er,hr⟩:=kW (R:=fun i v=>E2 (fun k m=>dK.l0 k m l l ((List.length l:Nat):Int) i) v) (n:=l.length) (QM l) (decide (((l.length:Nat):Int)<=30)) (E2.eq (fun k m=>dK.aB k m l l _ _) (E2.neg (by omega) E2.ret)) (fun i hi hq v e=>by
  obtain ⟨⟨h1,h2,h3,h4,h5⟩,h6⟩:=hq
  refine E2.eq (fun k m=>dK.aB k m l l _ _) (E2.pos (by omega) (E2.pos (by omega) (E2.pos (by omega) (E2.bind (aV _ _ _) (E2.neg (by simpa using h1) (E2.bind (aV _ _ _) (E2.neg (by simpa using h2) (E2.bind (aV _ _ _) (E2.neg (by simpa using h3) (E2.bind (aV _ _ _) (E2.neg (by simpa using h4) (E2.bind (aV _ _ _) (E2.neg (by simpa using h5) ?_)))))))))))))
  simp only [bX (show i<9223372036854775807 by omega)]
  by_cases c:0<i
  ·refine E2.pos (by omega) ?_
   simp only [mD c (show i<9223372036854775807 by omega)]
   have:=(PG _ _).2 (h6 c)
   exact E2.pos (by omega) (E2.pos (by omega) (E2.bind (JG _ _) (E2.neg (by omega) e)))
  ·exact E2.neg (by omega) e) (fun i hi hq=>by
  refine E2.eq (fun k m=>dK.aB k m l l _ _) (E2.pos (by omega) (E2.pos (by omega) (E2.pos (by omega) (E2.bind (aV _ _ _) ?_))))
  by_cases h1:1<=((rd gW l (i:Int)).1:Int)/\((rd gW l (i:Int)).1:Int)<=100
  ·refine E2.neg (by simpa using h1) (E2.bind (aV _ _ _) ?_)
   by_cases h2:1<=((rd gW l (i:Int)).2.1:Int)/\((rd gW l (i:Int)).2.1:Int)<=4
   ·refine E2.neg (by simpa using h2) (E2.bind (aV _ _ _) ?_)
    by_cases h3:0<=((rd gW l (i:Int)).2.2.1:Int)/\((rd gW l (i:Int)).2.2.1:Int)<=9
    ·refine E2.neg (by simpa using h3) (E2.bind (aV _ _ _) ?_)
     by_cases h4:0<=((rd gW l (i:Int)).2.2.2.1:Int)/\((rd gW l (i:Int)).2.2.2.1:Int)<=100000
     ·refine E2.neg (by simpa using h4) (E2.bind (aV _ _ _) ?_)
      by_cases h5:1<=((rd gW l (i:Int)).2.2.2.2.1:Int)/\((rd gW l (i:Int)).2.2.2.2.1:Int)<=99
      ·obtain ⟨c,c1⟩:=notM l i hq ⟨h1,h2,h3,h4,h5⟩
       refine E2.neg (by simpa using h5) (E2.pos (by omega) ?_)
       simp only [mD c (show i<9223372036854775807 by omega)]
       have:=mt (PG _ _).1 c1
       exact E2.pos (by omega) (E2.pos (by omega) (E2.bind (JG _ _) (E2.pos (by omega) E2.ret)))
      ·exact E2.pos (by simpa using h5) E2.ret
     ·exact E2.pos (by simpa using h4) E2.ret
    ·exact E2.pos (by simpa using h3) E2.ret
   ·exact E2.pos (by simpa using h2) E2.ret
  ·exact E2.pos (by simpa using h1) E2.ret)
 exact ⟨r,Ev.eq (fun k=>Da k l) (Ev.loop (f:=fun k m=>dK.l0 k m l l ((List.length l:Nat):Int) 0) er),hr⟩
theorem KU (l:List gy) (hl:l.length<=1048576):∃ r,Ev (fun k=>dK k l) r/\(r=true ↔ KR l):=IG l (by omega)
def QL (l:List bq) (i:Nat):Prop:=Eq (α:=Int) (rd bT l (i:Int)).1 (i:Int)/\(LE.le (α:=Int) 1 (rd bT l (i:Int)).2.1/\LE.le (α:=Int) (rd bT l (i:Int)).2.1 500)/\(0<i->LT.lt (α:=Int) (rd bT l ((i - 1:Nat):Int)).2.1 (rd bT l (i:Int)).2.1)
def Na (l:List bq):Prop:=(∀ i,i<l.length->QL l i)/\decide (((l.length:Nat):Int)<=26)=true
theorem GZ (l:List bq) (hl:l.length<=1048576):∃ r,Ev (fun k=>cO k l) r/\(r=true ↔ Na l):=by
 obtain ⟨r,er,hr⟩:=kW (R:=fun i v=>E2 (fun k m=>cO.l0 k m l i) v) (n:=l.length) (QL l) (decide (((l.length:Nat):Int)<=26)) (E2.eq (fun k m=>cO.aB k m l _) (E2.neg (by omega) E2.ret)) (fun i hi hq v e=>by
  obtain ⟨h1,h2,h3⟩:=hq
  refine E2.eq (fun k m=>cO.aB k m l _) (E2.pos (by omega) (E2.pos (by omega) (E2.pos (by omega) (E2.neg (fun c=>c h1) (E2.pos (by omega) (E2.pos (by omega) (E2.bind (bV _ _ _) (E2.neg (by simpa using h2) ?_))))))))
  simp only [bX (show i<9223372036854775807 by omega)]
  by_cases c:0<i
  ·refine E2.pos (by omega) ?_
   simp only [mD c (show i<9223372036854775807 by omega)]
   have:=h3 c
   exact E2.pos (by omega) (E2.pos (by omega) (E2.pos (by omega) (E2.pos (by omega) (E2.neg (by omega) e))))
  ·exact E2.neg (by omega) e) (fun i hi hq=>by
  refine E2.eq (fun k m=>cO.aB k m l _) (E2.pos (by omega) (E2.pos (by omega) (E2.pos (by omega) ?_)))
  by_cases h1:Eq (α:=Int) (rd bT l (i:Int)).1 (i:Int)
  ·refine E2.neg (fun c=>c h1) (E2.pos (by omega) (E2.pos (by omega) (E2.bind (bV _ _ _) ?_)))
   by_cases h2:LE.le (α:=Int) 1 (rd bT l (i:Int)).2.1/\LE.le (α:=Int) (rd bT l (i:Int)).2.1 500
   ·have c:0<i:=by
     rcases Nat.eq_zero_or_pos i with h | h
     ·exact absurd ⟨h1,h2,fun h'=>by omega⟩ hq
     ·exact h
    have h3:¬ LT.lt (α:=Int) (rd bT l ((i - 1:Nat):Int)).2.1 (rd bT l (i:Int)).2.1:=fun h=>hq ⟨h1,h2,fun _=>h⟩
    refine E2.neg (by simpa using h2) (E2.pos (by omega) ?_)
    simp only [mD c (show i<9223372036854775807 by omega)]
    exact E2.pos (by omega) (E2.pos (by omega) (E2.pos (by omega) (E2.pos (by omega) (E2.pos (by omega) E2.ret))))
   ·exact E2.pos (by simpa using h2) E2.ret
  ·exact E2.pos h1 E2.ret)
 exact ⟨r,Ev.eq (fun k=>Ac k l) (Ev.loop (f:=fun k m=>cO.l0 k m l 0) er),hr⟩
theorem He (l:List bq) (hl:l.length<=1048576):∃ r,Ev (fun k=>cZ k l) r/\(r=true ↔ Na l):=by
 obtain ⟨r,er,hr⟩:=kW (R:=fun i v=>E2 (fun k m=>cZ.l0 k m l l ((List.length l:Nat):Int) i) v) (n:=l.length) (QL l) (decide (((l.length:Nat):Int)<=26)) (E2.eq (fun k m=>cZ.aB k m l l _ _) (E2.neg (by omega) E2.ret)) (fun i hi hq v e=>by
  obtain ⟨h1,h2,h3⟩:=hq
  refine E2.eq (fun k m=>cZ.aB k m l l _ _) (E2.pos (by omega) (E2.pos (by omega) (E2.pos (by omega) (E2.neg (fun c=>c h1) (E2.bind (aV _ _ _) (E2.neg (by simpa using h2) ?_))))))
  simp only [bX (show i<9223372036854775807 by omega)]
  by_cases c:0<i
  ·refine E2.pos (by omega) ?_
   simp only [mD c (show i<9223372036854775807 by omega)]
   have:=h3 c
   exact E2.pos (by omega) (E2.pos (by omega) (E2.neg (by omega) e))
  ·exact E2.neg (by omega) e) (fun i hi hq=>by
  refine E2.eq (fun k m=>cZ.aB k m l l _ _) (E2.pos (by omega) (E2.pos (by omega) (E2.pos (by omega) ?_)))
  by_cases h1:Eq (α:=Int) (rd bT l (i:Int)).1 (i:Int)
  ·refine E2.neg (fun c=>c h1) (E2.bind (aV _ _ _) ?_)
   by_cases h2:LE.le (α:=Int) 1 (rd bT l (i:Int)).2.1/\LE.le (α:=Int) (rd bT l (i:Int)).2.1 500
   ·have c:0<i:=by
     rcases Nat.eq_zero_or_pos i with h | h
     ·exact absurd ⟨h1,h2,fun h'=>by omega⟩ hq
     ·exact h
    have h3:¬ LT.lt (α:=Int) (rd bT l ((i - 1:Nat):Int)).2.1 (rd bT l (i:Int)).2.1:=fun h=>hq ⟨h1,h2,fun _=>h⟩
    refine E2.neg (by simpa using h2) (E2.pos (by omega) ?_)
    simp only [mD c (show i<9223372036854775807 by omega)]
    exact E2.pos (by omega) (E2.pos (by omega) (E2.pos (by omega) E2.ret))
   ·exact E2.pos (by simpa using h2) E2.ret
  ·exact E2.pos h1 E2.ret)
 exact ⟨r,Ev.eq (fun k=>Ad k l) (Ev.loop (f:=fun k m=>cZ.l0 k m l l ((List.length l:Nat):Int) 0) er),hr⟩
theorem Hf (l:List Int) (x:Int) (hl:l.length<=1048576):Ev (fun k=>gF k l x) (decide (x ∈ l)):=by
 refine Df ?_
 obtain ⟨r,er,hr⟩:=Qy (R:=fun i v=>E2 (fun k m=>gF.l0 k m l x i) v) (n:=l.length) (fun i=>Eq (α:=Int) (rd (.int .i64) l (i:Int)) x) (E2.eq (fun k m=>gF.aB k m l x _) (E2.neg (by omega) E2.ret)) (fun i hi hq v e=>by
  refine E2.eq (fun k m=>gF.aB k m l x _) (E2.pos (by omega) (E2.pos (by omega) (E2.pos (by omega) (E2.neg hq ?_))))
  simp only [bX (show i<9223372036854775807 by omega)];exact e) (fun i hi hq=>E2.eq (fun k m=>gF.aB k m l x _) (E2.pos (by omega) (E2.pos (by omega) (E2.pos (by omega) (E2.pos hq E2.ret)))))
 refine ⟨r,Ev.eq (fun k=>GQ k l x) (Ev.loop (f:=fun k m=>gF.l0 k m l x 0) er),hr.trans ⟨fun ⟨i,hi,h⟩=>?_,fun h=>?_⟩⟩
 ·rw [<- h,jf hi];exact List.getElem_mem hi
 ·obtain ⟨i,hi,h⟩:=List.mem_iff_getElem.1 h
  exact ⟨i,hi,by rw [jf hi];exact h⟩
theorem SQ (l:List Int) (x:Int) (hl:l.length<=1048576):Ev (fun k=>aY k l x) (yc (fun i=>decide (Eq (α:=Int) x (rd (.int .i64) l (i:Int)))) l.length):=by
 have er:=yg (R:=fun i v=>E2 (fun k m=>aY.l0 k m l x ((List.length l:Nat):Int) i) v) (n:=l.length) (fun i=>decide (Eq (α:=Int) x (rd (.int .i64) l (i:Int)))) (E2.eq (fun k m=>aY.aB k m l x _ _) (E2.neg (by omega) E2.ret)) (fun i hi hq v e=>by
  refine E2.eq (fun k m=>aY.aB k m l x _ _) (E2.pos (by omega) (E2.pos (by omega) (E2.pos (by omega) (E2.neg (by simpa using hq) ?_))))
  simp only [bX (show i<9223372036854775807 by omega)];exact e) (fun i hi hq=>E2.eq (fun k m=>aY.aB k m l x _ _) (E2.pos (by omega) (E2.pos (by omega) (E2.pos (by omega) (E2.pos (by simpa using hq) E2.ret)))))
 exact Ev.eq (fun k=>rW k l x) (Ev.loop (f:=fun k m=>aY.l0 k m l x ((List.length l:Nat):Int) 0) er)
theorem qj (l:List Int) (x:Int) (hl:l.length<=1048576):Ev (fun k=>iD k l x) (decide (x ∈ l)):=by
 refine Ev.eq (fun k=>qG k l x) (Ev.bind (SQ l x hl) (Ev.ret.val ?_))
 rw [Bool.eq_iff_iff,decide_eq_true_eq,decide_eq_true_eq,zC]
 constructor
 ·rintro ⟨i,hi,h⟩
  have h:x=rd (.int .i64) l (i:Int):=by simpa using h
  rw [h,jf hi];exact List.getElem_mem hi
 ·intro h
  obtain ⟨i,hi,h⟩:=List.mem_iff_getElem.1 h
  exact ⟨i,hi,by rw [decide_eq_true_eq,jf hi];exact h.symm⟩
def lJ (v:Int) (e:bA):Bool:=decide ((e.2.2.2.1:Int)=v)
theorem KV (l:List bA) (v:Int) (hl:l.length<=1048576):Ev (fun k=>fJ k l v) (l.filter (lJ v)):=by
 have er:=KN (t:=fF) (l:=l) (R:=fun i s r=>E2 (fun k m=>fJ.l0 k m l v i s) r) (lJ v) (fun s=>E2.eq (fun k m=>fJ.aB k m l v _ s) (E2.neg (by omega) E2.ret)) (fun i s hi hs hq r e=>by
  refine E2.eq (fun k m=>fJ.aB k m l v _ s) (E2.pos (by omega) (E2.pos (by omega) (E2.pos (by omega) (E2.pos (of_decide_eq_true hq) (E2.pos (by omega) (E2.pos (by omega) (E2.pos (by simp only [List.length_cons,List.length_nil];omega) ?_)))))))
  simp only [bX (show i<9223372036854775807 by omega)];exact e) (fun i s hi hs hq r e=>by
  refine E2.eq (fun k m=>fJ.aB k m l v _ s) (E2.pos (by omega) (E2.pos (by omega) (E2.pos (by omega) (E2.neg (of_decide_eq_false hq) ?_))))
  simp only [bX (show i<9223372036854775807 by omega)];exact e)
 exact Ev.eq (fun k=>Ew k l v) (Ev.loop (f:=fun k m=>fJ.l0 k m l v 0 []) er)
theorem KW (e:bA) (v:Int):Ev (fun k=>oC k e v) (! lJ v e):=by
 refine Ev.eq (fun k=>BD k e v) (Ev.ret.val ?_)
 unfold lJ
 simp
theorem Qz (l:List bA) (v:Int) (hl:l.length<=1048576):Ev (fun k=>aF k l v) (l.filter (lJ v)):=by
 have ei:Ev (fun k=>aI k l v) (yc (fun i=>! lJ v (rd fF l (i:Int))) l.length):=by
  have er:=yg (R:=fun i r=>E2 (fun k m=>aI.l0 k m l v ((List.length l:Nat):Int) i) r) (n:=l.length) (fun i=>! lJ v (rd fF l (i:Int))) (E2.eq (fun k m=>aI.aB k m l v _ _) (E2.neg (by omega) E2.ret)) (fun i hi hq r e=>by
   refine E2.eq (fun k m=>aI.aB k m l v _ _) (E2.pos (by omega) (E2.pos (by omega) (E2.pos (by omega) (E2.bind (KW _ _) (E2.neg (by rw [hq];simp) ?_)))))
   simp only [bX (show i<9223372036854775807 by omega)];exact e) (fun i hi hq=>E2.eq (fun k m=>aI.aB k m l v _ _) (E2.pos (by omega) (E2.pos (by omega) (E2.pos (by omega) (E2.bind (KW _ _) (E2.pos hq E2.ret))))))
  exact Ev.eq (fun k=>nN k l v) (Ev.loop (f:=fun k m=>aI.l0 k m l v ((List.length l:Nat):Int) 0) er)
 refine Ev.eq (fun k=>ng k l v) (Ev.bind ei ?_)
 rcases sP (fun i=>! lJ v (rd fF l (i:Int))) l.length with ⟨h,hall⟩ | ⟨r,h,hr,h1,h0⟩
 ·refine Ev.pos h (Ev.ret.val ?_)
  symm
  rw [List.filter_eq_self]
  intro x hx
  obtain ⟨i,hi,rfl⟩:=List.mem_iff_getElem.1 hx
  have:=hall i hi
  rw [jf hi] at this
  simpa using this
 ·rw [h]
  refine Ev.neg (by omega) ?_
  rw [bX (by omega)]
  refine Ev.loop (f:=fun k m=>aF.l0 k m v (r:Int) ((r+1:Nat):Int) l) ?_
  refine KO (t:=fF) (l:=l) (R:=fun i j s w=>E2 (fun k m=>aF.l0 k m v i j s) w) (lJ v) (fun i s hi hs=>?_) (fun i j s hij hj hs hq w e=>?_) (fun i j s hij hj hs hq w e=>?_) r hr (fun j hj=>by simpa using h0 j hj) (by simpa using h1)
  ·refine E2.eq (fun k m=>aF.aB k m v _ _ s) (E2.neg (by omega) (E2.pos (by omega) (E2.pos (by omega) (E2.pos (by omega) (E2.pos ?_ (E2.ret.val ?_))))))
   ·simp only [List.length_append,List.length_take,List.length_replicate,List.length_drop,Int.toNat_natCast]
    omega
   ·simp only [Int.toNat_natCast,show Int.toNat 0=0 from rfl,Nat.sub_zero,List.drop_zero]
    rw [List.append_assoc,List.take_append_of_le_length (by simp;omega),List.take_take,Nat.min_self]
  ·refine E2.eq (fun k m=>aF.aB k m v _ _ s) (E2.pos (by omega) (E2.pos (by omega) (E2.pos (by omega) (E2.bind (KW _ _) (E2.pos (by rw [hq];simp) (E2.pos (by omega) (E2.pos (by omega) ?_)))))))
   simp only [bX (show i<9223372036854775807 by omega),bX (show j<9223372036854775807 by omega),Int.toNat_natCast];exact e
  ·refine E2.eq (fun k m=>aF.aB k m v _ _ s) (E2.pos (by omega) (E2.pos (by omega) (E2.pos (by omega) (E2.bind (KW _ _) (E2.neg (by rw [hq];simp) ?_)))))
   simp only [bX (show j<9223372036854775807 by omega)];exact e
theorem JH (l:List bA) (hl:l.length<=1048576):Ev (fun k=>jE k l) l:=
 Ev.eq (fun k=>tO k l) (Ev.pos (by simp only [List.length_nil];omega) (Ev.ret.val (by simp)))
theorem KX (l:List bA) (v:Int) (hl:l.length<=1048576):Ev (fun k=>vY k l v) (l.filter (lJ v)):=
 Ev.eq (fun k=>Ey k l v) (Ev.bind (JH l hl) (Ev.bind (Qz l v hl) Ev.ret))
def QF (lo hi:Int) (l:List bA) (i:Nat):Prop:=LE.le (α:=Int) lo (rd fF l (i:Int)).2.2.1/\LE.le (α:=Int) (rd fF l (i:Int)).2.2.1 hi
def SS (l:List bA) (lo hi:Int):Prop:=(∀ i,i<l.length->QF lo hi l i)/\decide (mF l)=true
theorem Nb (l:List bA) (lo hi:Int) (hl:l.length<=1048576):∃ r,Ev (fun k=>dX k l lo hi) r/\(r=true ↔ SS l lo hi):=by
 obtain ⟨r,er,hr⟩:=kW (R:=fun i v=>E2 (fun k m=>dX.l0 k m l lo hi i) v) (n:=l.length) (QF lo hi l) (decide (mF l)) (E2.eq (fun k m=>dX.aB k m l lo hi _) (E2.neg (by omega) (E2.bind (gB l hl) (E2.ret.val (by simp))))) (fun i hi' hq v e=>by
  refine E2.eq (fun k m=>dX.aB k m l lo hi _) (E2.pos (by omega) (E2.pos (by omega) (E2.pos (by omega) (E2.bind (bV _ _ _) (E2.neg (by simpa [QF] using hq) ?_)))))
  simp only [bX (show i<9223372036854775807 by omega)];exact e) (fun i hi' hq=>E2.eq (fun k m=>dX.aB k m l lo hi _) (E2.pos (by omega) (E2.pos (by omega) (E2.pos (by omega) (E2.bind (bV _ _ _) (E2.pos (by simp only [decide_eq_true_eq];exact hq) E2.ret))))))
 exact ⟨r,Ev.eq (fun k=>Bw k l lo hi) (Ev.loop (f:=fun k m=>dX.l0 k m l lo hi 0) er),hr⟩
theorem Nc (l:List bA) (lo hi:Int) (hl:l.length<=1048576):∃ r,Ev (fun k=>dY k l lo hi) r/\(r=true ↔ SS l lo hi):=by
 obtain ⟨r,er,hr⟩:=kW (R:=fun i v=>E2 (fun k m=>dY.l0 k m l lo hi l ((List.length l:Nat):Int) i) v) (n:=l.length) (QF lo hi l) (decide (mF l)) (E2.eq (fun k m=>dY.aB k m l lo hi l _ _) (E2.neg (by omega) (E2.bind (fK l hl) (E2.ret.val (by simp))))) (fun i hi' hq v e=>by
  refine E2.eq (fun k m=>dY.aB k m l lo hi l _ _) (E2.pos (by omega) (E2.pos (by omega) (E2.pos (by omega) (E2.bind (aV _ _ _) (E2.neg (by simpa [QF] using hq) ?_)))))
  simp only [bX (show i<9223372036854775807 by omega)];exact e) (fun i hi' hq=>E2.eq (fun k m=>dY.aB k m l lo hi l _ _) (E2.pos (by omega) (E2.pos (by omega) (E2.pos (by omega) (E2.bind (aV _ _ _) (E2.pos (by simp only [decide_eq_true_eq];exact hq) E2.ret))))))
 exact ⟨r,Ev.eq (fun k=>BA k l lo hi) (Ev.loop (f:=fun k m=>dY.l0 k m l lo hi l ((List.length l:Nat):Int) 0) er),hr⟩
def SV (p:bE) (l:List bA) (v:Int):Prop:=(v:Int) ∈ p.2.2.2.1/\mF l/\SS (l.filter (lJ v)) p.2.1 p.2.2.1
theorem filter_le (l:List bA) (v:Int) (hl:l.length<=1048576):(l.filter (lJ v)).length<=1048576:=Nat.le_trans (List.length_filter_le _ _) hl
theorem OL (p:bE) (l:List bA) (v:Int) (hp:p.2.2.2.1.length<=1048576) (hl:l.length<=1048576):∃ r,Ev (fun k=>vW k p l v) r/\(r=true ↔ SV p l v):=by
 unfold SV
 by_cases c1:(v:Int) ∈ p.2.2.2.1
 ·by_cases c2:mF l
  ·obtain ⟨r,er,hr⟩:=Nb (l.filter (lJ v)) p.2.1 p.2.2.1 (filter_le l v hl)
   exact ⟨r,Ev.eq (fun k=>qF k p l v) (Ev.bind (Hf _ _ hp) (Ev.pos (by simpa using c1) (Ev.bind (gB l hl) (Ev.pos (by simpa using c2) (Ev.bind (KV l v hl) (Ev.bind er (Ev.ret.val (by simp)))))))),by rw [hr];exact ⟨fun h=>⟨c1,c2,h⟩,fun h=>h.2.2⟩⟩
  ·exact ⟨false,Ev.eq (fun k=>qF k p l v) (Ev.bind (Hf _ _ hp) (Ev.pos (by simpa using c1) (Ev.bind (gB l hl) (Ev.neg (by simpa using c2) Ev.ret)))),by simp only [Bool.false_eq_true,false_iff];exact fun h=>c2 h.2.1⟩
 ·exact ⟨false,Ev.eq (fun k=>qF k p l v) (Ev.bind (Hf _ _ hp) (Ev.neg (by simpa using c1) Ev.ret)),by simp only [Bool.false_eq_true,false_iff];exact fun h=>c1 h.1⟩
theorem OM (p:bE) (l:List bA) (v:Int) (hp:p.2.2.2.1.length<=1048576) (hl:l.length<=1048576):∃ r,Ev (fun k=>vX k p l v) r/\(r=true ↔ SV p l v):=by
 unfold SV
 by_cases c1:(v:Int) ∈ p.2.2.2.1
 ·by_cases c2:mF l
  ·obtain ⟨r,er,hr⟩:=Nc (l.filter (lJ v)) p.2.1 p.2.2.1 (filter_le l v hl)
   exact ⟨r,Ev.eq (fun k=>qH k p l v) (Ev.bind (qj _ _ hp) (Ev.pos (by simpa using c1) (Ev.bind (fK l hl) (Ev.pos (by simpa using c2) (Ev.bind (KX l v hl) (Ev.bind er (Ev.ret.val (by simp)))))))),by rw [hr];exact ⟨fun h=>⟨c1,c2,h⟩,fun h=>h.2.2⟩⟩
  ·exact ⟨false,Ev.eq (fun k=>qH k p l v) (Ev.bind (qj _ _ hp) (Ev.pos (by simpa using c1) (Ev.bind (fK l hl) (Ev.neg (by simpa using c2) Ev.ret)))),by simp only [Bool.false_eq_true,false_iff];exact fun h=>c2 h.2.1⟩
 ·exact ⟨false,Ev.eq (fun k=>qH k p l v) (Ev.bind (qj _ _ hp) (Ev.neg (by simpa using c1) Ev.ret)),by simp only [Bool.false_eq_true,false_iff];exact fun h=>c1 h.1⟩
def QA (lo hi:Int) (l:List Int) (i:Nat):Prop:=(LE.le (α:=Int) lo (rd (.int .i64) l (i:Int))/\LE.le (α:=Int) (rd (.int .i64) l (i:Int)) hi)/\(0<i->LT.lt (α:=Int) (rd (.int .i64) l ((i - 1:Nat):Int)) (rd (.int .i64) l (i:Int)))
def Ul (l:List Int) (lo hi:Int):Prop:=∀ i,i<l.length->QA lo hi l i
theorem Xy {lo hi:Int} {l:List Int} {i:Nat} (h:¬ QA lo hi l i) (h1:LE.le (α:=Int) lo (rd (.int .i64) l (i:Int))/\LE.le (α:=Int) (rd (.int .i64) l (i:Int)) hi):0<i/\¬ LT.lt (α:=Int) (rd (.int .i64) l ((i - 1:Nat):Int)) (rd (.int .i64) l (i:Int)):=by
 refine ⟨?_,fun c=>h ⟨h1,fun _=>c⟩⟩
 rcases Nat.eq_zero_or_pos i with hi | hi
 ·exact absurd ⟨h1,fun h'=>by omega⟩ h
 ·exact hi
theorem OO (l:List Int) (lo hi:Int) (hl:l.length<=2097152):∃ r,Ev (fun k=>dn k l lo hi) r/\(r=true ↔ Ul l lo hi):=by
 obtain ⟨r,er,hr⟩:=kW (R:=fun i v=>E2 (fun k m=>dn.l0 k m l lo hi l ((List.length l:Nat):Int) i) v) (n:=l.length) (QA lo hi l) true (E2.eq (fun k m=>dn.aB k m l lo hi l _ _) (E2.neg (by omega) E2.ret)) (fun i hi' hq v e=>by
  obtain ⟨h1,h2⟩:=hq
  refine E2.eq (fun k m=>dn.aB k m l lo hi l _ _) (E2.pos (by omega) (E2.pos (by omega) (E2.pos (by omega) (E2.bind (aV _ _ _) (E2.neg (by simpa using h1) ?_)))))
  simp only [bX (show i<9223372036854775807 by omega)]
  by_cases c:0<i
  ·refine E2.pos (by omega) ?_
   simp only [mD c (show i<9223372036854775807 by omega)]
   have:=h2 c
   exact E2.pos (by omega) (E2.pos (by omega) (E2.neg (by omega) e))
  ·exact E2.neg (by omega) e) (fun i hi' hq=>by
  refine E2.eq (fun k m=>dn.aB k m l lo hi l _ _) (E2.pos (by omega) (E2.pos (by omega) (E2.pos (by omega) (E2.bind (aV _ _ _) ?_))))
  by_cases h1:LE.le (α:=Int) lo (rd (.int .i64) l (i:Int))/\LE.le (α:=Int) (rd (.int .i64) l (i:Int)) hi
  ·obtain ⟨c,c1⟩:=Xy hq h1
   refine E2.neg (by simpa using h1) (E2.pos (by omega) ?_)
   simp only [mD c (show i<9223372036854775807 by omega)]
   exact E2.pos (by omega) (E2.pos (by omega) (E2.pos (by omega) E2.ret))
  ·exact E2.pos (by simp only [decide_eq_true_eq];exact h1) E2.ret)
 exact ⟨r,Ev.eq (fun k=>Bz k l lo hi) (Ev.loop (f:=fun k m=>dn.l0 k m l lo hi l ((List.length l:Nat):Int) 0) er),hr.trans ⟨fun h=>h.1,fun h=>⟨h,rfl⟩⟩⟩
def Zj (p:bE):Prop:=(21<=(p.2.1:Int)/\(p.2.1:Int)<=p.2.2.1)/\(p.2.2.1:Int)<=108/\Ul p.2.2.2.1 1 4
def QP (l:List bE) (i:Nat):Prop:=Zj (rd bD l (i:Int))/\(1<=((rd bD l (i:Int)).1:Int)/\((rd bD l (i:Int)).1:Int)<=99)/\(0<i->LT.lt (α:=Int) (rd bD l ((i - 1:Nat):Int)).1 (rd bD l (i:Int)).1)
def ni (l:List bE):Prop:=(∀ i,i<l.length->QP l i)/\decide (((l.length:Nat):Int)<=8)=true
def VF (l:List bE):Prop:=l.length<=2097152/\∀ i:Nat,i<l.length->(rd bD l (i:Int)).2.2.2.1.length<=1048576
theorem QB (l:List bE) (i:Nat) (a b c:Int) (vs:List Int) (hv:vs.length<=1048576) (hi:i<l.length) (hl:l.length<=2097152) (x:Bool) (e:E2 (fun k n=>aC.l0 k n l ((i+1:Nat):Int)) x) :
  ∃ r,E2 (fun k n=>aC.l1 k k n l (i:Int) 0 a b c vs) r/\(r=true ↔ Ul vs 1 4/\x=true):=by
 obtain ⟨r,er,hr⟩:=kW (R:=fun j v=>E3 (fun k m n=>aC.l1 k m n l (i:Int) j a b c vs) v) (n:=vs.length) (QA 1 4 vs) x (by
  refine E3.eq (fun k m n=>aC.zA k m n l (i:Int) _ a b c vs) (E3.neg (by omega) ?_)
  simp only [bX (show i<9223372036854775807 by omega)]
  exact E3.out e) (fun j hj hq v e=>by
  obtain ⟨h1,h2⟩:=hq
  refine E3.eq (fun k m n=>aC.zA k m n l (i:Int) _ a b c vs) (E3.pos (by omega) (E3.pos (by omega) (E3.pos (by omega) (E3.bind (bV _ _ _) (E3.neg (by simpa using h1) ?_)))))
  simp only [bX (show j<9223372036854775807 by omega)]
  by_cases c:0<j
  ·refine E3.pos (by omega) ?_
   simp only [mD c (show j<9223372036854775807 by omega)]
   have:=h2 c
   exact E3.pos (by omega) (E3.pos (by omega) (E3.pos (by omega) (E3.pos (by omega) (E3.neg (by omega) e))))
  ·exact E3.neg (by omega) e) (fun j hj hq=>by
  refine E3.eq (fun k m n=>aC.zA k m n l (i:Int) _ a b c vs) (E3.pos (by omega) (E3.pos (by omega) (E3.pos (by omega) (E3.bind (bV _ _ _) ?_))))
  by_cases h1:LE.le (α:=Int) 1 (rd (.int .i64) vs (j:Int))/\LE.le (α:=Int) (rd (.int .i64) vs (j:Int)) 4
  ·obtain ⟨c,c1⟩:=Xy hq h1
   refine E3.neg (by simpa using h1) (E3.pos (by omega) ?_)
   simp only [mD c (show j<9223372036854775807 by omega)]
   exact E3.pos (by omega) (E3.pos (by omega) (E3.pos (by omega) (E3.pos (by omega) (E3.pos (by omega) E3.ret))))
  ·exact E3.pos (by simp only [decide_eq_true_eq];exact h1) E3.ret)
 exact ⟨r,E3.loop (f:=fun k m n=>aC.l1 k m n l (i:Int) 0 a b c vs) er,hr⟩
theorem Hg (l:List bE) (hs:VF l):∃ r,Ev (fun k=>aC k l) r/\(r=true ↔ ni l):=by
 have hl:=hs.1
 have key:∀ d i,i+d=l.length->∃ r,E2 (fun k m=>aC.l0 k m l (i:Int)) r/\(r=true ↔ (∀ j,i<=j->j<l.length->QP l j)/\decide (((l.length:Nat):Int)<=8)=true):=by
  intro d
  induction d with
  | zero=>
   intro i hi
   exact ⟨_,E2.eq (fun k m=>aC.aB k m l _) (E2.neg (by omega) E2.ret),⟨fun h=>⟨fun j _ _=>by omega,h⟩,fun h=>h.2⟩⟩
  | succ d ih=>
   intro i hi
   have hlt:i<l.length:=by omega
   obtain ⟨x,ex,hx⟩:=ih (i+1) (by omega)
   have stop:(∃ e:E2 (fun k m=>aC.l0 k m l (i:Int)) false,True)->¬ QP l i->∃ r,E2 (fun k m=>aC.l0 k m l (i:Int)) r/\(r=true ↔ (∀ j,i<=j->j<l.length->QP l j)/\decide (((l.length:Nat):Int)<=8)=true):=fun ⟨e,_⟩ h=>
    ⟨false,e,by simp only [Bool.false_eq_true,false_iff];exact fun c=>h (c.1 i (Nat.le_refl _) hlt)⟩
   have st:∀ {f:Nat->Nat->Option Bool} {v:Bool},(∀ k m,aC.l0 k (m+1) l (i:Int)=f k m)->E2 f v->E2 (fun k m=>aC.l0 k m l (i:Int)) v:=fun h e=>E2.eq h e
   by_cases h1:LE.le (α:=Int) 1 (rd bD l (i:Int)).1/\LE.le (α:=Int) (rd bD l (i:Int)).1 99
   ·by_cases h2:LE.le (α:=Int) 21 (rd bD l (i:Int)).2.1
    ·by_cases h3:LE.le (α:=Int) (rd bD l (i:Int)).2.1 (rd bD l (i:Int)).2.2.1
     ·by_cases h4:LE.le (α:=Int) (rd bD l (i:Int)).2.2.1 108
      ·obtain ⟨r,er,hr⟩:=QB l i (rd bD l (i:Int)).1 (rd bD l (i:Int)).2.1 (rd bD l (i:Int)).2.2.1 (rd bD l (i:Int)).2.2.2.1 (hs.2 i hlt) hlt hl x ex
       by_cases c:0<i
       ·by_cases h5:LT.lt (α:=Int) (rd bD l ((i - 1:Nat):Int)).1 (rd bD l (i:Int)).1
        ·refine ⟨r,E2.eq (fun k m=>aC.aB k m l _) (E2.pos (by omega) (E2.pos (by omega) (E2.pos (by omega) (E2.bind (bV _ _ _) (E2.neg (by simpa using h1) (E2.neg (by omega) (E2.neg (by omega) (E2.neg (by omega) (E2.pos (by omega) ?_))))))))),hr.trans ⟨fun ⟨h6,h7⟩=>⟨fun j hj1 hj2=>?_,(hx.1 h7).2⟩,fun h=>⟨(h.1 i (Nat.le_refl _) hlt).1.2.2,hx.2 ⟨fun j hj1 hj2=>h.1 j (by omega) hj2,h.2⟩⟩⟩⟩
         ·simp only [mD c (show i<9223372036854775807 by omega)]
          exact E2.pos (by omega) (E2.pos (by omega) (E2.neg (by omega) er))
         ·by_cases hji:j=i
          ·subst hji;exact ⟨⟨⟨h2,h3⟩,h4,h6⟩,h1,fun _=>h5⟩
          ·exact (hx.1 h7).1 j (by omega) hj2
        ·refine stop ⟨E2.eq (fun k m=>aC.aB k m l _) (E2.pos (by omega) (E2.pos (by omega) (E2.pos (by omega) (E2.bind (bV _ _ _) (E2.neg (by simpa using h1) (E2.neg (by omega) (E2.neg (by omega) (E2.neg (by omega) (E2.pos (by omega) ?_))))))))),trivial⟩ (fun h=>h5 (h.2.2 c))
         simp only [mD c (show i<9223372036854775807 by omega)]
         exact E2.pos (by omega) (E2.pos (by omega) (E2.pos (by omega) E2.ret))
       ·refine ⟨r,E2.eq (fun k m=>aC.aB k m l _) (E2.pos (by omega) (E2.pos (by omega) (E2.pos (by omega) (E2.bind (bV _ _ _) (E2.neg (by simpa using h1) (E2.neg (by omega) (E2.neg (by omega) (E2.neg (by omega) (E2.neg (by omega) er))))))))),hr.trans ⟨fun ⟨h6,h7⟩=>⟨fun j hj1 hj2=>?_,(hx.1 h7).2⟩,fun h=>⟨(h.1 i (Nat.le_refl _) hlt).1.2.2,hx.2 ⟨fun j hj1 hj2=>h.1 j (by omega) hj2,h.2⟩⟩⟩⟩
        by_cases hji:j=i
        ·subst hji;exact ⟨⟨⟨h2,h3⟩,h4,h6⟩,h1,fun h=>absurd h c⟩
        ·exact (hx.1 h7).1 j (by omega) hj2
      ·exact stop ⟨E2.eq (fun k m=>aC.aB k m l _) (E2.pos (by omega) (E2.pos (by omega) (E2.pos (by omega) (E2.bind (bV _ _ _) (E2.neg (by simpa using h1) (E2.neg (by omega) (E2.neg (by omega) (E2.pos (by omega) E2.ret)))))))),trivial⟩ (fun h=>h4 h.1.2.1)
     ·exact stop ⟨E2.eq (fun k m=>aC.aB k m l _) (E2.pos (by omega) (E2.pos (by omega) (E2.pos (by omega) (E2.bind (bV _ _ _) (E2.neg (by simpa using h1) (E2.neg (by omega) (E2.pos (by omega) E2.ret))))))),trivial⟩ (fun h=>h3 h.1.1.2)
    ·exact stop ⟨E2.eq (fun k m=>aC.aB k m l _) (E2.pos (by omega) (E2.pos (by omega) (E2.pos (by omega) (E2.bind (bV _ _ _) (E2.neg (by simpa using h1) (E2.pos (by omega) E2.ret)))))),trivial⟩ (fun h=>h2 h.1.1.1)
   ·exact stop ⟨E2.eq (fun k m=>aC.aB k m l _) (E2.pos (by omega) (E2.pos (by omega) (E2.pos (by omega) (E2.bind (bV _ _ _) (E2.pos (by simp only [decide_eq_true_eq];exact h1) E2.ret))))),trivial⟩ (fun h=>h1 h.2.1)
 obtain ⟨r,er,hr⟩:=key l.length 0 (by omega)
 exact ⟨r,Ev.eq (fun k=>Ae k l) (Ev.loop (f:=fun k m=>aC.l0 k m l 0) er),hr.trans ⟨fun h=>⟨fun i hi=>h.1 i (Nat.zero_le _) hi,h.2⟩,fun h=>⟨fun i _ hi=>h.1 i hi,h.2⟩⟩⟩
def qI (l:List bE):List Int:=l.map fun p=>p.1
theorem qX {l:List bE} {i:Nat} (h:i<l.length):Eq (α:=Int) (rd (.int .i64) (qI l) (i:Int)) (rd bD l (i:Int)).1:=by
 unfold qI
 rw [jf (by simpa using h),jf h]
 simp
theorem Hl (l:List bE) (hs:VF l):∃ r,Ev (fun k=>dh k l) r/\(r=true ↔ ni l):=by
 have hl:=hs.1
 obtain ⟨a,ea,ha⟩:=OO (qI l) 1 99 (by unfold qI;simpa using hl)
 obtain ⟨r,er,hr⟩:=kW (R:=fun i v=>E2 (fun k m=>dh.l0 k m l l ((List.length l:Nat):Int) i (qI (l.take i.toNat))) v) (n:=l.length) (fun i=>Zj (rd bD l (i:Int))) (decide (((l.length:Nat):Int)<=8/\a=true)) (by
  refine E2.eq (fun k m=>dh.aB k m l l _ _ _) (E2.neg (by omega) ?_)
  rw [Int.toNat_natCast,List.take_length]
  by_cases c:((l.length:Nat):Int)<=8
  ·exact E2.pos c (E2.bind ea (E2.ret.val (by simp [c])))
  ·exact E2.neg c (E2.ret.val (by simp [c]))) (fun i hi hq v e=>by
  obtain ⟨h1,h2,h3⟩:=hq
  obtain ⟨b,eb,hb⟩:=OO (rd bD l (i:Int)).2.2.2.1 1 4 (Nat.le_trans (hs.2 i hi) (by omega))
  have hlen:(qI (l.take ((i:Int)).toNat)).length=i:=by unfold qI;simp;omega
  refine E2.eq (fun k m=>dh.aB k m l l _ _ _) (E2.pos (by omega) (E2.pos (by omega) (E2.pos (by omega) (E2.bind (aV _ _ _) (E2.neg (by simpa using h1) (E2.neg (Int.not_lt.2 h2) (E2.bind eb (E2.neg (by simpa using hb.2 h3) (E2.pos (by rw [hlen];simp only [List.length_cons,List.length_nil];omega) ?_)))))))))
  simp only [bX (show i<9223372036854775807 by omega)]
  have he:qI (l.take ((i:Int)).toNat)++[(rd bD l (i:Int)).1]=qI (l.take (((i+1:Nat):Int)).toNat):=by
   unfold qI
   rw [Int.toNat_natCast,Int.toNat_natCast,List.take_succ_eq_append_getElem hi,jf hi,List.map_append]
   rfl
  rw [he]
  exact e) (fun i hi hq=>by
  obtain ⟨b,eb,hb⟩:=OO (rd bD l (i:Int)).2.2.2.1 1 4 (Nat.le_trans (hs.2 i hi) (by omega))
  refine E2.eq (fun k m=>dh.aB k m l l _ _ _) (E2.pos (by omega) (E2.pos (by omega) (E2.pos (by omega) (E2.bind (aV _ _ _) ?_))))
  by_cases h1:LE.le (α:=Int) 21 (rd bD l (i:Int)).2.1/\LE.le (α:=Int) (rd bD l (i:Int)).2.1 (rd bD l (i:Int)).2.2.1
  ·refine E2.neg (by simpa using h1) ?_
   by_cases h2:LE.le (α:=Int) (rd bD l (i:Int)).2.2.1 108
   ·exact E2.neg (by omega) (E2.bind eb (E2.pos (fun c=>hq ⟨h1,h2,hb.1 c⟩) E2.ret))
   ·exact E2.pos (by omega) E2.ret
  ·exact E2.pos (by simp only [decide_eq_true_eq];exact h1) E2.ret)
 have er':E2 (fun k m=>dh.l0 k m l l ((List.length l:Nat):Int) 0 []) r:=er
 refine ⟨r,Ev.eq (fun k=>Ag k l) (Ev.loop (f:=fun k m=>dh.l0 k m l l ((List.length l:Nat):Int) 0 []) er'),hr.trans ?_⟩
 unfold ni
 rw [decide_eq_true_eq,decide_eq_true_eq,ha]
 unfold Ul
 have hlen:(qI l).length=l.length:=by unfold qI;simp
 rw [hlen]
 constructor
 ·rintro ⟨h1,h2,h3⟩
  refine ⟨fun i hi=>?_,h2⟩
  obtain ⟨k1,k2⟩:=h3 i hi
  rw [qX hi] at k1
  refine ⟨h1 i hi,k1,fun c=>?_⟩
  have:=k2 c
  rw [qX hi,qX (show i - 1<l.length by omega)] at this
  exact this
 ·rintro ⟨h1,h2⟩
  refine ⟨fun i hi=>(h1 i hi).1,h2,fun i hi=>?_⟩
  obtain ⟨k1,k2,k3⟩:=h1 i hi
  refine ⟨by rw [qX hi];exact k2,fun c=>?_⟩
  rw [qX hi,qX (show i - 1<l.length by omega)]
  exact k3 c
def JI (l:List bE) (sc:List bA) (x v:Int) (j:Nat):Prop:=Eq (α:=Int) (rd bD l (j:Int)).1 x/\SV (rd bD l (j:Int)) sc v
def QI (l:List bE) (sc:List bA) (seats:List Int) (i:Nat):Prop:=(∃ j,j<l.length/\JI l sc (rd (.int .i64) seats (i:Int)) ((i+1:Nat):Int) j)/\¬ (rd (.int .i64) seats (i:Int)) ∈ seats.take i
def Ho (l:List bE) (sc:List bA) (seats:List Int):Prop:=(∀ i,i<seats.length->QI l sc seats i)/\ni l/\mF sc/\((seats.length:Nat):Int)<=4
theorem EZ (i:Nat) (s:List Int):List.take (Int.toNat (i:Int) - Int.toNat 0) (List.drop (Int.toNat 0) s)=s.take i:=by
 simp
theorem Nf (l:List bE) (sc:List bA) (seats:List Int) (hs:VF l) (h1:sc.length<=1048576) (h2:seats.length<=1048576) (i:Nat) (hi:i<seats.length) (x:Bool) (e:E2 (fun k n=>aM.l0 k n l sc seats ((i+1:Nat):Int)) x) :
  ∃ r,E2 (fun k n=>aM.l1 k k n l sc seats (i:Int) false 0) r/\(r=true ↔ QI l sc seats i/\x=true):=by
 have hl:=hs.1
 have key:∀ d (j:Nat) (g:Bool),j+d=l.length->∃ r,E3 (fun k m n=>aM.l1 k m n l sc seats (i:Int) g (j:Int)) r /\
   (r=true ↔ ((g=true\/∃ q,j<=q/\q<l.length/\JI l sc (rd (.int .i64) seats (i:Int)) ((i+1:Nat):Int) q)/\¬ (rd (.int .i64) seats (i:Int)) ∈ seats.take i)/\x=true):=by
  intro d
  induction d with
  | zero=>
   intro j g hj
   have no:¬ ∃ q,j<=q/\q<l.length/\JI l sc (rd (.int .i64) seats (i:Int)) ((i+1:Nat):Int) q:=by rintro ⟨q,h3,h4,_⟩;omega
   cases g with
   | false=>
    exact ⟨false,E3.eq (fun k m n=>aM.zA k m n l sc seats (i:Int) false _) (E3.neg (by omega) (E3.pos (by simp) E3.ret)),by simp only [Bool.false_eq_true,false_iff,false_or];exact fun h=>no h.1.1⟩
   | true=>
    by_cases hm:(rd (.int .i64) seats (i:Int)) ∈ seats.take i
    ·refine ⟨false,E3.eq (fun k m n=>aM.zA k m n l sc seats (i:Int) true _) (E3.neg (by omega) (E3.neg (by simp) (E3.pos (by omega) (E3.pos (by omega) (E3.pos (by omega) (E3.pos (by omega) (E3.bind (Hf _ _ ?_) (E3.pos ?_ E3.ret)))))))),by simp [hm]⟩
     ·simp;omega
     ·rw [EZ];simpa using hm
    ·refine ⟨x,E3.eq (fun k m n=>aM.zA k m n l sc seats (i:Int) true _) (E3.neg (by omega) (E3.neg (by simp) (E3.pos (by omega) (E3.pos (by omega) (E3.pos (by omega) (E3.pos (by omega) (E3.bind (Hf _ _ ?_) (E3.neg ?_ ?_)))))))),by simp [hm]⟩
     ·simp;omega
     ·rw [EZ];simpa using hm
     ·simp only [bX (show i<9223372036854775807 by omega)]
      exact E3.out e
  | succ d ih=>
   intro j g hj
   have hlt:j<l.length:=by omega
   cases g with
   | true=>
    obtain ⟨r,er,hr⟩:=ih (j+1) true (by omega)
    refine ⟨r,E3.eq (fun k m n=>aM.zA k m n l sc seats (i:Int) true _) (E3.pos (by omega) (E3.pos rfl ?_)),hr.trans (by simp)⟩
    simp only [bX (show j<9223372036854775807 by omega)]
    exact er
   | false=>
    have wi:IntKind.wrap .i64 ((i:Int)+1)=((i+1:Nat):Int):=bX (by omega)
    by_cases hid:Eq (α:=Int) (rd bD l (j:Int)).1 (rd (.int .i64) seats (i:Int))
    ·obtain ⟨c,ec,hc⟩:=OL (rd bD l (j:Int)) sc ((i+1:Nat):Int) (hs.2 j hlt) h1
     obtain ⟨r,er,hr⟩:=ih (j+1) c (by omega)
     refine ⟨r,E3.eq (fun k m n=>aM.zA k m n l sc seats (i:Int) false _) (E3.pos (by omega) (E3.neg (by simp) (E3.pos (by omega) (E3.pos (by omega) (E3.pos (by omega) (E3.pos (by omega) (E3.pos hid (E3.pos (by omega) (E3.pos (by omega) ?_))))))))),hr.trans ?_⟩
     ·simp only [bX (show j<9223372036854775807 by omega),wi]
      refine E3.bind ec ?_
      simpa using er
     ·refine and_congr (and_congr ⟨fun h=>.inr ?_,fun h=>?_⟩ Iff.rfl) Iff.rfl
      ·rcases h with h | ⟨q,h3,h4,h5⟩
       ·exact ⟨j,Nat.le_refl _,hlt,hid,hc.1 h⟩
       ·exact ⟨q,by omega,h4,h5⟩
      ·rcases h with h | ⟨q,h3,h4,h5⟩
       ·cases h
       ·by_cases hq:q=j
        ·subst hq;exact .inl (hc.2 h5.2)
        ·exact .inr ⟨q,by omega,h4,h5⟩
    ·obtain ⟨r,er,hr⟩:=ih (j+1) false (by omega)
     refine ⟨r,E3.eq (fun k m n=>aM.zA k m n l sc seats (i:Int) false _) (E3.pos (by omega) (E3.neg (by simp) (E3.pos (by omega) (E3.pos (by omega) (E3.pos (by omega) (E3.pos (by omega) (E3.neg hid ?_))))))),hr.trans ?_⟩
     ·simp only [bX (show j<9223372036854775807 by omega)]
      exact er
     ·refine and_congr (and_congr (or_congr Iff.rfl ⟨fun ⟨q,h3,h4,h5⟩=>⟨q,by omega,h4,h5⟩,fun ⟨q,h3,h4,h5⟩=>?_⟩) Iff.rfl) Iff.rfl
      by_cases hq:q=j
      ·subst hq;exact absurd h5.1 hid
      ·exact ⟨q,by omega,h4,h5⟩
 obtain ⟨r,er,hr⟩:=key l.length 0 false (by omega)
 refine ⟨r,E3.loop (f:=fun k m n=>aM.l1 k m n l sc seats (i:Int) false 0) er,hr.trans ?_⟩
 unfold QI
 simp
theorem Hq (l:List bE) (sc:List bA) (seats:List Int) (hs:VF l) (h1:sc.length<=1048576) (h2:seats.length<=1048576):∃ r,Ev (fun k=>aM k l sc seats) r/\(r=true ↔ Ho l sc seats):=by
 have key:∀ d i,i+d=seats.length->∃ r,E2 (fun k m=>aM.l0 k m l sc seats (i:Int)) r/\(r=true ↔ (∀ j,i<=j->j<seats.length->QI l sc seats j)/\ni l/\mF sc/\((seats.length:Nat):Int)<=4):=by
  intro d
  induction d with
  | zero=>
   intro i hi
   have tr:∀ {p:Prop},(p ↔ (∀ j,i<=j->j<seats.length->QI l sc seats j)/\p):=⟨fun h=>⟨fun j _ _=>by omega,h⟩,fun h=>h.2⟩
   obtain ⟨a,ea,ha⟩:=Hg l hs
   by_cases ca:a=true
   ·by_cases cs:mF sc
    ·exact ⟨_,E2.eq (fun k m=>aM.aB k m l sc seats _) (E2.neg (by omega) (E2.bind ea (E2.pos ca (E2.bind (gB sc h1) (E2.pos (by simpa using cs) E2.ret))))),Iff.trans (by rw [decide_eq_true_eq];exact ⟨fun h=>⟨ha.1 ca,cs,h⟩,fun h=>h.2.2⟩) tr⟩
    ·exact ⟨_,E2.eq (fun k m=>aM.aB k m l sc seats _) (E2.neg (by omega) (E2.bind ea (E2.pos ca (E2.bind (gB sc h1) (E2.neg (by simpa using cs) E2.ret))))),by simp only [Bool.false_eq_true,false_iff];exact fun h=>cs h.2.2.1⟩
   ·exact ⟨_,E2.eq (fun k m=>aM.aB k m l sc seats _) (E2.neg (by omega) (E2.bind ea (E2.neg ca E2.ret))),by simp only [Bool.false_eq_true,false_iff];exact fun h=>ca (ha.2 h.2.1)⟩
  | succ d ih=>
   intro i hi
   have hlt:i<seats.length:=by omega
   obtain ⟨x,ex,hx⟩:=ih (i+1) (by omega)
   obtain ⟨r,er,hr⟩:=Nf l sc seats hs h1 h2 i hlt x ex
   refine ⟨r,E2.eq (fun k m=>aM.aB k m l sc seats _) (E2.pos (by omega) er),hr.trans ⟨fun ⟨h3,h4⟩=>⟨fun j hj1 hj2=>?_,(hx.1 h4).2⟩,fun ⟨h3,h4⟩=>⟨h3 i (Nat.le_refl _) hlt,hx.2 ⟨fun j hj1 hj2=>h3 j (by omega) hj2,h4⟩⟩⟩⟩
   by_cases hj:j=i
   ·subst hj;exact h3
   ·exact (hx.1 h4).1 j (by omega) hj2
 obtain ⟨r,er,hr⟩:=key seats.length 0 (by omega)
 exact ⟨r,Ev.eq (fun k=>Bq k l sc seats) (Ev.loop (f:=fun k m=>aM.l0 k m l sc seats 0) er),hr.trans ⟨fun h=>⟨fun i hi=>h.1 i (Nat.zero_le _) hi,h.2⟩,fun h=>⟨fun i _ hi=>h.1 i hi,h.2⟩⟩⟩
theorem PI (l:List bE) (sc:List bA) (x:Int) (i:Nat) (hs:VF l) (h1:sc.length<=1048576) (hi:i<1048576):∃ r,Ev (fun k=>gJ k l x sc (i:Int)) r/\(r=true ↔ ∃ j,j<l.length/\JI l sc x ((i+1:Nat):Int) j):=by
 have hl:=hs.1
 have wi:IntKind.wrap .i64 ((i:Int)+1)=((i+1:Nat):Int):=bX (by omega)
 have one:∀ j,j<l.length->∃ r,Ev (fun k=>oV k (rd bD l (j:Int)) x sc (i:Int)) r/\(r=true ↔ JI l sc x ((i+1:Nat):Int) j):=by
  intro j hj
  by_cases hid:Eq (α:=Int) (rd bD l (j:Int)).1 x
  ·obtain ⟨c,ec,hc⟩:=OM (rd bD l (j:Int)) sc ((i+1:Nat):Int) (hs.2 j hj) h1
   refine ⟨c,Ev.eq (fun k=>qJ k _ x sc (i:Int)) (Ev.pos hid ?_),hc.trans ⟨fun h=>⟨hid,h⟩,fun h=>h.2⟩⟩
   simp only [wi]
   exact Ev.bind ec (Ev.ret.val (by simp))
  ·exact ⟨false,Ev.eq (fun k=>qJ k _ x sc (i:Int)) (Ev.neg hid Ev.ret),by simp only [Bool.false_eq_true,false_iff];exact fun h=>hid h.1⟩
 have hdec:∀ j,Decidable (JI l sc x ((i+1:Nat):Int) j):=fun j=>Classical.propDecidable _
 have er:=yg (R:=fun j v=>E2 (fun k m=>aK.l0 k m l x sc (i:Int) ((List.length l:Nat):Int) j) v) (n:=l.length) (fun j=>@decide _ (hdec j)) (E2.eq (fun k m=>aK.aB k m l x sc _ _ _) (E2.neg (by omega) E2.ret)) (fun j hj hq v e=>by
  obtain ⟨c,ec,hc⟩:=one j hj
  refine E2.eq (fun k m=>aK.aB k m l x sc _ _ _) (E2.pos (by omega) (E2.pos (by omega) (E2.pos (by omega) (E2.bind ec (E2.neg (fun h=>absurd (hc.1 h) (@of_decide_eq_false _ (hdec j) hq)) ?_)))))
  simp only [bX (show j<9223372036854775807 by omega)];exact e) (fun j hj hq=>by
  obtain ⟨c,ec,hc⟩:=one j hj
  exact E2.eq (fun k m=>aK.aB k m l x sc _ _ _) (E2.pos (by omega) (E2.pos (by omega) (E2.pos (by omega) (E2.bind ec (E2.pos (hc.2 (by simpa using hq)) E2.ret))))))
 refine ⟨_,Ev.eq (fun k=>mq k l x sc _) (Ev.bind (Ev.eq (fun k=>mZ k l x sc _) (Ev.loop (f:=fun k m=>aK.l0 k m l x sc (i:Int) ((List.length l:Nat):Int) 0) er)) Ev.ret), ?_⟩
 rw [decide_eq_true_eq,zC]
 simp only [decide_eq_true_eq]
theorem yu (l:List bE) (sc:List bA) (seats:List Int) (hs:VF l) (h1:sc.length<=1048576) (h2:seats.length<=1048576):∃ r,Ev (fun k=>dH k l sc seats) r/\(r=true ↔ Ho l sc seats):=by
 obtain ⟨a,ea,ha⟩:=Hl l hs
 by_cases ca:a=true
 ·by_cases cs:mF sc
  ·by_cases c4:((seats.length:Nat):Int)<=4
   ·obtain ⟨r,er,hr⟩:=kW (R:=fun i v=>E2 (fun k m=>dH.l0 k m l seats seats ((List.length seats:Nat):Int) i sc) v) (n:=seats.length) (QI l sc seats) true (E2.eq (fun k m=>dH.aB k m l seats seats _ _ sc) (E2.neg (by omega) E2.ret)) (fun i hi hq v e=>by
     obtain ⟨c,ec,hc⟩:=PI l sc (rd (.int .i64) seats (i:Int)) i hs h1 (by omega)
     refine E2.eq (fun k m=>dH.aB k m l seats seats _ _ sc) (E2.pos (by omega) (E2.pos (by omega) (E2.pos (by omega) (E2.pos (by omega) (E2.pos (by omega) (E2.bind (qj _ _ ?_) (E2.neg ?_ (E2.bind ec (E2.neg (by simpa using hc.2 hq.1) ?_)))))))))
     ·simp;omega
     ·rw [EZ];simpa using hq.2
     ·simp only [bX (show i<9223372036854775807 by omega)];exact e) (fun i hi hq=>by
     obtain ⟨c,ec,hc⟩:=PI l sc (rd (.int .i64) seats (i:Int)) i hs h1 (by omega)
     refine E2.eq (fun k m=>dH.aB k m l seats seats _ _ sc) (E2.pos (by omega) (E2.pos (by omega) (E2.pos (by omega) (E2.pos (by omega) (E2.pos (by omega) (E2.bind (qj _ _ ?_) ?_))))))
     ·simp;omega
     rw [EZ]
     by_cases hm:(rd (.int .i64) seats (i:Int)) ∈ seats.take i
     ·exact E2.pos (by simpa using hm) E2.ret
     ·exact E2.neg (by simpa using hm) (E2.bind ec (E2.pos (fun h=>hq ⟨hc.1 h,hm⟩) E2.ret)))
    exact ⟨r,Ev.eq (fun k=>lI k l sc seats) (Ev.bind ea (Ev.neg (by simpa using ca) (Ev.bind (fK sc h1) (Ev.neg (by simpa using cs) (Ev.neg (by omega) (Ev.loop (f:=fun k m=>dH.l0 k m l seats seats ((List.length seats:Nat):Int) 0 sc) er)))))),hr.trans ⟨fun h=>⟨h.1,ha.1 ca,cs,c4⟩,fun h=>⟨h.1,rfl⟩⟩⟩
   ·exact ⟨false,Ev.eq (fun k=>lI k l sc seats) (Ev.bind ea (Ev.neg (by simpa using ca) (Ev.bind (fK sc h1) (Ev.neg (by simpa using cs) (Ev.pos (by omega) Ev.ret))))),by simp only [Bool.false_eq_true,false_iff];exact fun h=>c4 h.2.2.2⟩
  ·exact ⟨false,Ev.eq (fun k=>lI k l sc seats) (Ev.bind ea (Ev.neg (by simpa using ca) (Ev.bind (fK sc h1) (Ev.pos (by simpa using cs) Ev.ret)))),by simp only [Bool.false_eq_true,false_iff];exact fun h=>cs h.2.2.1⟩
 ·exact ⟨false,Ev.eq (fun k=>lI k l sc seats) (Ev.bind ea (Ev.pos ca Ev.ret)),by simp only [Bool.false_eq_true,false_iff];exact fun h=>ca (ha.2 h.2.1)⟩
structure Sm (o:iB):Prop where
 score:o.1.length<=1048576
 wH:o.2.2.1.length<=2097152
 KY:VF o.2.2.2.1
 seats:o.2.2.2.2.1.length<=1048576
 marks:o.2.2.2.2.2.1.length<=1048576
 letters:o.2.2.2.2.2.2.1.length<=1048576
theorem Xz {o:iB} (h:Bk nG o):Sm o:=by
 refine ⟨h.1.1,Nat.le_trans h.2.2.1.1 (by omega),⟨Nat.le_trans h.2.2.2.1.1 (by omega),fun i hi=>?_⟩,h.2.2.2.2.1.1,h.2.2.2.2.2.1.1,h.2.2.2.2.2.2.1.1⟩
 rw [jf hi]
 exact (h.2.2.2.1.2 _ (List.getElem_mem hi)).2.2.2.1.1
theorem uR (o:iB) (h:Sm o):∃ r,Ev (fun k=>jm k o) r/\Ev (fun k=>fu k o) r:=by
 obtain ⟨m,VG,VH⟩:=KQ o.2.1
 obtain ⟨a,ea,ha⟩:=KT o.2.2.2.2.2.1 h.marks
 obtain ⟨a',XA,ha'⟩:=KU o.2.2.2.2.2.1 h.marks
 obtain rfl:a'=a:=by rw [Bool.eq_iff_iff];exact ha'.trans ha.symm
 obtain ⟨b,eb,hb⟩:=GZ o.2.2.2.2.2.2.1 h.letters
 obtain ⟨b',eb',hb'⟩:=He o.2.2.2.2.2.2.1 h.letters
 obtain rfl:b'=b:=by rw [Bool.eq_iff_iff];exact hb'.trans hb.symm
 obtain ⟨c,ec,hc⟩:=Hq o.2.2.2.1 o.1 o.2.2.2.2.1 h.KY h.score h.seats
 obtain ⟨c',YE,hc'⟩:=yu o.2.2.2.1 o.1 o.2.2.2.2.1 h.KY h.score h.seats
 obtain rfl:c'=c:=by rw [Bool.eq_iff_iff];exact hc'.trans hc.symm
 by_cases d1:mF o.1
 ·by_cases d2:m=true
  ·by_cases d3:GX o.2.2.1
   ·by_cases d4:a'=true
    ·by_cases d5:b'=true
     ·by_cases d6:c'=true
      ·by_cases d7:1<=(o.2.2.2.2.2.2.2.1:Int)/\(o.2.2.2.2.2.2.2.1:Int)<=9999
       ·exact ⟨_,Ev.eq (fun k=>fD k o) (Ev.bind (gB _ h.score) (Ev.pos (by simpa using d1) (Ev.bind VG (Ev.pos d2 (Ev.bind (kX _ h.wH) (Ev.pos (by simpa using d3) (Ev.bind ea (Ev.pos d4 (Ev.bind eb (Ev.pos d5 (Ev.bind ec (Ev.pos d6 (Ev.bind (bV _ _ _) (Ev.pos (by simpa using d7) (Ev.bind (bV _ _ _) Ev.ret))))))))))))))),
         Ev.eq (fun k=>dP k o) (Ev.bind (fK _ h.score) (Ev.pos (by simpa using d1) (Ev.bind VH (Ev.pos d2 (Ev.bind (kY _ h.wH) (Ev.pos (by simpa using d3) (Ev.bind XA (Ev.pos d4 (Ev.bind eb' (Ev.pos d5 (Ev.bind YE (Ev.pos d6 (Ev.bind (aV _ _ _) (Ev.pos (by simpa using d7) (Ev.bind (aV _ _ _) Ev.ret)))))))))))))))⟩
       ·exact ⟨false,Ev.eq (fun k=>fD k o) (Ev.bind (gB _ h.score) (Ev.pos (by simpa using d1) (Ev.bind VG (Ev.pos d2 (Ev.bind (kX _ h.wH) (Ev.pos (by simpa using d3) (Ev.bind ea (Ev.pos d4 (Ev.bind eb (Ev.pos d5 (Ev.bind ec (Ev.pos d6 (Ev.bind (bV _ _ _) (Ev.neg (by simpa using d7) Ev.ret)))))))))))))),
         Ev.eq (fun k=>dP k o) (Ev.bind (fK _ h.score) (Ev.pos (by simpa using d1) (Ev.bind VH (Ev.pos d2 (Ev.bind (kY _ h.wH) (Ev.pos (by simpa using d3) (Ev.bind XA (Ev.pos d4 (Ev.bind eb' (Ev.pos d5 (Ev.bind YE (Ev.pos d6 (Ev.bind (aV _ _ _) (Ev.neg (by simpa using d7) Ev.ret))))))))))))))⟩
      ·exact ⟨false,Ev.eq (fun k=>fD k o) (Ev.bind (gB _ h.score) (Ev.pos (by simpa using d1) (Ev.bind VG (Ev.pos d2 (Ev.bind (kX _ h.wH) (Ev.pos (by simpa using d3) (Ev.bind ea (Ev.pos d4 (Ev.bind eb (Ev.pos d5 (Ev.bind ec (Ev.neg d6 Ev.ret)))))))))))),
        Ev.eq (fun k=>dP k o) (Ev.bind (fK _ h.score) (Ev.pos (by simpa using d1) (Ev.bind VH (Ev.pos d2 (Ev.bind (kY _ h.wH) (Ev.pos (by simpa using d3) (Ev.bind XA (Ev.pos d4 (Ev.bind eb' (Ev.pos d5 (Ev.bind YE (Ev.neg d6 Ev.ret))))))))))))⟩
     ·exact ⟨false,Ev.eq (fun k=>fD k o) (Ev.bind (gB _ h.score) (Ev.pos (by simpa using d1) (Ev.bind VG (Ev.pos d2 (Ev.bind (kX _ h.wH) (Ev.pos (by simpa using d3) (Ev.bind ea (Ev.pos d4 (Ev.bind eb (Ev.neg d5 Ev.ret)))))))))),
       Ev.eq (fun k=>dP k o) (Ev.bind (fK _ h.score) (Ev.pos (by simpa using d1) (Ev.bind VH (Ev.pos d2 (Ev.bind (kY _ h.wH) (Ev.pos (by simpa using d3) (Ev.bind XA (Ev.pos d4 (Ev.bind eb' (Ev.neg d5 Ev.ret))))))))))⟩
    ·exact ⟨false,Ev.eq (fun k=>fD k o) (Ev.bind (gB _ h.score) (Ev.pos (by simpa using d1) (Ev.bind VG (Ev.pos d2 (Ev.bind (kX _ h.wH) (Ev.pos (by simpa using d3) (Ev.bind ea (Ev.neg d4 Ev.ret)))))))),
      Ev.eq (fun k=>dP k o) (Ev.bind (fK _ h.score) (Ev.pos (by simpa using d1) (Ev.bind VH (Ev.pos d2 (Ev.bind (kY _ h.wH) (Ev.pos (by simpa using d3) (Ev.bind XA (Ev.neg d4 Ev.ret))))))))⟩
   ·exact ⟨false,Ev.eq (fun k=>fD k o) (Ev.bind (gB _ h.score) (Ev.pos (by simpa using d1) (Ev.bind VG (Ev.pos d2 (Ev.bind (kX _ h.wH) (Ev.neg (by simpa using d3) Ev.ret)))))),
     Ev.eq (fun k=>dP k o) (Ev.bind (fK _ h.score) (Ev.pos (by simpa using d1) (Ev.bind VH (Ev.pos d2 (Ev.bind (kY _ h.wH) (Ev.neg (by simpa using d3) Ev.ret))))))⟩
  ·exact ⟨false,Ev.eq (fun k=>fD k o) (Ev.bind (gB _ h.score) (Ev.pos (by simpa using d1) (Ev.bind VG (Ev.neg d2 Ev.ret)))),
    Ev.eq (fun k=>dP k o) (Ev.bind (fK _ h.score) (Ev.pos (by simpa using d1) (Ev.bind VH (Ev.neg d2 Ev.ret))))⟩
 ·exact ⟨false,Ev.eq (fun k=>fD k o) (Ev.bind (gB _ h.score) (Ev.neg (by simpa using d1) Ev.ret)),
   Ev.eq (fun k=>dP k o) (Ev.bind (fK _ h.score) (Ev.neg (by simpa using d1) Ev.ret))⟩
theorem KZ (l:List bE) (h:Bk (.list bD) l):Ev (fun k=>bH k l) l:=by
 have hl:l.length<=1048576:=h.1
 have key:∀ d (i:Nat) (s:List bE),i+d=l.length->s.length=i->s++l.drop i=l->E2 (fun k m=>bH.l0 k m l (i:Int) s) l:=by
  intro d
  induction d with
  | zero=>
   intro i s hi hs ht
   have hi:i=l.length:=by omega
   subst hi
   have e:E2 (fun k m=>bH.l0 k m l ((l.length:Nat):Int) s) s:=by
    refine E2.eq (fun k m=>bH.aB k m l _ s) ?_
    refine E2.neg (by omega) ?_
    exact E2.ret
   exact e.val (by rw [<- ht];simp)
  | succ d ih=>
   intro i s hi hs ht
   have hi':i<l.length:=by omega
   have hb:=(bk_rd h hi').2.2.2.1.1
   refine E2.eq (fun k m=>bH.aB k m l _ s) ?_
   refine E2.pos (by omega) ?_
   refine E2.pos (by omega) ?_
   refine E2.pos (by omega) ?_
   refine E2.pos (by simp only [List.length_nil];omega) ?_
   refine E2.pos (by simp only [List.length_cons,List.length_nil];omega) ?_
   simp only [bX (show i<9223372036854775807 by omega)]
   refine ih (i+1) _ (by omega) (by simp;omega) ?_
   rw [List.append_assoc]
   refine Eq.trans ?_ ht
   congr 1
   exact (yM (t:=bD) hi').symm
 exact Ev.eq (fun k=>Ei k l) (Ev.loop (f:=fun k m=>bH.l0 k m l 0 []) (key l.length 0 [] (by omega) rfl (by simp)))
theorem Hr (o:iB) (h:Bk nG o):Ev (fun k=>oq k o) o:=by
 have h1:=h.1.1
 have h2:=h.2.2.1.1
 have h4:=h.2.2.2.2.1.1
 have h5:=h.2.2.2.2.2.1.1
 have h6:=h.2.2.2.2.2.2.1.1
 refine Ev.eq (fun k=>Eh k o) ?_
 refine Ev.pos (by simp only [List.length_nil];omega) ?_
 refine Ev.pos (by simp only [List.length_nil];omega) ?_
 refine Ev.bind (KZ o.2.2.2.1 h.2.2.2.1) ?_
 refine Ev.pos (by simp only [List.length_nil];omega) ?_
 refine Ev.pos (by simp only [List.length_nil];omega) ?_
 refine Ev.pos (by simp only [List.length_nil];omega) ?_
 exact Ev.ret
theorem JJ (l:List Int) (hl:l.length<=1048576):Ev (fun k=>ou k l) l:=
 Ev.eq (fun k=>Bt k l) (Ev.pos (by simp only [List.length_nil];omega) Ev.ret)
theorem QC (l:List bq) (hl:l.length<=1048576):Ev (fun k=>lC k l) l:=
 Ev.eq (fun k=>tQ k l) (Ev.pos (by simp only [List.length_nil];omega) Ev.ret)
theorem QD (l:List gy) (hl:l.length<=1048576):Ev (fun k=>mg k l) l:=
 Ev.eq (fun k=>uI k l) (Ev.pos (by simp only [List.length_nil];omega) Ev.ret)
theorem QE (l:List bq) (hl:l.length<=1048576):Ev (fun k=>kP k l) l:=
 Ev.eq (fun k=>rV k l) (Ev.pos (by simp only [List.length_nil];omega) Ev.ret)
theorem JK (p:bE) (h:Bk bD p):Ev (fun k=>mO k p) p:=
 Ev.eq (fun k=>yX k p) (Ev.bind (JJ _ h.2.2.2.1.1) Ev.ret)
theorem nU (o:iB) (h:Bk nG o):Ev (fun k=>aN k o) o:=by
 have hp:Bk (.list bD) o.2.2.2.1:=h.2.2.2.1
 have hl:o.2.2.2.1.length<=1048576:=hp.1
 have key:∀ d (i:Nat) (s:List bE),i+d=o.2.2.2.1.length->s.length=i->s++o.2.2.2.1.drop i=o.2.2.2.1->E2 (fun k m=>aN.l0 k m o.2.2.2.1 ((List.length o.2.2.2.1:Nat):Int) (i:Int) o.1 o.2.1.1 o.2.1.2.1 o.2.2.1 o.2.2.2.1 o.2.2.2.2.1 o.2.2.2.2.2.1 o.2.2.2.2.2.2.1 o.2.2.2.2.2.2.2.1 o.2.2.2.2.2.2.2.2.1 0 0 0 0 s) o:=by
  intro d
  induction d with
  | zero=>
   intro i s hi hs ht
   have hi:i=o.2.2.2.1.length:=by omega
   subst hi
   have hs':s=o.2.2.2.1:=by rw [<- ht];simp
   subst hs'
   refine E2.eq (fun k m=>aN.aB k m _ _ _ _ _ _ _ _ _ _ _ _ _ _ _ _ _ _) ?_
   refine E2.neg (by omega) ?_
   refine E2.bind (JH _ h.1.1) ?_
   refine E2.bind (QC _ h.2.2.1.1) ?_
   refine E2.bind (JJ _ h.2.2.2.2.1.1) ?_
   refine E2.bind (QD _ h.2.2.2.2.2.1.1) ?_
   refine E2.bind (QE _ h.2.2.2.2.2.2.1.1) ?_
   exact E2.ret
  | succ d ih=>
   intro i s hi hs ht
   have hi':i<o.2.2.2.1.length:=by omega
   refine E2.eq (fun k m=>aN.aB k m _ _ _ _ _ _ _ _ _ _ _ _ _ _ _ _ _ _) ?_
   refine E2.pos (by omega) ?_
   refine E2.pos (by omega) ?_
   refine E2.pos (by omega) ?_
   refine E2.bind (JK _ (bk_rd hp hi')) ?_
   refine E2.pos (by simp only [List.length_cons,List.length_nil];omega) ?_
   simp only [bX (show i<9223372036854775807 by omega)]
   refine ih (i+1) _ (by omega) (by simp;omega) ?_
   rw [List.append_assoc]
   refine Eq.trans ?_ ht
   congr 1
   exact (yM (t:=bD) hi').symm
 exact Ev.eq (fun k=>rU k o) (Ev.loop (f:=fun k m=>aN.l0 k m o.2.2.2.1 ((List.length o.2.2.2.1:Nat):Int) 0 o.1 o.2.1.1 o.2.1.2.1 o.2.2.1 o.2.2.2.1 o.2.2.2.2.1 o.2.2.2.2.2.1 o.2.2.2.2.2.2.1 o.2.2.2.2.2.2.2.1 o.2.2.2.2.2.2.2.2.1 0 0 0 0 []) (key o.2.2.2.1.length 0 [] (by omega) rfl (by simp)))
theorem JL (o:iB) (b:Bk nG o):∃ r,Ev (fun k=>jA k o 1) r/\(¬ (r.1:Int)<0/\(r.1:Int)<=2199023255552)/\Ev (fun k=>jB k (r.2.1,(o.2.1,(r.2.2.2.1,(r.2.2.2.2.1,(r.2.2.2.2.2.1,(r.2.2.2.2.2.2.1,(r.2.2.2.2.2.2.2.1,o.2.2.2.2.2.2.2))))))) 1) r.1:=by
 have q1:=b.1.1
 have q2:=b.2.2.1.1
 have q4:=b.2.2.2.2.1.1
 have q5:=b.2.2.2.2.2.1.1
 have q6:=b.2.2.2.2.2.2.1.1
 have s1:=mE o.2.2.2.1 b.2.2.2.1
 have s0:0<=lM aH o.2.2.2.1:=sQ fun x _=>by show (0:Int)<=3+1*_;omega
 have m1:=Ak o.1 (by omega) 1 (by omega) (by omega)
 have m2:=Al o.2.2.1 (by omega) (1+4*(o.1.length:Int)) (by omega) (by omega)
 have m3:=zf o.2.2.2.1 b.2.2.2.1 (1+4*(o.1.length:Int)+2*(o.2.2.1.length:Int)) (by omega) (by omega)
 have m4:=oZ o.2.2.2.2.1 (by omega) (1+4*(o.1.length:Int)+2*(o.2.2.1.length:Int)+lM aH o.2.2.2.1) (by omega) (by omega)
 have m5:=BN o.2.2.2.2.2.1 (by omega) (1+4*(o.1.length:Int)+2*(o.2.2.1.length:Int)+lM aH o.2.2.2.1+1*(o.2.2.2.2.1.length:Int)) (by omega) (by omega)
 have m6:=zh o.2.2.2.2.2.2.1 (by omega) (1+4*(o.1.length:Int)+2*(o.2.2.1.length:Int)+lM aH o.2.2.2.1+1*(o.2.2.2.2.1.length:Int)+5*(o.2.2.2.2.2.1.length:Int)) (by omega) (by omega)
 have k1:=(Am (marks (fun q:Int=>((q,(q+1,(q+2,(q+3,())))):bA)) 4 o.1.length 1) (by rw [gH];omega) 1 (by omega) (by omega) (by rw [gH])).val (by rw [gH])
 have k2:=(Ao (marks (fun q:Int=>((q,(q+1,())):bq)) 2 o.2.2.1.length (1+4*(o.1.length:Int))) (by rw [gH];omega) (1+4*(o.1.length:Int)) (by omega) (by omega) (by rw [gH])).val (by rw [gH])
 have k3:=zi o.2.2.2.1 b.2.2.2.1 (1+4*(o.1.length:Int)+2*(o.2.2.1.length:Int)) (by omega) (by omega)
 have k4:=(uQ (marks (fun q:Int=>(q:Int)) 1 o.2.2.2.2.1.length (1+4*(o.1.length:Int)+2*(o.2.2.1.length:Int)+lM aH o.2.2.2.1)) (by rw [gH];omega) (1+4*(o.1.length:Int)+2*(o.2.2.1.length:Int)+lM aH o.2.2.2.1) (by omega) (by omega) (by rw [gH])).val (by rw [gH])
 have k5:=(BO (marks (fun q:Int=>((q,(q+1,(q+2,(q+3,(q+4,()))))):gy)) 5 o.2.2.2.2.2.1.length (1+4*(o.1.length:Int)+2*(o.2.2.1.length:Int)+lM aH o.2.2.2.1+1*(o.2.2.2.2.1.length:Int))) (by rw [gH];omega) (1+4*(o.1.length:Int)+2*(o.2.2.1.length:Int)+lM aH o.2.2.2.1+1*(o.2.2.2.2.1.length:Int)) (by omega) (by omega) (by rw [gH])).val (by rw [gH])
 have k6:=(zk (marks (fun q:Int=>((q,(q+1,())):bq)) 2 o.2.2.2.2.2.2.1.length (1+4*(o.1.length:Int)+2*(o.2.2.1.length:Int)+lM aH o.2.2.2.1+1*(o.2.2.2.2.1.length:Int)+5*(o.2.2.2.2.2.1.length:Int))) (by rw [gH];omega) (1+4*(o.1.length:Int)+2*(o.2.2.1.length:Int)+lM aH o.2.2.2.1+1*(o.2.2.2.2.1.length:Int)+5*(o.2.2.2.2.2.1.length:Int)) (by omega) (by omega) (by rw [gH])).val (by rw [gH])
 refine ⟨_,Ev.eq (fun k=>wL k o 1) (Ev.bind m1 (Ev.bind m2 (Ev.bind m3 (Ev.bind m4 (Ev.bind m5 (Ev.bind m6 Ev.ret)))))), ?_, ?_⟩
 ·show ¬ (1+4*(o.1.length:Int)+2*(o.2.2.1.length:Int)+lM aH o.2.2.2.1+1*(o.2.2.2.2.1.length:Int)+5*(o.2.2.2.2.2.1.length:Int)+2*(o.2.2.2.2.2.2.1.length:Int))<0/\(1+4*(o.1.length:Int)+2*(o.2.2.1.length:Int)+lM aH o.2.2.2.1+1*(o.2.2.2.2.1.length:Int)+5*(o.2.2.2.2.2.1.length:Int)+2*(o.2.2.2.2.2.2.1.length:Int))<=2199023255552
  omega
 ·refine Ev.eq (fun k=>wM k _ 1) ?_
  refine Ev.bind k1 ?_
  refine Ev.neg (by omega) ?_
  refine Ev.bind k2 ?_
  refine Ev.neg (by omega) ?_
  refine Ev.bind k3 ?_
  refine Ev.neg (by omega) ?_
  refine Ev.bind k4 ?_
  refine Ev.neg (by omega) ?_
  refine Ev.bind k5 ?_
  refine Ev.neg (by omega) ?_
  refine Ev.bind k6 ?_
  refine Ev.neg (by omega) ?_
  exact Ev.ret
theorem QG (o:iB) (b:Bk nG o):∃ r,Ev (fun k=>jA k o 1) r/\¬ (r.1:Int)<0/\Ev (fun k=>jB k (r.2.1,(o.2.1,(r.2.2.2.1,(r.2.2.2.2.1,(r.2.2.2.2.2.1,(r.2.2.2.2.2.2.1,(r.2.2.2.2.2.2.2.1,o.2.2.2.2.2.2.2))))))) 1) r.1:=by
 obtain ⟨r,h1,h2,h3⟩:=JL o b
 exact ⟨r,h1,h2.1,h3⟩
theorem Ev.uniq {α:Type} {f:Nat->Option α} {a b:α} (h:Ev f a) (k:Ev f b):a=b:=by
 obtain ⟨K,h⟩:=h
 obtain ⟨M,k⟩:=k
 have h1:=h (max K M) (by omega)
 rw [k (max K M) (by omega)] at h1
 exact (Option.some.inj h1).symm
theorem JM (Q:Nat->Prop):∀ n,∃ p,p<=n/\(∀ j,j<p->Q j)/\(p<n->¬ Q p)
 | 0=>⟨0,Nat.le_refl _,fun j hj=>by omega,fun h=>by omega⟩
 | n+1=>by
  obtain ⟨p,h1,h2,h3⟩:=JM Q n
  by_cases hp:p<n
  ·exact ⟨p,by omega,h2,fun _=>h3 hp⟩
  ·have:p=n:=by omega
   subst this
   by_cases hq:Q p
   ·exact ⟨p+1,Nat.le_refl _,fun j hj=>by
     by_cases h:j=p
     ·subst h;exact hq
     ·exact h2 j (by omega),fun h=>by omega⟩
   ·exact ⟨p,by omega,h2,fun _=>hq⟩
theorem XB (o o1 o2:iB) (b:Bk nG o) (ok:Bool) (h:ok=true->(o1=o2/\Bk nG o1)\/(Ev (fun k=>jm k o1) false/\Ev (fun k=>fu k o2) false)):∃ v:iB × (Bool × Unit),Bk nG v.1/\Ev (fun k=>kN k o o1 ok) v /\
  Ev (fun k=>if ¬ (ok=true) then (aN k o).bind fun r3=>some (r3,(false,())) else (fu k o2).bind fun r4=>if ¬ (r4=true) then (aN k o).bind fun r5=>some (r5,(false,())) else some (o2,(true,()))) v:=by
 by_cases c:ok=true
 ·rcases h c with ⟨rfl,bo⟩ | ⟨e1,e2⟩
  ·obtain ⟨r,e1,e2⟩:=uR o1 (Xz bo)
   by_cases d:r=true
   ·exact ⟨(o1,(true,())),bo,Ev.eq (fun k=>kQ k o o1 ok) (Ev.neg (by simpa using c) (Ev.bind e1 (Ev.neg (by simpa using d) Ev.ret))),Ev.neg (by simpa using c) (Ev.bind e2 (Ev.neg (by simpa using d) Ev.ret))⟩
   ·exact ⟨(o,(false,())),b,Ev.eq (fun k=>kQ k o o1 ok) (Ev.neg (by simpa using c) (Ev.bind e1 (Ev.pos d (Ev.bind (Hr _ b) Ev.ret)))),Ev.neg (by simpa using c) (Ev.bind e2 (Ev.pos d (Ev.bind (nU _ b) Ev.ret)))⟩
  ·exact ⟨(o,(false,())),b,Ev.eq (fun k=>kQ k o o1 ok) (Ev.neg (by simpa using c) (Ev.bind e1 (Ev.pos (by simp) (Ev.bind (Hr _ b) Ev.ret)))),Ev.neg (by simpa using c) (Ev.bind e2 (Ev.pos (by simp) (Ev.bind (nU _ b) Ev.ret)))⟩
 ·exact ⟨(o,(false,())),b,Ev.eq (fun k=>kQ k o o1 ok) (Ev.pos c (Ev.bind (Hr _ b) Ev.ret)),Ev.pos c (Ev.bind (nU _ b) Ev.ret)⟩
theorem QH (o out:iB) (b:Bk nG o) (bo:Bk nG out) (ok:Bool):∃ v:iB × (Bool × Unit),Bk nG v.1/\Ev (fun k=>kN k o out ok) v /\
  Ev (fun k=>if ¬ (ok=true) then (aN k o).bind fun r3=>some (r3,(false,())) else (fu k out).bind fun r4=>if ¬ (r4=true) then (aN k o).bind fun r5=>some (r5,(false,())) else some (out,(true,()))) v:=
 XB o out out b ok fun _=>.inl ⟨rfl,bo⟩
theorem QJ {o:iB} (h:Ev (fun k=>fu k o) true):Ev (fun k=>dH k o.2.2.2.1 o.1 o.2.2.2.2.1) true:=by
 obtain ⟨K,h⟩:=h
 refine ⟨K,fun k hk=>?_⟩
 have h:=h (k+1) (by omega)
 have h:fu (k+1) o=some true:=h
 rw [dP] at h
 obtain ⟨r1,_,h⟩:=Option.bind_eq_some_iff.1 h
 split at h
 case isFalse=>cases h
 obtain ⟨r2,_,h⟩:=Option.bind_eq_some_iff.1 h
 split at h
 case isFalse=>cases h
 obtain ⟨r3,_,h⟩:=Option.bind_eq_some_iff.1 h
 split at h
 case isFalse=>cases h
 obtain ⟨r4,_,h⟩:=Option.bind_eq_some_iff.1 h
 split at h
 case isFalse=>cases h
 obtain ⟨r5,_,h⟩:=Option.bind_eq_some_iff.1 h
 split at h
 case isFalse=>cases h
 obtain ⟨r6,h6,h⟩:=Option.bind_eq_some_iff.1 h
 split at h
 case isFalse=>cases h
 rename_i hr
 rw [hr] at h6
 exact h6
def isO (o:iB):Prop:=Ev (fun k=>fu k o) true
theorem Ng {o:iB} (h:isO o) (b:Sm o):Ho o.2.2.2.1 o.1 o.2.2.2.2.1:=by
 obtain ⟨r,er,hr⟩:=yu o.2.2.2.1 o.1 o.2.2.2.2.1 b.KY b.score b.seats
 exact hr.1 (Ev.uniq er (QJ h))
def val (r:bq):Rat:=(((r.1:Int):Int):Rat) / (((r.2.1:Int):Int):Rat)
def EF (o:iB) (p:bE) (c:Nat):iB:=(o.1,(o.2.1,(o.2.2.1,(o.2.2.2.1.take c++[p]++o.2.2.2.1.drop c,o.2.2.2.2))))
theorem PK {o:iB} {p:bE} (b:Bk nG o) (bp:Bk bD p) (c:Nat) (hc:c<=o.2.2.2.1.length):Sm (EF o p c):=by
 have hl:o.2.2.2.1.length<=1048576:=b.2.2.2.1.1
 refine ⟨b.1.1,Nat.le_trans b.2.2.1.1 (by omega),⟨?_,fun i hi=>?_⟩,b.2.2.2.2.1.1,b.2.2.2.2.2.1.1,b.2.2.2.2.2.2.1.1⟩
 ·show (o.2.2.2.1.take c++[p]++o.2.2.2.1.drop c).length<=2097152
  simp;omega
 ·have hi:i<(o.2.2.2.1.take c++[p]++o.2.2.2.1.drop c).length:=hi
  show (rd bD (o.2.2.2.1.take c++[p]++o.2.2.2.1.drop c) (i:Int)).2.2.2.1.length<=1048576
  rw [jf (t:=bD) hi]
  have hm:∀ q ∈ o.2.2.2.1.take c++[p]++o.2.2.2.1.drop c,Bk bD q:=fun q hq=>by
   rcases List.mem_append.1 hq with hq | hq
   ·rcases List.mem_append.1 hq with hq | hq
    ·exact b.2.2.2.1.2 q (List.mem_of_mem_take hq)
    ·rw [List.mem_singleton.1 hq];exact bp
   ·exact b.2.2.2.1.2 q (List.mem_of_mem_drop hq)
  exact (hm _ (List.getElem_mem hi)).2.2.2.1.1
theorem Nh {o:iB} {p:bE} (b:Bk nG o) (bp:Bk bD p) (i:Nat) (hi:i<=o.2.2.2.1.length) (h1:∀ j,j<i->LT.lt (α:=Int) (rd bD o.2.2.2.1 (j:Int)).1 p.1) (h2:i<o.2.2.2.1.length->¬ LT.lt (α:=Int) (rd bD o.2.2.2.1 (i:Int)).1 p.1) {v:iB × (Bool × Unit)} (e:Ev (fun k=>kN k o (EF o p i) true) v):Ev (fun k=>dI k o p) v:=by
 have hl:o.2.2.2.1.length<=1048576:=b.2.2.2.1.1
 have sub:∀ l:List bE,l.length<=1048576->(∀ q ∈ l,q ∈ o.2.2.2.1\/q=p)->Bk (.list bD) l:=fun l hl h=>⟨hl,fun q hq=>(h q hq).elim (fun h=>b.2.2.2.1.2 q h) fun h=>h ▸ bp⟩
 have put:Ev (fun k=>(bH k (List.take ((Int.toNat (i:Int)) - (Int.toNat 0)) (List.drop (Int.toNat 0) o.2.2.2.1))).bind fun r2=>(bH k ([p])).bind fun r3=>
   if (List.length r2+List.length r3)*48<=211106232532992 then if 0<=(i:Int) then if (i:Int)<=((List.length o.2.2.2.1:Nat):Int) then
   (bH k (List.take ((Int.toNat ((List.length o.2.2.2.1:Nat):Int)) - (Int.toNat (i:Int))) (List.drop (Int.toNat (i:Int)) o.2.2.2.1))).bind fun r4=>
   if (List.length (r2++r3)+List.length r4)*48<=211106232532992 then
   (kN k o (o.1,(o.2.1,(o.2.2.1,(((r2++r3)++r4),o.2.2.2.2)))) true).bind fun r5=>some (r5.1,(decide (r5.2.1=true),())) else none else none else none else none) v:=by
  have la:List.take ((Int.toNat (i:Int)) - (Int.toNat 0)) (List.drop (Int.toNat 0) o.2.2.2.1)=o.2.2.2.1.take i:=by simp
  have lb:List.take ((Int.toNat ((List.length o.2.2.2.1:Nat):Int)) - (Int.toNat (i:Int))) (List.drop (Int.toNat (i:Int)) o.2.2.2.1)=o.2.2.2.1.drop i:=List.take_of_length_le (by simp)
  rw [la,lb]
  have fa:=sub (o.2.2.2.1.take i) (by simp;omega) fun q hq=>.inl (List.mem_of_mem_take hq)
  have fb:=sub (o.2.2.2.1.drop i) (by simp;omega) fun q hq=>.inl (List.mem_of_mem_drop hq)
  have fp:=sub [p] (by simp) fun q hq=>.inr (List.mem_singleton.1 hq)
  refine Ev.bind (KZ _ fa) (Ev.bind (KZ _ fp) (Ev.pos (by simp only [List.length_singleton,List.length_take];omega) (Ev.pos (by omega) (Ev.pos (by omega) (Ev.bind (KZ _ fb) (Ev.pos (by simp only [List.length_append,List.length_singleton,List.length_take,List.length_drop];omega) (Ev.bind e (Ev.ret.val (by simp)))))))))
 have key:∀ d j:Nat,j+d=i->E2 (fun k m=>dI.l0 k m (j:Int) o.1 o.2.1.1 o.2.1.2.1 o.2.2.1 o.2.2.2.1 o.2.2.2.2.1 o.2.2.2.2.2.1 o.2.2.2.2.2.2.1 o.2.2.2.2.2.2.2.1 o.2.2.2.2.2.2.2.2.1 p.1 p.2.1 p.2.2.1 p.2.2.2.1 0 0 0 0 o.2.1.1 o.2.1.2.1 o.2.2.2.2.2.2.2.1 o.2.2.2.2.2.2.2.2.1 o.1 o.2.2.1 o.2.2.2.1 o.2.2.2.2.1 o.2.2.2.2.2.1 o.2.2.2.2.2.2.1) v:=by
  intro d
  induction d with
  | zero=>
   intro j hj
   have hj:j=i:=by omega
   subst hj
   by_cases c:j<o.2.2.2.1.length
   ·exact E2.eq (fun k m=>dI.aB k m _ _ _ _ _ _ _ _ _ _ _ _ _ _ _ _ _ _ _ _ _ _ _ _ _ _ _ _ _) (E2.pos (by omega) (E2.pos (by omega) (E2.pos (by omega) (E2.neg (h2 c) (E2.pos (by omega) (E2.pos (by omega) (E2.of put)))))))
   ·exact E2.eq (fun k m=>dI.aB k m _ _ _ _ _ _ _ _ _ _ _ _ _ _ _ _ _ _ _ _ _ _ _ _ _ _ _ _ _) (E2.neg (by omega) (E2.pos (by omega) (E2.pos (by omega) (E2.of put))))
  | succ d ih=>
   intro j hj
   refine E2.eq (fun k m=>dI.aB k m _ _ _ _ _ _ _ _ _ _ _ _ _ _ _ _ _ _ _ _ _ _ _ _ _ _ _ _ _) (E2.pos (by omega) (E2.pos (by omega) (E2.pos (by omega) (E2.pos (h1 j (by omega)) ?_))))
   simp only [bX (show j<9223372036854775807 by omega)]
   exact ih (j+1) (by omega)
 exact Ev.eq (fun k=>CK k o p) (Ev.bind (Hr _ b) (Ev.loop (f:=fun k m=>dI.l0 k m 0 o.1 o.2.1.1 o.2.1.2.1 o.2.2.1 o.2.2.2.1 o.2.2.2.2.1 o.2.2.2.2.2.1 o.2.2.2.2.2.2.1 o.2.2.2.2.2.2.2.1 o.2.2.2.2.2.2.2.2.1 p.1 p.2.1 p.2.2.1 p.2.2.2.1 0 0 0 0 o.2.1.1 o.2.1.2.1 o.2.2.2.2.2.2.2.1 o.2.2.2.2.2.2.2.2.1 o.1 o.2.2.1 o.2.2.2.1 o.2.2.2.2.1 o.2.2.2.2.2.1 o.2.2.2.2.2.2.1) (key i 0 (by omega))))
def ahead (l:List bE) (x:Int):Nat:=(l.filter fun q=>decide (LT.lt (α:=Int) q.1 x)).length
theorem Ht (l:List bE) (x:Int):ahead l x<=l.length:=List.length_filter_le _ _
theorem OP {l:List bE} {i:Nat} (hi:i<l.length) (x:Int):ahead (l.take (i+1)) x=ahead (l.take i) x+(if LT.lt (α:=Int) (rd bD l (i:Int)).1 x then 1 else 0):=by
 unfold ahead
 rw [List.take_succ_eq_append_getElem hi,List.filter_append,List.length_append,jf (t:=bD) hi]
 congr 1
 by_cases c:LT.lt (α:=Int) l[i].1 x
 ·rw [if_pos c];simp [List.filter,c]
 ·rw [if_neg c];simp [List.filter,c]
theorem QK {o:iB} {p:bE} (b:Bk nG o) (bp:Bk bD p) (hd:∀ j,j<o.2.2.2.1.length->¬ Eq (α:=Int) (rd bD o.2.2.2.1 (j:Int)).1 p.1):Ev (fun k=>bf k o p) (true,EF o p (ahead o.2.2.2.1 p.1)):=by
 have hl:o.2.2.2.1.length<=1048576:=b.2.2.2.1.1
 have key:∀ d i:Nat,i+d=o.2.2.2.1.length->E2 (fun k m=>bf.l0 k m p ((ahead (o.2.2.2.1.take i) p.1:Nat):Int) ((List.length o.2.2.2.1:Nat):Int) (i:Int) o.2.1.1 o.2.1.2.1 o.2.2.2.2.2.2.2.1 o.2.2.2.2.2.2.2.2.1 o.2.2.2.1 o.1 o.2.2.1 o.2.2.2.2.1 o.2.2.2.2.2.1 o.2.2.2.2.2.2.1) (true,EF o p (ahead o.2.2.2.1 p.1)):=by
  intro d
  induction d with
  | zero=>
   intro i hi
   have ha:=Ht o.2.2.2.1 p.1
   rw [show o.2.2.2.1.take i=o.2.2.2.1 from List.take_of_length_le (by omega)]
   exact E2.eq (fun k m=>bf.aB k m _ _ _ _ _ _ _ _ _ _ _ _ _ _) (E2.neg (by omega) (E2.bind (JK p bp) (E2.pos (by omega) (E2.pos (by omega) (E2.pos (by omega) (E2.ret.val (by unfold EF;simp)))))))
  | succ d ih=>
   intro i hi
   have hlt:i<o.2.2.2.1.length:=by omega
   have e1:=ih (i+1) (by omega)
   rw [OP hlt] at e1
   have ha:=Ht (o.2.2.2.1.take i) p.1
   rw [List.length_take] at ha
   by_cases f:LT.lt (α:=Int) (rd bD o.2.2.2.1 (i:Int)).1 p.1
   ·rw [if_pos f] at e1
    refine E2.eq (fun k m=>bf.aB k m _ _ _ _ _ _ _ _ _ _ _ _ _ _) (E2.pos (by omega) (E2.pos (by omega) (E2.pos (by omega) (E2.neg (hd i hlt) (E2.pos f ?_)))))
    simp only [bX (show i<9223372036854775807 by omega),bX (show ahead (o.2.2.2.1.take i) p.1<9223372036854775807 by omega)]
    exact e1
   ·rw [if_neg f] at e1
    refine E2.eq (fun k m=>bf.aB k m _ _ _ _ _ _ _ _ _ _ _ _ _ _) (E2.pos (by omega) (E2.pos (by omega) (E2.pos (by omega) (E2.neg (hd i hlt) (E2.neg f ?_)))))
    simp only [bX (show i<9223372036854775807 by omega)]
    exact e1
 exact Ev.eq (fun k=>rQ k o p) (Ev.loop (f:=fun k m=>bf.l0 k m p 0 ((List.length o.2.2.2.1:Nat):Int) 0 o.2.1.1 o.2.1.2.1 o.2.2.2.2.2.2.2.1 o.2.2.2.2.2.2.2.2.1 o.2.2.2.1 o.1 o.2.2.1 o.2.2.2.2.1 o.2.2.2.2.2.1 o.2.2.2.2.2.2.1) (key o.2.2.2.1.length 0 (by omega)))
theorem QN {o:iB} {p:bE} (b:Bk nG o) {j:Nat} (hj:j<o.2.2.2.1.length) (he:Eq (α:=Int) (rd bD o.2.2.2.1 (j:Int)).1 p.1):Ev (fun k=>bf k o p) (false,o):=by
 have hl:o.2.2.2.1.length<=1048576:=b.2.2.2.1.1
 have key:∀ d i a:Nat,i+d=o.2.2.2.1.length->i<=j->a<=i->E2 (fun k m=>bf.l0 k m p (a:Int) ((List.length o.2.2.2.1:Nat):Int) (i:Int) o.2.1.1 o.2.1.2.1 o.2.2.2.2.2.2.2.1 o.2.2.2.2.2.2.2.2.1 o.2.2.2.1 o.1 o.2.2.1 o.2.2.2.2.1 o.2.2.2.2.2.1 o.2.2.2.2.2.2.1) (false,o):=by
  intro d
  induction d with
  | zero=>intro i a hi hij;omega
  | succ d ih=>
   intro i a hi hij ha
   by_cases c:Eq (α:=Int) (rd bD o.2.2.2.1 (i:Int)).1 p.1
   ·exact E2.eq (fun k m=>bf.aB k m _ _ _ _ _ _ _ _ _ _ _ _ _ _) (E2.pos (by omega) (E2.pos (by omega) (E2.pos (by omega) (E2.pos c E2.ret))))
   ·have hne:i ≠ j:=fun e=>c (by rw [e];exact he)
    by_cases f:LT.lt (α:=Int) (rd bD o.2.2.2.1 (i:Int)).1 p.1
    ·refine E2.eq (fun k m=>bf.aB k m _ _ _ _ _ _ _ _ _ _ _ _ _ _) (E2.pos (by omega) (E2.pos (by omega) (E2.pos (by omega) (E2.neg c (E2.pos f ?_)))))
     simp only [bX (show i<9223372036854775807 by omega),bX (show a<9223372036854775807 by omega)]
     exact ih (i+1) (a+1) (by omega) (by omega) (by omega)
    ·refine E2.eq (fun k m=>bf.aB k m _ _ _ _ _ _ _ _ _ _ _ _ _ _) (E2.pos (by omega) (E2.pos (by omega) (E2.pos (by omega) (E2.neg c (E2.neg f ?_)))))
     simp only [bX (show i<9223372036854775807 by omega)]
     exact ih (i+1) a (by omega) (by omega) (by omega)
 exact Ev.eq (fun k=>rQ k o p) (Ev.loop (f:=fun k m=>bf.l0 k m p 0 ((List.length o.2.2.2.1:Nat):Int) 0 o.2.1.1 o.2.1.2.1 o.2.2.2.2.2.2.2.1 o.2.2.2.2.2.2.2.2.1 o.2.2.2.1 o.1 o.2.2.1 o.2.2.2.2.1 o.2.2.2.2.2.1 o.2.2.2.2.2.2.1) (key o.2.2.2.1.length 0 0 (by omega) (by omega) (by omega)))
def rises (l:List bE):Prop:=l.Pairwise fun a b=>LT.lt (α:=Int) a.1 b.1
theorem vZ {l:List bE} (h:ni l):rises l:=by
 have key:∀ d i:Nat,i+d+1<l.length->LT.lt (α:=Int) (rd bD l (i:Int)).1 (rd bD l ((i+d+1:Nat):Int)).1:=by
  intro d
  induction d with
  | zero=>
   intro i hi
   have:=(h.1 (i+0+1) hi).2.2 (by omega)
   rwa [show i+0+1 - 1=i by omega] at this
  | succ d ih=>
   intro i hi
   have a:=ih i (by omega)
   have:=(h.1 (i+(d+1)+1) hi).2.2 (by omega)
   rw [show i+(d+1)+1 - 1=i+d+1 by omega] at this
   exact Int.lt_trans a this
 refine List.pairwise_iff_getElem.2 fun i j hi hj hij=>?_
 have:=key (j - i - 1) i (by omega)
 rw [show i+(j - i - 1)+1=j by omega,jf (t:=bD) hi,jf (t:=bD) hj] at this
 exact this
theorem Hu {l:List bE} {p:bE} {c:Nat} (h:rises (l.take c++[p]++l.drop c)):rises l/\(∀ q ∈ l.take c,LT.lt (α:=Int) q.1 p.1)/\∀ q ∈ l.drop c,LT.lt (α:=Int) p.1 q.1:=by
 unfold rises at h ⊢
 obtain ⟨h1,h2,h3⟩:=List.pairwise_append.1 h
 obtain ⟨h4,_,h5⟩:=List.pairwise_append.1 h1
 refine ⟨?_,fun q hq=>h5 q hq p (by simp),fun q hq=>h3 p (by simp) q hq⟩
 rw [<- List.take_append_drop c l]
 exact List.pairwise_append.2 ⟨h4,h2,fun a ha b hb=>h3 a (by simp [ha]) b hb⟩
theorem SX {l:List bE} {x:Int} {c:Nat} (h1:∀ q ∈ l.take c,LT.lt (α:=Int) q.1 x) (h2:∀ q ∈ l.drop c,¬ LT.lt (α:=Int) q.1 x) (hc:c<=l.length):ahead l x=c:=by
 unfold ahead
 rw [<- List.take_append_drop c l,List.filter_append,List.length_append,List.filter_eq_self.2 (fun q hq=>by simpa using h1 q hq),List.filter_eq_nil_iff.2 (fun q hq=>by simpa using h2 q hq),List.length_take]
 simp;omega
theorem Ap {o:iB} (s:Sm o) (h:¬ ni o.2.2.2.1):Ev (fun k=>jm k o) false/\Ev (fun k=>fu k o) false:=by
 obtain ⟨r,e1,e2⟩:=uR o s
 cases r with
 | false=>exact ⟨e1,e2⟩
 | true=>exact absurd (Ng e2 s).2.1 h
theorem QO (o:iB) (p:bE) (b:Bk nG o) (bp:Bk bD p):∃ v:iB × (Bool × Unit),Bk nG v.1/\Ev (fun k=>dI k o p) v/\Ev (fun k=>mY k o p) v:=by
 obtain ⟨i,hi,h1,h2⟩:=JM (fun j=>LT.lt (α:=Int) (rd bD o.2.2.2.1 (j:Int)).1 p.1) o.2.2.2.1.length
 have sI:=PK b bp i hi
 have m1:∀ q ∈ o.2.2.2.1.take i,LT.lt (α:=Int) q.1 p.1:=fun q hq=>by
  obtain ⟨j,hj,rfl⟩:=List.getElem_of_mem hq
  rw [List.length_take] at hj
  rw [List.getElem_take,<- jf (t:=bD) (show j<o.2.2.2.1.length by omega)]
  exact h1 j (by omega)
 have fin:∀ v:iB × (Bool × Unit),Ev (fun k=>oU k o p) v->Ev (fun k=>mY k o p) v:=fun v e=>Ev.eq (fun k=>CO k o p) (Ev.bind e (Ev.ret.val (by simp)))
 have UA:Ev (fun k=>jm k (EF o p i)) false->Ev (fun k=>dI k o p) (o,(false,())):=fun e1=>
  Nh b bp i hi h1 h2 (Ev.eq (fun k=>kQ k o (EF o p i) true) (Ev.neg (by simp) (Ev.bind e1 (Ev.pos (by simp) (Ev.bind (Hr _ b) Ev.ret)))))
 by_cases dup:∃ j,j<o.2.2.2.1.length/\Eq (α:=Int) (rd bD o.2.2.2.1 (j:Int)).1 p.1
 ·obtain ⟨j,hj,he⟩:=dup
  have bad:¬ ni (EF o p i).2.2.2.1:=fun h=>by
   obtain ⟨_,g1,g2⟩:=Hu (vZ (l:=o.2.2.2.1.take i++[p]++o.2.2.2.1.drop i) h)
   have hm:rd bD o.2.2.2.1 (j:Int) ∈ o.2.2.2.1.take i++o.2.2.2.1.drop i:=by
    rw [List.take_append_drop,jf (t:=bD) hj]
    exact List.getElem_mem _
   rcases List.mem_append.1 hm with hm | hm
   ·have:=g1 _ hm;omega
   ·have:=g2 _ hm;omega
  refine ⟨(o,(false,())),b,UA (Ap sI bad).1,fin _ ?_⟩
  exact Ev.eq (fun k=>mV k o p) (Ev.bind (nU _ b) (Ev.bind (QN b hj he) (Ev.pos (by simp) (Ev.bind (nU _ b) Ev.ret))))
 ·have hd:∀ j,j<o.2.2.2.1.length->¬ Eq (α:=Int) (rd bD o.2.2.2.1 (j:Int)).1 p.1:=fun j hj he=>dup ⟨j,hj,he⟩
  have i1:=QK b bp hd
  have sA:=PK b bp (ahead o.2.2.2.1 p.1) (Ht _ _)
  have same:rises o.2.2.2.1->ahead o.2.2.2.1 p.1=i:=fun hr=>SX m1 (fun q hq=>by
   obtain ⟨j,hj,rfl⟩:=List.getElem_of_mem hq
   rw [List.length_drop] at hj
   have hil:i<o.2.2.2.1.length:=by omega
   have h3:=h2 hil
   rw [jf (t:=bD) hil] at h3
   rw [List.getElem_drop]
   by_cases hj0:j=0
   ·subst hj0;simpa using h3
   ·have:=List.pairwise_iff_getElem.1 hr i (i+j) hil (by omega) (by omega)
    omega) hi
  by_cases g:ni (EF o p i).2.2.2.1
  ·have hr:=(Hu (vZ (l:=o.2.2.2.1.take i++[p]++o.2.2.2.1.drop i) g)).1
   rw [same hr] at i1
   have hlen:o.2.2.2.1.length<=8:=by
    have h8:((List.length (o.2.2.2.1.take i++[p]++o.2.2.2.1.drop i):Nat):Int)<=8:=of_decide_eq_true g.2
    simp at h8
    omega
   have bI:Bk nG (EF o p i):=⟨b.1,b.2.1,b.2.2.1,⟨by show (o.2.2.2.1.take i++[p]++o.2.2.2.1.drop i).length<=1048576;simp;omega,fun q hq=>by
    rcases List.mem_append.1 hq with hq | hq
    ·rcases List.mem_append.1 hq with hq | hq
     ·exact b.2.2.2.1.2 q (List.mem_of_mem_take hq)
     ·rw [List.mem_singleton.1 hq];exact bp
    ·exact b.2.2.2.1.2 q (List.mem_of_mem_drop hq)⟩,b.2.2.2.2⟩
   obtain ⟨v,bv,e1,e2⟩:=QH o (EF o p i) b bI true
   exact ⟨v,bv,Nh b bp i hi h1 h2 e1,fin _ (Ev.eq (fun k=>mV k o p) (Ev.bind (nU _ b) (Ev.bind i1 e2)))⟩
  ·have g2:¬ ni (EF o p (ahead o.2.2.2.1 p.1)).2.2.2.1:=fun h=>by
    have hr:=(Hu (vZ (l:=o.2.2.2.1.take (ahead o.2.2.2.1 p.1)++[p]++o.2.2.2.1.drop (ahead o.2.2.2.1 p.1)) h)).1
    rw [same hr] at h
    exact g h
   refine ⟨(o,(false,())),b,UA (Ap sI g).1,fin _ ?_⟩
   exact Ev.eq (fun k=>mV k o p) (Ev.bind (nU _ b) (Ev.bind i1 (Ev.neg (by simp) (Ev.bind (Ap sA g2).2 (Ev.pos (by simp) (Ev.bind (nU _ b) Ev.ret))))))
theorem pure (a0:iB) (a1:bE) (w0:Wd nG a0) (w1:Wd bD a1):∃ k,lZ k a0 a1=some true:=by
 refine Ev.at (f:=fun k=>lZ k a0 a1) ?_
 obtain ⟨r0,e0,h0⟩:=yY a0 w0 1048576 (by omega) (by omega)
 by_cases c0:r0<0
 ·exact Ev.eq (fun k=>kG k a0 a1) (Ev.bind e0 (Ev.pos c0 Ev.ret))
 replace h0:=h0.resolve_left c0
 have b0:=h0.2.2
 obtain ⟨r1,Zk,h1'⟩:=uN a1 w1 r0 (by omega) (by omega)
 by_cases c1:r1<0
 ·exact Ev.eq (fun k=>kG k a0 a1) (Ev.bind e0 (Ev.neg c0 (Ev.bind Zk (Ev.pos c1 Ev.ret))))
 have b1:=(h1'.resolve_left c1).2.2
 have to:=yZ _ b0
 have XR:=uO _ b1
 obtain ⟨v,bv,e1,e2⟩:=QO a0 a1 b0 b1
 obtain ⟨ma,ma1,mah,aan⟩:=JL a0 b0
 have mp:=oZ a1.2.2.2.1 (by have:=b1.2.2.2.1.1;omega) ma.1 (by omega) (by omega)
 obtain ⟨mo,m1,mh,hh⟩:=QG v.1 bv
 have eq:=oG v.1 bv
 refine Ev.eq (fun k=>kG k a0 a1) ?_
 refine Ev.bind e0 ?_
 refine Ev.neg c0 ?_
 refine Ev.bind Zk ?_
 refine Ev.neg c1 ?_
 refine Ev.bind to ?_
 refine Ev.bind XR ?_
 refine Ev.bind e1 ?_
 refine Ev.bind to ?_
 refine Ev.bind XR ?_
 refine Ev.bind e2 ?_
 refine Ev.bind eq ?_
 refine Ev.neg (by simp) ?_
 refine Ev.neg (by simp) ?_
 refine Ev.bind to ?_
 refine Ev.bind (oG a0 b0) ?_
 refine Ev.neg (by simp) ?_
 refine Ev.bind XR ?_
 refine Ev.bind (rR a1 b1) ?_
 refine Ev.neg (by simp) ?_
 refine Ev.bind ma1 ?_
 refine Ev.bind (Ev.eq (fun k=>zX k a1 ma.1) (Ev.bind mp Ev.ret)) ?_
 refine Ev.neg (by show ¬ (ma.1+1*(a1.2.2.2.1.length:Int))<0;omega) ?_
 refine Ev.bind eq ?_
 refine Ev.neg (by simp) ?_
 refine Ev.neg (by simp) ?_
 refine Ev.bind m1 ?_
 refine Ev.bind hh ?_
 refine Ev.neg mh ?_
 refine Ev.neg (by simp) ?_
 refine Ev.bind to ?_
 refine Ev.bind XR ?_
 refine Ev.bind e2 ?_
 refine Ev.bind eq ?_
 refine Ev.neg (by simp) ?_
 refine Ev.neg (by simp) ?_
 refine Ev.bind hh ?_
 refine Ev.neg mh ?_
 refine Ev.neg (by simp) ?_
 exact Ev.ret
end Go.dB
