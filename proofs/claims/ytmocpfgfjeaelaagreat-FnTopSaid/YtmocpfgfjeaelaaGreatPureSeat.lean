/- The plain half of Seat. No condition. -/
import Derived.Test.YtmocpfgfjeaelaaGreatQSeat
import Derived.Test.YtmocpfgfjeaelaaGreatSeatF
import Derived.Test.YtmocpfgfjeaelaaGreatPur
set_option linter.unusedVariables false
set_option linter.unusedSimpArgs false
open Go Go.Flat
namespace Go.gy
theorem aB (x lo hi:Int):Ev (fun k=>aK k x lo hi) (decide (lo<=x/\x<=hi)):=by
 by_cases c:lo<=x
 ·exact Ev.eq (fun k=>nk k x lo hi) (Ev.pos c (Ev.ret.val (by simp [c])))
 ·exact Ev.eq (fun k=>nk k x lo hi) (Ev.neg c (Ev.ret.val (by simp [c])))
theorem mD (x:Int):Ev (fun k=>cmp_isNaN_int k x) false:=Ev.eq (fun k=>mq k x) (Ev.ret.val (by simp))
def vO (x y:Int):Int:=if x<y then -1 else if y<x then 1 else 0
theorem pJ (x y:Int):Ev (fun k=>cmp_Compare_int k x y) (vO x y):=by
 unfold vO
 by_cases c:x<y
 ·exact Ev.eq (fun k=>eU k x y) (Ev.bind (mD x) (Ev.bind (mD y) (Ev.neg (by simp) (Ev.neg (by simp) (Ev.pos c (Ev.ret.val (by rw [if_pos c])))))))
 ·by_cases c2:y<x
  ·exact Ev.eq (fun k=>eU k x y) (Ev.bind (mD x) (Ev.bind (mD y) (Ev.neg (by simp) (Ev.neg (by simp) (Ev.neg c (Ev.pos c2 (Ev.ret.val (by rw [if_neg c,if_pos c2]))))))))
  ·exact Ev.eq (fun k=>eU k x y) (Ev.bind (mD x) (Ev.bind (mD y) (Ev.neg (by simp) (Ev.neg (by simp) (Ev.neg c (Ev.neg c2 (Ev.ret.val (by rw [if_neg c,if_neg c2]))))))))
theorem Ar {f:Nat->Option Bool} {p:Prop} [d:Decidable p] (h:∃ r,Ev f r/\(r=true ↔ p)):Ev f (decide p):=by
 obtain ⟨r,e,hr⟩:=h
 exact e.val (by rw [Bool.eq_iff_iff,hr];simp)
theorem wh {F:Int->Nat->Nat->Option Bool} {n:Nat} (Q:Nat->Prop) (c:Bool) (hend:E2 (F (n:Int)) c)
  (hgo:∀ i,i<n->Q i->∀ v,E2 (F ((i+1:Nat):Int)) v->E2 (F (i:Int)) v) (hstop:∀ i,i<n->¬ Q i->E2 (F (i:Int)) false) :
  ∃ r,E2 (F 0) r/\(r=true ↔ (∀ i,i<n->Q i)/\c=true):=by
 have key:∀ d i,i+d=n->∃ r,E2 (F (i:Int)) r/\(r=true ↔ (∀ j,i<=j->j<n->Q j)/\c=true):=by
  intro d
  induction d with
  | zero=>
   intro i hi
   have hi:i=n:=by omega
   subst hi
   exact ⟨c,hend,⟨fun h=>⟨fun j _ _=>by omega,h⟩,fun h=>h.2⟩⟩
  | succ d ih=>
   intro i hi
   obtain ⟨r,er,hr⟩:=ih (i+1) (by omega)
   by_cases hq:Q i
   ·refine ⟨r,hgo i (by omega) hq r er,hr.trans ⟨fun h=>⟨fun j h1 h2=>?_,h.2⟩,fun h=>⟨fun j h1 h2=>h.1 j (by omega) h2,h.2⟩⟩⟩
    by_cases hj:j=i
    ·subst hj;exact hq
    ·exact h.1 j (by omega) h2
   ·exact ⟨false,hstop i (by omega) hq,by simp only [Bool.false_eq_true,false_iff];exact fun h=>hq (h.1 i (Nat.le_refl _) (by omega))⟩
 obtain ⟨r,er,hr⟩:=key n 0 (by omega)
 exact ⟨r,er,hr.trans ⟨fun h=>⟨fun i hi=>h.1 i (Nat.zero_le _) hi,h.2⟩,fun h=>⟨fun i _ hi=>h.1 i hi,h.2⟩⟩⟩
theorem kL {i:Nat} (h:0<i) (h2:i<9223372036854775807):IntKind.wrap .i64 ((i:Int) - 1)=((i - 1:Nat):Int):=by
 rw [fO (by omega) (by omega)];omega
def Uf (e:aC):Prop:=(0<=(e.1:Int)/\(e.1:Int)<=2000)/\(1<=(e.2.1:Int)/\(e.2.1:Int)<=96)/\(21<=(e.2.2.1:Int)/\(e.2.2.1:Int)<=108)/\1<=(e.2.2.2.1:Int)/\(e.2.2.2.1:Int)<=4
instance (e:aC):Decidable (Uf e):=by unfold Uf;infer_instance
def ze (a b:aC):Prop:=(a.1:Int)<b.1\/(a.1:Int)=b.1/\((a.2.2.2.1:Int)<b.2.2.2.1\/(a.2.2.2.1:Int)=b.2.2.2.1/\(a.2.2.1:Int)<b.2.2.1)
instance (a b:aC):Decidable (ze a b):=by unfold ze;infer_instance
def GH (x y:Int):Int:=if x ≠ 0 then x else y
theorem MC (x y z:Int):Ev (fun k=>aS k [x,y,z]) (GH x (GH y z)):=by
 refine Ev.eq (fun k=>nI k _) (Ev.loop (f:=fun k m=>aS.l0 k m 0 [x,y,z] ((List.length [x,y,z]:Nat):Int) 0) ?_)
 have w0:IntKind.wrap .i64 ((0:Int)+1)=1:=fO (by omega) (by omega)
 have w1:IntKind.wrap .i64 ((1:Int)+1)=2:=fO (by omega) (by omega)
 have w2:IntKind.wrap .i64 ((2:Int)+1)=3:=fO (by omega) (by omega)
 have r0:rd (.int .i64) [x,y,z] 0=x:=rfl
 have r1:rd (.int .i64) [x,y,z] 1=y:=rfl
 have r2:rd (.int .i64) [x,y,z] 2=z:=rfl
 have hl:((List.length [x,y,z]:Nat):Int)=3:=rfl
 unfold GH
 refine E2.eq (fun k m=>aS.aj k m 0 [x,y,z] _ 0) (E2.pos (by rw [hl];omega) (E2.pos (by omega) (E2.pos (by rw [hl];omega) ?_)))
 simp only [r0,w0]
 by_cases c0:x=0
 ·refine E2.neg (fun h=>h c0) ?_
  rw [if_neg (show ¬ x ≠ 0 by omega)]
  refine E2.eq (fun k m=>aS.aj k m 0 [x,y,z] _ 1) (E2.pos (by rw [hl];omega) (E2.pos (by omega) (E2.pos (by rw [hl];omega) ?_)))
  simp only [r1,w1]
  by_cases c1:y=0
  ·refine E2.neg (fun h=>h c1) ?_
   rw [if_neg (show ¬ y ≠ 0 by omega)]
   refine E2.eq (fun k m=>aS.aj k m 0 [x,y,z] _ 2) (E2.pos (by rw [hl];omega) (E2.pos (by omega) (E2.pos (by rw [hl];omega) ?_)))
   simp only [r2,w2]
   by_cases c2:z=0
   ·exact E2.neg (fun h=>h c2) (E2.eq (fun k m=>aS.aj k m 0 [x,y,z] _ 3) (E2.neg (by rw [hl];omega) (E2.ret.val c2.symm)))
   ·exact E2.pos c2 E2.ret
  ·rw [if_pos c1];exact E2.pos c1 E2.ret
 ·rw [if_pos c0];exact E2.pos c0 E2.ret
def NQ (a b:aC):Int:=GH (vO a.1 b.1) (GH (vO a.2.2.2.1 b.2.2.2.1) (vO a.2.2.1 b.2.2.1))
theorem uJ (a b:aC):Ev (fun k=>fE k a b) (NQ a b):=
 Ev.eq (fun k=>kK k a b) (Ev.bind (pJ _ _) (Ev.bind (pJ _ _) (Ev.bind (pJ _ _) (Ev.bind (MC _ _ _) Ev.ret))))
theorem Bl (a b:aC):NQ a b<0 ↔ ze a b:=by
 unfold NQ GH vO ze
 repeat' split
 all_goals omega
def QS (l:List aC) (i:Nat):Prop:=Uf (rd aP l (i:Int))/\(0<i->ze (rd aP l ((i - 1:Nat):Int)) (rd aP l (i:Int)))
instance (l:List aC) (i:Nat):Decidable (QS l i):=by unfold QS;infer_instance
def dU (l:List aC):Prop:=(∀ i,i<l.length->QS l i)/\decide (((l.length:Nat):Int)<=40)=true
instance (l:List aC):Decidable (dU l):=by unfold dU;infer_instance
theorem pW (l:List aC) (hl:l.length<=33554432):Ev (fun k=>aN k l) (decide (dU l)):=by
 refine Ar ?_
 obtain ⟨r,er,hr⟩:=wh (F:=fun i k m=>aN.l0 k m l l ((List.length l:Nat):Int) i) (n:=l.length) (QS l) (decide (((l.length:Nat):Int)<=40)) (E2.eq (fun k m=>aN.aj k m l l _ _) (E2.neg (by omega) E2.ret)) (fun i hi hq v e=>by
  obtain ⟨⟨h1,h2,h3,h4⟩,h5⟩:=hq
  refine E2.eq (fun k m=>aN.aj k m l l _ _) (E2.pos (by omega) (E2.pos (by omega) (E2.pos (by omega) (E2.bind (aB _ _ _) (E2.neg (by simpa using h1) (E2.bind (aB _ _ _) (E2.neg (by simpa using h2) (E2.bind (aB _ _ _) (E2.neg (by simpa using h3) (E2.bind (aB _ _ _) (E2.neg (by simpa using h4) ?_)))))))))))
  by_cases c:0<i
  ·refine E2.pos (by omega) ?_
   simp only [kL c (show i<9223372036854775807 by omega),bE (show i<9223372036854775807 by omega)]
   have:=(Bl _ _).2 (h5 c)
   exact E2.pos (by omega) (E2.pos (by omega) (E2.bind (uJ _ _) (E2.neg (by omega) e)))
  ·refine E2.neg (by omega) ?_
   simp only [bE (show i<9223372036854775807 by omega)]
   exact e) (fun i hi hq=>by
  refine E2.eq (fun k m=>aN.aj k m l l _ _) (E2.pos (by omega) (E2.pos (by omega) (E2.pos (by omega) (E2.bind (aB _ _ _) ?_))))
  by_cases h1:0<=((rd aP l (i:Int)).1:Int)/\((rd aP l (i:Int)).1:Int)<=2000
  ·refine E2.neg (by simpa using h1) (E2.bind (aB _ _ _) ?_)
   by_cases h2:1<=((rd aP l (i:Int)).2.1:Int)/\((rd aP l (i:Int)).2.1:Int)<=96
   ·refine E2.neg (by simpa using h2) (E2.bind (aB _ _ _) ?_)
    by_cases h3:21<=((rd aP l (i:Int)).2.2.1:Int)/\((rd aP l (i:Int)).2.2.1:Int)<=108
    ·refine E2.neg (by simpa using h3) (E2.bind (aB _ _ _) ?_)
     by_cases h4:1<=((rd aP l (i:Int)).2.2.2.1:Int)/\((rd aP l (i:Int)).2.2.2.1:Int)<=4
     ·refine E2.neg (by simpa using h4) ?_
      have c:0<i:=by
       rcases Nat.eq_zero_or_pos i with h | h
       ·exact absurd ⟨⟨h1,h2,h3,h4⟩,fun h'=>by omega⟩ hq
       ·exact h
      have c1:¬ ze (rd aP l ((i - 1:Nat):Int)) (rd aP l (i:Int)):=fun h=>hq ⟨⟨h1,h2,h3,h4⟩,fun _=>h⟩
      refine E2.pos (by omega) ?_
      simp only [kL c (show i<9223372036854775807 by omega)]
      have:=mt (Bl _ _).1 c1
      exact E2.pos (by omega) (E2.pos (by omega) (E2.bind (uJ _ _) (E2.pos (by omega) E2.ret)))
     ·exact E2.pos (by simpa using h4) E2.ret
    ·exact E2.pos (by simpa using h3) E2.ret
   ·exact E2.pos (by simpa using h2) E2.ret
  ·exact E2.pos (by simpa using h1) E2.ret)
 exact ⟨r,Ev.eq (fun k=>uT k l) (Ev.loop (f:=fun k m=>aN.l0 k m l l ((List.length l:Nat):Int) 0) er),hr⟩
theorem bJ (l:List aC) (hl:l.length<=1048576):Ev (fun k=>aN k l) (decide (dU l)):=pW l (by omega)
theorem JL (l:List Int) (x:Int) (hl:l.length<=1048576):Ev (fun k=>aD k l x) (wI (fun i=>decide (Eq (α:=Int) x (rd (.int .i64) l (i:Int)))) l.length):=by
 have er:=qW (R:=fun i v=>E2 (fun k m=>aD.l0 k m l x ((List.length l:Nat):Int) i) v) (n:=l.length) (fun i=>decide (Eq (α:=Int) x (rd (.int .i64) l (i:Int)))) (E2.eq (fun k m=>aD.aj k m l x _ _) (E2.neg (by omega) E2.ret)) (fun i hi hq v e=>by
  refine E2.eq (fun k m=>aD.aj k m l x _ _) (E2.pos (by omega) (E2.pos (by omega) (E2.pos (by omega) (E2.neg (by simpa using hq) ?_))))
  simp only [bE (show i<9223372036854775807 by omega)];exact e) (fun i hi hq=>E2.eq (fun k m=>aD.aj k m l x _ _) (E2.pos (by omega) (E2.pos (by omega) (E2.pos (by omega) (E2.pos (by simpa using hq) E2.ret)))))
 exact Ev.eq (fun k=>ji k l x) (Ev.loop (f:=fun k m=>aD.l0 k m l x ((List.length l:Nat):Int) 0) er)
theorem jH (l:List Int) (x:Int) (hl:l.length<=1048576):Ev (fun k=>cB k l x) (decide (x ∈ l)):=by
 refine Ev.eq (fun k=>jL k l x) (Ev.bind (JL l x hl) (Ev.ret.val ?_))
 rw [Bool.eq_iff_iff,decide_eq_true_eq,decide_eq_true_eq,xL]
 constructor
 ·rintro ⟨i,hi,h⟩
  have h:x=rd (.int .i64) l (i:Int):=by simpa using h
  rw [h,dI hi];exact List.getElem_mem hi
 ·intro h
  obtain ⟨i,hi,h⟩:=List.mem_iff_getElem.1 h
  exact ⟨i,hi,by rw [decide_eq_true_eq,dI hi];exact h.symm⟩
def bF (v:Int) (e:aC):Bool:=decide ((e.2.2.2.1:Int)=v)
theorem zf (e:aC) (v:Int):Ev (fun k=>jc k e v) (! bF v e):=by
 refine Ev.eq (fun k=>rQ k e v) (Ev.ret.val ?_)
 unfold bF
 simp
theorem Fb (l:List aC) (v:Int) (hl:l.length<=1048576):Ev (fun k=>au k l v) (l.filter (bF v)):=by
 have ei:Ev (fun k=>ay k l v) (wI (fun i=>! bF v (rd aP l (i:Int))) l.length):=by
  have er:=qW (R:=fun i r=>E2 (fun k m=>ay.l0 k m l v ((List.length l:Nat):Int) i) r) (n:=l.length) (fun i=>! bF v (rd aP l (i:Int))) (E2.eq (fun k m=>ay.aj k m l v _ _) (E2.neg (by omega) E2.ret)) (fun i hi hq r e=>by
   refine E2.eq (fun k m=>ay.aj k m l v _ _) (E2.pos (by omega) (E2.pos (by omega) (E2.pos (by omega) (E2.bind (zf _ _) (E2.neg (by rw [hq];simp) ?_)))))
   simp only [bE (show i<9223372036854775807 by omega)];exact e) (fun i hi hq=>E2.eq (fun k m=>ay.aj k m l v _ _) (E2.pos (by omega) (E2.pos (by omega) (E2.pos (by omega) (E2.bind (zf _ _) (E2.pos hq E2.ret))))))
  exact Ev.eq (fun k=>iP k l v) (Ev.loop (f:=fun k m=>ay.l0 k m l v ((List.length l:Nat):Int) 0) er)
 refine Ev.eq (fun k=>iI k l v) (Ev.bind ei ?_)
 rcases qV (fun i=>! bF v (rd aP l (i:Int))) l.length with ⟨h,hall⟩ | ⟨r,h,hr,h1,h0⟩
 ·refine Ev.pos h (Ev.ret.val ?_)
  symm
  rw [List.filter_eq_self]
  intro x hx
  obtain ⟨i,hi,rfl⟩:=List.mem_iff_getElem.1 hx
  have:=hall i hi
  rw [dI hi] at this
  simpa using this
 ·rw [h]
  refine Ev.neg (by omega) ?_
  rw [bE (by omega)]
  refine Ev.loop (f:=fun k m=>au.l0 k m v (r:Int) ((r+1:Nat):Int) l) ?_
  refine za (t:=aP) (l:=l) (R:=fun i j s w=>E2 (fun k m=>au.l0 k m v i j s) w) (bF v) (fun i s hi hs=>?_) (fun i j s hij hj hs hq w e=>?_) (fun i j s hij hj hs hq w e=>?_) r hr (fun j hj=>by simpa using h0 j hj) (by simpa using h1)
  ·refine E2.eq (fun k m=>au.aj k m v _ _ s) (E2.neg (by omega) (E2.pos (by omega) (E2.pos (by omega) (E2.pos (by omega) (E2.pos ?_ (E2.ret.val ?_))))))
   ·simp only [List.length_append,List.length_take,List.length_replicate,List.length_drop,Int.toNat_natCast]
    omega
   ·simp only [Int.toNat_natCast,show Int.toNat 0=0 from rfl,Nat.sub_zero,List.drop_zero]
    rw [List.append_assoc,List.take_append_of_le_length (by simp;omega),List.take_take,Nat.min_self]
  ·refine E2.eq (fun k m=>au.aj k m v _ _ s) (E2.pos (by omega) (E2.pos (by omega) (E2.pos (by omega) (E2.bind (zf _ _) (E2.pos (by rw [hq];simp) (E2.pos (by omega) (E2.pos (by omega) ?_)))))))
   simp only [bE (show i<9223372036854775807 by omega),bE (show j<9223372036854775807 by omega),Int.toNat_natCast];exact e
  ·refine E2.eq (fun k m=>au.aj k m v _ _ s) (E2.pos (by omega) (E2.pos (by omega) (E2.pos (by omega) (E2.bind (zf _ _) (E2.neg (by rw [hq];simp) ?_)))))
   simp only [bE (show j<9223372036854775807 by omega)];exact e
theorem jr (l:List aC) (hl:l.length<=1048576):Ev (fun k=>bD k l) l:=
 Ev.eq (fun k=>lH k l) (Ev.pos (by simp only [List.length_nil];omega) (Ev.ret.val (by simp)))
theorem rR (l:List aC) (v:Int) (hl:l.length<=1048576):Ev (fun k=>kg k l v) (l.filter (bF v)):=
 Ev.eq (fun k=>uU k l v) (Ev.bind (jr l hl) (Ev.bind (Fb l v hl) Ev.ret))
def QF (lo hi:Int) (l:List aC) (i:Nat):Prop:=LE.le (α:=Int) lo (rd aP l (i:Int)).2.2.1/\LE.le (α:=Int) (rd aP l (i:Int)).2.2.1 hi
def ME (l:List aC) (lo hi:Int):Prop:=(∀ i,i<l.length->QF lo hi l i)/\decide (dU l)=true
theorem Au (l:List aC) (lo hi:Int) (hl:l.length<=1048576):∃ r,Ev (fun k=>bB k l lo hi) r/\(r=true ↔ ME l lo hi):=by
 obtain ⟨r,er,hr⟩:=jq (R:=fun i v=>E2 (fun k m=>bB.l0 k m l lo hi l ((List.length l:Nat):Int) i) v) (n:=l.length) (QF lo hi l) (decide (dU l)) (E2.eq (fun k m=>bB.aj k m l lo hi l _ _) (E2.neg (by omega) (E2.bind (bJ l hl) (E2.ret.val (by simp))))) (fun i hi' hq v e=>by
  refine E2.eq (fun k m=>bB.aj k m l lo hi l _ _) (E2.pos (by omega) (E2.pos (by omega) (E2.pos (by omega) (E2.bind (aB _ _ _) (E2.neg (by simpa [QF] using hq) ?_)))))
  simp only [bE (show i<9223372036854775807 by omega)];exact e) (fun i hi' hq=>E2.eq (fun k m=>bB.aj k m l lo hi l _ _) (E2.pos (by omega) (E2.pos (by omega) (E2.pos (by omega) (E2.bind (aB _ _ _) (E2.pos (by simp only [decide_eq_true_eq];exact hq) E2.ret))))))
 exact ⟨r,Ev.eq (fun k=>rP k l lo hi) (Ev.loop (f:=fun k m=>bB.l0 k m l lo hi l ((List.length l:Nat):Int) 0) er),hr⟩
def NR (p:bT) (l:List aC) (v:Int):Prop:=(v:Int) ∈ p.2.2.2.1/\dU l/\ME (l.filter (bF v)) p.2.1 p.2.2.1
theorem filter_le (l:List aC) (v:Int) (hl:l.length<=1048576):(l.filter (bF v)).length<=1048576:=Nat.le_trans (List.length_filter_le _ _) hl
theorem zh (p:bT) (l:List aC) (v:Int) (hp:p.2.2.2.1.length<=1048576) (hl:l.length<=1048576):∃ r,Ev (fun k=>jZ k p l v) r/\(r=true ↔ NR p l v):=by
 unfold NR
 by_cases c1:(v:Int) ∈ p.2.2.2.1
 ·by_cases c2:dU l
  ·obtain ⟨r,er,hr⟩:=Au (l.filter (bF v)) p.2.1 p.2.2.1 (filter_le l v hl)
   exact ⟨r,Ev.eq (fun k=>jM k p l v) (Ev.bind (jH _ _ hp) (Ev.pos (by simpa using c1) (Ev.bind (bJ l hl) (Ev.pos (by simpa using c2) (Ev.bind (rR l v hl) (Ev.bind er (Ev.ret.val (by simp)))))))),by rw [hr];exact ⟨fun h=>⟨c1,c2,h⟩,fun h=>h.2.2⟩⟩
  ·exact ⟨false,Ev.eq (fun k=>jM k p l v) (Ev.bind (jH _ _ hp) (Ev.pos (by simpa using c1) (Ev.bind (bJ l hl) (Ev.neg (by simpa using c2) Ev.ret)))),by simp only [Bool.false_eq_true,false_iff];exact fun h=>c2 h.2.1⟩
 ·exact ⟨false,Ev.eq (fun k=>jM k p l v) (Ev.bind (jH _ _ hp) (Ev.neg (by simpa using c1) Ev.ret)),by simp only [Bool.false_eq_true,false_iff];exact fun h=>c1 h.1⟩
def QA (lo hi:Int) (l:List Int) (i:Nat):Prop:=(LE.le (α:=Int) lo (rd (.int .i64) l (i:Int))/\LE.le (α:=Int) (rd (.int .i64) l (i:Int)) hi)/\(0<i->LT.lt (α:=Int) (rd (.int .i64) l ((i - 1:Nat):Int)) (rd (.int .i64) l (i:Int)))
def NS (l:List Int) (lo hi:Int):Prop:=∀ i,i<l.length->QA lo hi l i
theorem Yf {lo hi:Int} {l:List Int} {i:Nat} (h:¬ QA lo hi l i) (h1:LE.le (α:=Int) lo (rd (.int .i64) l (i:Int))/\LE.le (α:=Int) (rd (.int .i64) l (i:Int)) hi):0<i/\¬ LT.lt (α:=Int) (rd (.int .i64) l ((i - 1:Nat):Int)) (rd (.int .i64) l (i:Int)):=by
 refine ⟨?_,fun c=>h ⟨h1,fun _=>c⟩⟩
 rcases Nat.eq_zero_or_pos i with hi | hi
 ·exact absurd ⟨h1,fun h'=>by omega⟩ h
 ·exact hi
theorem CR (l:List Int) (lo hi:Int) (hl:l.length<=1048576):∃ r,Ev (fun k=>aW k l lo hi) r/\(r=true ↔ NS l lo hi):=by
 obtain ⟨r,er,hr⟩:=jq (R:=fun i v=>E2 (fun k m=>aW.l0 k m l lo hi l ((List.length l:Nat):Int) i) v) (n:=l.length) (QA lo hi l) true (E2.eq (fun k m=>aW.aj k m l lo hi l _ _) (E2.neg (by omega) E2.ret)) (fun i hi' hq v e=>by
  obtain ⟨h1,h2⟩:=hq
  refine E2.eq (fun k m=>aW.aj k m l lo hi l _ _) (E2.pos (by omega) (E2.pos (by omega) (E2.pos (by omega) (E2.bind (aB _ _ _) (E2.neg (by simpa using h1) ?_)))))
  simp only [bE (show i<9223372036854775807 by omega)]
  by_cases c:0<i
  ·refine E2.pos (by omega) ?_
   simp only [kL c (show i<9223372036854775807 by omega)]
   have:=h2 c
   exact E2.pos (by omega) (E2.pos (by omega) (E2.neg (by omega) e))
  ·exact E2.neg (by omega) e) (fun i hi' hq=>by
  refine E2.eq (fun k m=>aW.aj k m l lo hi l _ _) (E2.pos (by omega) (E2.pos (by omega) (E2.pos (by omega) (E2.bind (aB _ _ _) ?_))))
  by_cases h1:LE.le (α:=Int) lo (rd (.int .i64) l (i:Int))/\LE.le (α:=Int) (rd (.int .i64) l (i:Int)) hi
  ·obtain ⟨c,c1⟩:=Yf hq h1
   refine E2.neg (by simpa using h1) (E2.pos (by omega) ?_)
   simp only [kL c (show i<9223372036854775807 by omega)]
   exact E2.pos (by omega) (E2.pos (by omega) (E2.pos (by omega) E2.ret))
  ·exact E2.pos (by simp only [decide_eq_true_eq];exact h1) E2.ret)
 exact ⟨r,Ev.eq (fun k=>rO k l lo hi) (Ev.loop (f:=fun k m=>aW.l0 k m l lo hi l ((List.length l:Nat):Int) 0) er),hr.trans ⟨fun h=>h.1,fun h=>⟨h,rfl⟩⟩⟩
def okP (p:bT):Prop:=(21<=(p.2.1:Int)/\(p.2.1:Int)<=p.2.2.1)/\(p.2.2.1:Int)<=108/\NS p.2.2.2.1 1 4
def QP (l:List bT) (i:Nat):Prop:=okP (rd dL l (i:Int))/\(1<=((rd dL l (i:Int)).1:Int)/\((rd dL l (i:Int)).1:Int)<=99)/\(0<i->LT.lt (α:=Int) (rd dL l ((i - 1:Nat):Int)).1 (rd dL l (i:Int)).1)
def ou (l:List bT):Prop:=(∀ i,i<l.length->QP l i)/\decide (((l.length:Nat):Int)<=8)=true
def Wq (l:List bT):Prop:=l.length<=1048576/\∀ i:Nat,i<l.length->(rd dL l (i:Int)).2.2.2.1.length<=1048576
def jN (l:List bT):List Int:=l.map fun p=>p.1
theorem kF {l:List bT} {i:Nat} (h:i<l.length):Eq (α:=Int) (rd (.int .i64) (jN l) (i:Int)) (rd dL l (i:Int)).1:=by
 unfold jN
 rw [dI (by simpa using h),dI h]
 simp
theorem wJ (l:List bT) (hs:Wq l):∃ r,Ev (fun k=>aR k l) r/\(r=true ↔ ou l):=by
 have hl:=hs.1
 obtain ⟨a,ea,ha⟩:=CR (jN l) 1 99 (by unfold jN;simpa using hl)
 obtain ⟨r,er,hr⟩:=jq (R:=fun i v=>E2 (fun k m=>aR.l0 k m l l ((List.length l:Nat):Int) i (jN (l.take i.toNat))) v) (n:=l.length) (fun i=>okP (rd dL l (i:Int))) (decide (((l.length:Nat):Int)<=8/\a=true)) (by
  refine E2.eq (fun k m=>aR.aj k m l l _ _ _) (E2.neg (by omega) ?_)
  rw [Int.toNat_natCast,List.take_length]
  by_cases c:((l.length:Nat):Int)<=8
  ·exact E2.pos c (E2.bind ea (E2.ret.val (by simp [c])))
  ·exact E2.neg c (E2.ret.val (by simp [c]))) (fun i hi hq v e=>by
  obtain ⟨h1,h2,h3⟩:=hq
  obtain ⟨b,eb,hb⟩:=CR (rd dL l (i:Int)).2.2.2.1 1 4 (hs.2 i hi)
  have hlen:(jN (l.take ((i:Int)).toNat)).length=i:=by unfold jN;simp;omega
  refine E2.eq (fun k m=>aR.aj k m l l _ _ _) (E2.pos (by omega) (E2.pos (by omega) (E2.pos (by omega) (E2.bind (aB _ _ _) (E2.neg (by simpa using h1) (E2.neg (Int.not_lt.2 h2) (E2.bind eb (E2.neg (by simpa using hb.2 h3) (E2.pos (by rw [hlen];simp only [List.length_cons,List.length_nil];omega) ?_)))))))))
  simp only [bE (show i<9223372036854775807 by omega)]
  have he:jN (l.take ((i:Int)).toNat)++[(rd dL l (i:Int)).1]=jN (l.take (((i+1:Nat):Int)).toNat):=by
   unfold jN
   rw [Int.toNat_natCast,Int.toNat_natCast,List.take_succ_eq_append_getElem hi,dI hi,List.map_append]
   rfl
  rw [he]
  exact e) (fun i hi hq=>by
  obtain ⟨b,eb,hb⟩:=CR (rd dL l (i:Int)).2.2.2.1 1 4 (hs.2 i hi)
  refine E2.eq (fun k m=>aR.aj k m l l _ _ _) (E2.pos (by omega) (E2.pos (by omega) (E2.pos (by omega) (E2.bind (aB _ _ _) ?_))))
  by_cases h1:LE.le (α:=Int) 21 (rd dL l (i:Int)).2.1/\LE.le (α:=Int) (rd dL l (i:Int)).2.1 (rd dL l (i:Int)).2.2.1
  ·refine E2.neg (by simpa using h1) ?_
   by_cases h2:LE.le (α:=Int) (rd dL l (i:Int)).2.2.1 108
   ·exact E2.neg (by omega) (E2.bind eb (E2.pos (fun c=>hq ⟨h1,h2,hb.1 c⟩) E2.ret))
   ·exact E2.pos (by omega) E2.ret
  ·exact E2.pos (by simp only [decide_eq_true_eq];exact h1) E2.ret)
 have er':E2 (fun k m=>aR.l0 k m l l ((List.length l:Nat):Int) 0 []) r:=er
 refine ⟨r,Ev.eq (fun k=>qH k l) (Ev.loop (f:=fun k m=>aR.l0 k m l l ((List.length l:Nat):Int) 0 []) er'),hr.trans ?_⟩
 unfold ou
 rw [decide_eq_true_eq,decide_eq_true_eq,ha]
 unfold NS
 have hlen:(jN l).length=l.length:=by unfold jN;simp
 rw [hlen]
 constructor
 ·rintro ⟨h1,h2,h3⟩
  refine ⟨fun i hi=>?_,h2⟩
  obtain ⟨k1,k2⟩:=h3 i hi
  rw [kF hi] at k1
  refine ⟨h1 i hi,k1,fun c=>?_⟩
  have:=k2 c
  rw [kF hi,kF (show i - 1<l.length by omega)] at this
  exact this
 ·rintro ⟨h1,h2⟩
  refine ⟨fun i hi=>(h1 i hi).1,h2,fun i hi=>?_⟩
  obtain ⟨k1,k2,k3⟩:=h1 i hi
  refine ⟨by rw [kF hi];exact k2,fun c=>?_⟩
  rw [kF hi,kF (show i - 1<l.length by omega)]
  exact k3 c
theorem Ev.uniq {α:Type} {f:Nat->Option α} {a b:α} (h:Ev f a) (k:Ev f b):a=b:=by
 obtain ⟨K,h⟩:=h
 obtain ⟨M,k⟩:=k
 have h1:=h (max K M) (by omega)
 rw [k (max K M) (by omega)] at h1
 exact (Option.some.inj h1).symm
def val (r:aZ):Rat:=(((r.1:Int):Int):Rat) / (((r.2.1:Int):Int):Rat)
noncomputable def evB (f:Nat->Option Bool):Bool:=@decide (Ev f true) (Classical.propDecidable _)
theorem RU {f:Nat->Option Bool} {r:Bool} (h:Ev f r):evB f=r:=by
 unfold evB
 cases r with
 | true=>exact @decide_eq_true _ (Classical.propDecidable _) h
 | false=>
  refine @decide_eq_false _ (Classical.propDecidable _) fun h2=>?_
  obtain ⟨K,hK⟩:=h
  obtain ⟨M,hM⟩:=h2
  have e1:=hK (max K M) (by omega)
  have e2:=hM (max K M) (by omega)
  rw [e1] at e2
  cases e2
noncomputable def QK (l:List bT):Bool:=evB fun k=>aR k l
noncomputable def QN (sc:List aC):Bool:=evB fun k=>aN k sc
noncomputable def Bv (p:bT) (sc:List aC) (v:Int):Bool:=evB fun k=>jZ k p sc v
theorem abw (l:List bT) (h:Wq l):(∃ k,aR k l=some (QK l))/\(QK l=true ↔ ou l):=by
 obtain ⟨r,e,hr⟩:=wJ l h
 unfold QK
 rw [RU e]
 exact ⟨Ev.at e,hr⟩
theorem abx (sc:List aC) (h:sc.length<=1048576):(∃ k,aN k sc=some (QN sc))/\(QN sc=true ↔ dU sc):=by
 have e:=bJ sc h
 unfold QN
 rw [RU e]
 exact ⟨Ev.at e,by rw [decide_eq_true_eq]⟩
theorem ZO (p:bT) (sc:List aC) (v:Int) (hp:p.2.2.2.1.length<=1048576) (h:sc.length<=1048576):(∃ k,jZ k p sc v=some (Bv p sc v))/\(Bv p sc v=true ↔ NR p sc v):=by
 obtain ⟨r,e,hr⟩:=zh p sc v hp h
 unfold Bv
 rw [RU e]
 exact ⟨Ev.at e,hr⟩
theorem aby (v:Int):∃ k,aK k v 1 4=some (decide (1<=v/\v<=4)):=Ev.at (aB v 1 4)
theorem ZP (t:List Int) (x:Int) (h:t.length<=1048576):∃ k,cB k t x=some (decide (x ∈ t)):=Ev.at (jH t x h)
end Go.gy
