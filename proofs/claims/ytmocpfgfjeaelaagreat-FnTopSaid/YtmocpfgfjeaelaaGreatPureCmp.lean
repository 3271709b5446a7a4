/- The plain half of Cmp. No condition. -/
import Derived.Test.YtmocpfgfjeaelaaGreatQCmp
import Derived.Test.YtmocpfgfjeaelaaGreatSortF
import Derived.Test.YtmocpfgfjeaelaaGreatPur
set_option linter.unusedVariables false
set_option linter.unusedSimpArgs false
open Go Go.Flat
namespace Go.UO
theorem mD (x:Int):Ev (fun k=>cmp_isNaN_int k x) false:=Ev.eq (fun k=>mq k x) (Ev.ret.val (by simp))
def vO (x y:Int):Int:=if x<y then -1 else if y<x then 1 else 0
theorem pJ (x y:Int):Ev (fun k=>cmp_Compare_int k x y) (vO x y):=by
 unfold vO
 by_cases c:x<y
 ·exact Ev.eq (fun k=>eU k x y) (Ev.bind (mD x) (Ev.bind (mD y) (Ev.neg (by simp) (Ev.neg (by simp) (Ev.pos c (Ev.ret.val (by rw [if_pos c])))))))
 ·by_cases c2:y<x
  ·exact Ev.eq (fun k=>eU k x y) (Ev.bind (mD x) (Ev.bind (mD y) (Ev.neg (by simp) (Ev.neg (by simp) (Ev.neg c (Ev.pos c2 (Ev.ret.val (by rw [if_neg c,if_pos c2]))))))))
  ·exact Ev.eq (fun k=>eU k x y) (Ev.bind (mD x) (Ev.bind (mD y) (Ev.neg (by simp) (Ev.neg (by simp) (Ev.neg c (Ev.neg c2 (Ev.ret.val (by rw [if_neg c,if_neg c2]))))))))
def GH (x y:Int):Int:=if x ≠ 0 then x else y
theorem MC (x y z:Int):Ev (fun k=>aS k [x,y,z]) (GH x (GH y z)):=by
 refine Ev.eq (fun k=>nI k _) (Ev.loop (f:=fun k m=>aS.l0 k m 0 [x,y,z] ((List.length [x,y,z]:Nat):Int) 0) ?_)
 have w0:IntKind.wrap .i64 ((0:Int)+1)=1:=fO (by omega) (by omega)
 have w1:IntKind.wrap .i64 ((1:Int)+1)=2:=fO (by omega) (by omega)
 have w2:IntKind.wrap .i64 ((2:Int)+1)=3:=fO (by omega) (by omega)
 have r0:rd (.int .i64) [x,y,z] 0=x:=rfl
 have r1:rd (.int .i64) [x,y,z] 1=y:=rfl
 have r2:rd (.int .i64) [x,y,z] 2=z:=rfl
 have hl:((List.length [x,y,z]:Nat):Int)=3:=rfl
 unfold GH
 refine E2.eq (fun k m=>aS.aj k m 0 [x,y,z] _ 0) (E2.pos (by rw [hl];omega) (E2.pos (by omega) (E2.pos (by rw [hl];omega) ?_)))
 simp only [r0,w0]
 by_cases c0:x=0
 ·refine E2.neg (fun h=>h c0) ?_
  rw [if_neg (show ¬ x ≠ 0 by omega)]
  refine E2.eq (fun k m=>aS.aj k m 0 [x,y,z] _ 1) (E2.pos (by rw [hl];omega) (E2.pos (by omega) (E2.pos (by rw [hl];omega) ?_)))
  simp only [r1,w1]
  by_cases c1:y=0
  ·refine E2.neg (fun h=>h c1) ?_
   rw [if_neg (show ¬ y ≠ 0 by omega)]
   refine E2.eq (fun k m=>aS.aj k m 0 [x,y,z] _ 2) (E2.pos (by rw [hl];omega) (E2.pos (by omega) (E2.pos (by rw [hl];omega) ?_)))
   simp only [r2,w2]
   by_cases c2:z=0
   ·exact E2.neg (fun h=>h c2) (E2.eq (fun k m=>aS.aj k m 0 [x,y,z] _ 3) (E2.neg (by rw [hl];omega) (E2.ret.val c2.symm)))
   ·exact E2.pos c2 E2.ret
  ·rw [if_pos c1];exact E2.pos c1 E2.ret
 ·rw [if_pos c0];exact E2.pos c0 E2.ret
def NQ (a b:aC):Int:=GH (vO a.1 b.1) (GH (vO a.2.2.2.1 b.2.2.2.1) (vO a.2.2.1 b.2.2.1))
theorem uJ (a b:aC):Ev (fun k=>fE k a b) (NQ a b):=
 Ev.eq (fun k=>kK k a b) (Ev.bind (pJ _ _) (Ev.bind (pJ _ _) (Ev.bind (pJ _ _) (Ev.bind (MC _ _ _) Ev.ret))))
theorem Ev.uniq {α:Type} {f:Nat->Option α} {a b:α} (h:Ev f a) (k:Ev f b):a=b:=by
 obtain ⟨K,h⟩:=h
 obtain ⟨M,k⟩:=k
 have h1:=h (max K M) (by omega)
 rw [k (max K M) (by omega)] at h1
 exact (Option.some.inj h1).symm
def val (r:aZ):Rat:=(((r.1:Int):Int):Rat) / (((r.2.1:Int):Int):Rat)
theorem cmp_holds (a b:aC):∃ k,fE k a b=some (uG a b):=Ev.at (uJ a b)
end Go.UO
