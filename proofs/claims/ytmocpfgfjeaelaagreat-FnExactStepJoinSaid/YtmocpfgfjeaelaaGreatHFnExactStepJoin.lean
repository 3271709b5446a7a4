/- The law's helpers. No condition. -/
import Derived.Test.YtmocpfgfjeaelaaGreatQFnExactStepJoin
import Derived.Test.YtmocpfgfjeaelaaGreatPur
set_option linter.unusedVariables false
set_option linter.unusedSimpArgs false
open Go Go.Flat
namespace Go.dB
theorem Dg (x:(List bA)) (w:Wd (.list fF) x) (n:Int) (hn:0<=n) (hm:n<=1048576):∃ r,Ev (fun k=>tF k x n) r/\(r<0\/0<=r/\r<=n/\Bk (.list fF) x):=by
 have hl:x.length<=9223372036854775807:=w.1
 by_cases c:n - (x.length:Int)<0
 ·exact ⟨-1,Ev.eq (fun k=>uG k x n) (Ev.pos (by rw [dM (by omega) (by omega)];omega) Ev.ret),.inl (by omega)⟩
 ·exact ⟨n - x.length,Ev.eq (fun k=>uG k x n) (Ev.neg (by rw [dM (by omega) (by omega)];omega) (Ev.ret.val (dM (by omega) (by omega)))),.inr ⟨by omega,by omega,show Bk (.list fF) x from yL (by omega) fun i hi=>mP _ rfl⟩⟩
theorem Dh (x:(List bq)) (w:Wd (.list bT) x) (n:Int) (hn:0<=n) (hm:n<=1048576):∃ r,Ev (fun k=>tH k x n) r/\(r<0\/0<=r/\r<=n/\Bk (.list bT) x):=by
 have hl:x.length<=9223372036854775807:=w.1
 by_cases c:n - (x.length:Int)<0
 ·exact ⟨-1,Ev.eq (fun k=>uH k x n) (Ev.pos (by rw [dM (by omega) (by omega)];omega) Ev.ret),.inl (by omega)⟩
 ·exact ⟨n - x.length,Ev.eq (fun k=>uH k x n) (Ev.neg (by rw [dM (by omega) (by omega)];omega) (Ev.ret.val (dM (by omega) (by omega)))),.inr ⟨by omega,by omega,show Bk (.list bT) x from yL (by omega) fun i hi=>mP _ rfl⟩⟩
theorem yj (x:(List Int)) (w:Wd (.list (.int .i64)) x) (n:Int) (hn:0<=n) (hm:n<=1048576):∃ r,Ev (fun k=>sM k x n) r/\(r<0\/0<=r/\r<=n/\Bk (.list (.int .i64)) x):=by
 have hl:x.length<=9223372036854775807:=w.1
 by_cases c:n - (x.length:Int)<0
 ·exact ⟨-1,Ev.eq (fun k=>xZ k x n) (Ev.pos (by rw [dM (by omega) (by omega)];omega) Ev.ret),.inl (by omega)⟩
 ·exact ⟨n - x.length,Ev.eq (fun k=>xZ k x n) (Ev.neg (by rw [dM (by omega) (by omega)];omega) (Ev.ret.val (dM (by omega) (by omega)))),.inr ⟨by omega,by omega,show Bk (.list (.int .i64)) x from yL (by omega) fun i hi=>mP _ rfl⟩⟩
theorem uN (x:bE) (w:Wd bD x) (n:Int) (hn:0<=n) (hm:n<=1048576):∃ r,Ev (fun k=>pG k x n) r/\(r<0\/0<=r/\r<=n/\Bk bD x):=by
 obtain ⟨r0,e0,h0⟩:=yj x.2.2.2.1 w.2.2.2.1 n (by omega) (by omega)
 by_cases c0:r0<0
 ·exact ⟨-1,Ev.eq (fun k=>uF k x n) (Ev.bind e0 (Ev.pos c0 Ev.ret)),.inl (by omega)⟩
 replace h0:=h0.resolve_left c0
 exact ⟨r0,Ev.eq (fun k=>uF k x n) (Ev.bind e0 (Ev.neg c0 (Ev.ret))),.inr ⟨by omega,by omega,mP _ rfl,mP _ rfl,mP _ rfl,h0.2.2,trivial⟩⟩
theorem BF (x:(List bE)) (w:Wd (.aG bD) x) (n:Int) (hn:0<=n) (hm:n<=1048576):∃ r,Ev (fun k=>dW k x n) r/\(r<0\/0<=r/\r<=n/\Bk (.aG bD) x):=by
 have hl:x.length<=9223372036854775807:=w.1
 by_cases c:n - (x.length:Int)<0
 ·exact ⟨-1,Ev.eq (fun k=>sN k x n) (Ev.pos (by rw [dM (by omega) (by omega)];omega) Ev.ret),.inl (by omega)⟩
 ·obtain ⟨r,e,h⟩:=Uj (t:=bD) (x:=x) (F:=fun i n k m=>dW.l0 k m x n i) (fun n=>E2.eq (fun k m=>dW.aB k m x n _) (E2.neg (by omega) E2.ret)) (fun i hi n hn hm=>by
   obtain ⟨r0,e0,h0⟩:=uN (rd bD x (i:Int)) (Xw w hi) n hn hm
   by_cases c:r0<0
   ·exact .inl ⟨-1,by omega,E2.eq (fun k m=>dW.aB k m x n _) (E2.pos (by omega) (E2.pos (by omega) (E2.pos (by omega) (E2.bind e0 (E2.pos c E2.ret)))))⟩
   ·have h0:=h0.resolve_left c
    refine .inr ⟨r0,h0.1,h0.2.1,h0.2.2,fun v e=>E2.eq (fun k m=>dW.aB k m x n _) (E2.pos (by omega) (E2.pos (by omega) (E2.pos (by omega) (E2.bind e0 (E2.neg c ?_)))))⟩
    rw [bX (by omega)];exact e) (n - x.length) (by omega) (by omega)
  refine ⟨r,Ev.eq (fun k=>sN k x n) (Ev.neg (by rw [dM (by omega) (by omega)];omega) (Ev.loop (f:=fun k m=>dW.l0 k m x (IntKind.wrap .i64 (n - ((List.length x:Nat):Int))) 0) ?_)),h.imp id fun h=>⟨h.1,by omega,show Bk (.list bD) x from yL (by omega) h.2.2⟩⟩
  rw [dM (by omega) (by omega)]
  exact e
theorem Ez (x:(List gy)) (w:Wd (.list gW) x) (n:Int) (hn:0<=n) (hm:n<=1048576):∃ r,Ev (fun k=>vN k x n) r/\(r<0\/0<=r/\r<=n/\Bk (.list gW) x):=by
 have hl:x.length<=9223372036854775807:=w.1
 by_cases c:n - (x.length:Int)<0
 ·exact ⟨-1,Ev.eq (fun k=>wF k x n) (Ev.pos (by rw [dM (by omega) (by omega)];omega) Ev.ret),.inl (by omega)⟩
 ·exact ⟨n - x.length,Ev.eq (fun k=>wF k x n) (Ev.neg (by rw [dM (by omega) (by omega)];omega) (Ev.ret.val (dM (by omega) (by omega)))),.inr ⟨by omega,by omega,show Bk (.list gW) x from yL (by omega) fun i hi=>mP _ rfl⟩⟩
theorem BG (x:(List bq)) (w:Wd (.list bT) x) (n:Int) (hn:0<=n) (hm:n<=1048576):∃ r,Ev (fun k=>rM k x n) r/\(r<0\/0<=r/\r<=n/\Bk (.list bT) x):=by
 have hl:x.length<=9223372036854775807:=w.1
 by_cases c:n - (x.length:Int)<0
 ·exact ⟨-1,Ev.eq (fun k=>sO k x n) (Ev.pos (by rw [dM (by omega) (by omega)];omega) Ev.ret),.inl (by omega)⟩
 ·exact ⟨n - x.length,Ev.eq (fun k=>sO k x n) (Ev.neg (by rw [dM (by omega) (by omega)];omega) (Ev.ret.val (dM (by omega) (by omega)))),.inr ⟨by omega,by omega,show Bk (.list bT) x from yL (by omega) fun i hi=>mP _ rfl⟩⟩
theorem yY (x:iB) (w:Wd nG x) (n:Int) (hn:0<=n) (hm:n<=1048576):∃ r,Ev (fun k=>oQ k x n) r/\(r<0\/0<=r/\r<=n/\Bk nG x):=by
 obtain ⟨r0,e0,h0⟩:=Dg x.1 w.1 n (by omega) (by omega)
 by_cases c0:r0<0
 ·exact ⟨-1,Ev.eq (fun k=>gD k x n) (Ev.bind e0 (Ev.pos c0 Ev.ret)),.inl (by omega)⟩
 replace h0:=h0.resolve_left c0
 obtain ⟨r1,e1,h1⟩:=Dh x.2.2.1 w.2.2.1 r0 (by omega) (by omega)
 by_cases c1:r1<0
 ·exact ⟨-1,Ev.eq (fun k=>gD k x n) (Ev.bind e0 (Ev.neg c0 (Ev.bind e1 (Ev.pos c1 Ev.ret)))),.inl (by omega)⟩
 replace h1:=h1.resolve_left c1
 obtain ⟨r2,e2,h2⟩:=BF x.2.2.2.1 w.2.2.2.1 r1 (by omega) (by omega)
 by_cases c2:r2<0
 ·exact ⟨-1,Ev.eq (fun k=>gD k x n) (Ev.bind e0 (Ev.neg c0 (Ev.bind e1 (Ev.neg c1 (Ev.bind e2 (Ev.pos c2 Ev.ret)))))),.inl (by omega)⟩
 replace h2:=h2.resolve_left c2
 obtain ⟨r3,e3,h3⟩:=yj x.2.2.2.2.1 w.2.2.2.2.1 r2 (by omega) (by omega)
 by_cases c3:r3<0
 ·exact ⟨-1,Ev.eq (fun k=>gD k x n) (Ev.bind e0 (Ev.neg c0 (Ev.bind e1 (Ev.neg c1 (Ev.bind e2 (Ev.neg c2 (Ev.bind e3 (Ev.pos c3 Ev.ret)))))))),.inl (by omega)⟩
 replace h3:=h3.resolve_left c3
 obtain ⟨r4,e4,h4⟩:=Ez x.2.2.2.2.2.1 w.2.2.2.2.2.1 r3 (by omega) (by omega)
 by_cases c4:r4<0
 ·exact ⟨-1,Ev.eq (fun k=>gD k x n) (Ev.bind e0 (Ev.neg c0 (Ev.bind e1 (Ev.neg c1 (Ev.bind e2 (Ev.neg c2 (Ev.bind e3 (Ev.neg c3 (Ev.bind e4 (Ev.pos c4 Ev.ret)))))))))),.inl (by omega)⟩
 replace h4:=h4.resolve_left c4
 obtain ⟨r5,e5,h5⟩:=BG x.2.2.2.2.2.2.1 w.2.2.2.2.2.2.1 r4 (by omega) (by omega)
 by_cases c5:r5<0
 ·exact ⟨-1,Ev.eq (fun k=>gD k x n) (Ev.bind e0 (Ev.neg c0 (Ev.bind e1 (Ev.neg c1 (Ev.bind e2 (Ev.neg c2 (Ev.bind e3 (Ev.neg c3 (Ev.bind e4 (Ev.neg c4 (Ev.bind e5 (Ev.pos c5 Ev.ret)))))))))))),.inl (by omega)⟩
 replace h5:=h5.resolve_left c5
 exact ⟨r5,Ev.eq (fun k=>gD k x n) (Ev.bind e0 (Ev.neg c0 (Ev.bind e1 (Ev.neg c1 (Ev.bind e2 (Ev.neg c2 (Ev.bind e3 (Ev.neg c3 (Ev.bind e4 (Ev.neg c4 (Ev.bind e5 (Ev.neg c5 (Ev.ret))))))))))))),.inr ⟨by omega,by omega,h0.2.2,mP _ rfl,h1.2.2,h2.2.2,h3.2.2,h4.2.2,h5.2.2,mP _ rfl,mP _ rfl,trivial⟩⟩
theorem EA (x:bA) (h:Bk fF x):Ev (fun k=>vQ k x) x:=Ev.eq (fun k=>Em k x) Ev.ret
theorem Di (x:(List bA)) (h:Bk (.list fF) x):Ev (fun k=>fT k x) x:=by
 have hL:x.length<=1048576:=h.1
 refine Ev.eq (fun k=>CQ k x) (Ev.pos (by omega) (Ev.pos (by omega) (Ev.pos (by omega) (Ev.loop (f:=fun k m=>fT.l0 k m x 0 (List.replicate (Int.toNat ((List.length x:Nat):Int)) (Ty.dflt fF))) ?_))))
 have key:=uK (t:=fF) (u:=fF) (F:=fun i y k m=>fT.l0 k m x i y) (x:=x) (fun a=>a) (fun y=>E2.eq (fun k m=>fT.aB k m x _ y) (E2.neg (by omega) E2.ret)) (fun i y hi hy v e=>by
  refine E2.eq (fun k m=>fT.aB k m x _ y) (E2.pos (by omega) (E2.pos (by omega) (E2.pos (by omega) (E2.bind (EA _ (bk_rd h hi)) (E2.pos (by omega) (E2.pos (by omega) ?_))))))
  rw [bX (by omega),Int.toNat_natCast];exact e) (List.replicate (Int.toNat ((List.length x:Nat):Int)) (Ty.dflt fF)) (by simp)
 exact key.val (by simp)
theorem EB (x:bq) (h:Bk bT x):Ev (fun k=>vO k x) x:=Ev.eq (fun k=>Ee k x) Ev.ret
theorem EC (x:bq) (h:Bk bT x):Ev (fun k=>vR k x) x:=Ev.eq (fun k=>En k x) Ev.ret
theorem Dj (x:(List bq)) (h:Bk (.list bT) x):Ev (fun k=>fU k x) x:=by
 have hL:x.length<=1048576:=h.1
 refine Ev.eq (fun k=>CR k x) (Ev.pos (by omega) (Ev.pos (by omega) (Ev.pos (by omega) (Ev.loop (f:=fun k m=>fU.l0 k m x 0 (List.replicate (Int.toNat ((List.length x:Nat):Int)) (Ty.dflt bT))) ?_))))
 have key:=uK (t:=bT) (u:=bT) (F:=fun i y k m=>fU.l0 k m x i y) (x:=x) (fun a=>a) (fun y=>E2.eq (fun k m=>fU.aB k m x _ y) (E2.neg (by omega) E2.ret)) (fun i y hi hy v e=>by
  refine E2.eq (fun k m=>fU.aB k m x _ y) (E2.pos (by omega) (E2.pos (by omega) (E2.pos (by omega) (E2.bind (EC _ (bk_rd h hi)) (E2.pos (by omega) (E2.pos (by omega) ?_))))))
  rw [bX (by omega),Int.toNat_natCast];exact e) (List.replicate (Int.toNat ((List.length x:Nat):Int)) (Ty.dflt bT)) (by simp)
 exact key.val (by simp)
theorem yt (x:(List Int)) (h:Bk (.list (.int .i64)) x):Ev (fun k=>gT k x) x:=by
 have hL:x.length<=1048576:=h.1
 refine Ev.eq (fun k=>GJ k x) (Ev.pos (by omega) (Ev.pos (by omega) (Ev.pos (by omega) (Ev.loop (f:=fun k m=>gT.l0 k m x 0 (List.replicate (Int.toNat ((List.length x:Nat):Int)) (Ty.dflt (.int .i64)))) ?_))))
 have key:=uK (t:=(.int .i64)) (u:=(.int .i64)) (F:=fun i y k m=>gT.l0 k m x i y) (x:=x) (fun a=>a) (fun y=>E2.eq (fun k m=>gT.aB k m x _ y) (E2.neg (by omega) E2.ret)) (fun i y hi hy v e=>by
  refine E2.eq (fun k m=>gT.aB k m x _ y) (E2.pos (by omega) (E2.pos (by omega) (E2.pos (by omega) (E2.pos (by omega) (E2.pos (by omega) ?_)))))
  rw [bX (by omega),Int.toNat_natCast];exact e) (List.replicate (Int.toNat ((List.length x:Nat):Int)) (Ty.dflt (.int .i64))) (by simp)
 exact key.val (by simp)
theorem uO (x:bE) (h:Bk bD x):Ev (fun k=>jX k x) x:=Ev.eq (fun k=>CJ k x) (Ev.bind (yt _ h.2.2.2.1) Ev.ret)
theorem BH (x:(List bE)) (h:Bk (.aG bD) x):Ev (fun k=>eG k x) x:=by
 have hL:x.length<=1048576:=h.1
 refine Ev.eq (fun k=>Bh k x) (Ev.pos (by omega) (Ev.pos (by omega) (Ev.pos (by omega) (Ev.loop (f:=fun k m=>eG.l0 k m x 0 (List.replicate (Int.toNat ((List.length x:Nat):Int)) (Ty.dflt bD))) ?_))))
 have key:=uK (t:=bD) (u:=bD) (F:=fun i y k m=>eG.l0 k m x i y) (x:=x) (fun a=>a) (fun y=>E2.eq (fun k m=>eG.aB k m x _ y) (E2.neg (by omega) E2.ret)) (fun i y hi hy v e=>by
  refine E2.eq (fun k m=>eG.aB k m x _ y) (E2.pos (by omega) (E2.pos (by omega) (E2.pos (by omega) (E2.bind (uO _ (bk_rd h hi)) (E2.pos (by omega) (E2.pos (by omega) ?_))))))
  rw [bX (by omega),Int.toNat_natCast];exact e) (List.replicate (Int.toNat ((List.length x:Nat):Int)) (Ty.dflt bD)) (by simp)
 exact key.val (by simp)
theorem GU (x:gy) (h:Bk gW x):Ev (fun k=>xV k x) x:=Ev.eq (fun k=>GL k x) Ev.ret
theorem ED (x:(List gy)) (h:Bk (.list gW) x):Ev (fun k=>gK k x) x:=by
 have hL:x.length<=1048576:=h.1
 refine Ev.eq (fun k=>Ef k x) (Ev.pos (by omega) (Ev.pos (by omega) (Ev.pos (by omega) (Ev.loop (f:=fun k m=>gK.l0 k m x 0 (List.replicate (Int.toNat ((List.length x:Nat):Int)) (Ty.dflt gW))) ?_))))
 have key:=uK (t:=gW) (u:=gW) (F:=fun i y k m=>gK.l0 k m x i y) (x:=x) (fun a=>a) (fun y=>E2.eq (fun k m=>gK.aB k m x _ y) (E2.neg (by omega) E2.ret)) (fun i y hi hy v e=>by
  refine E2.eq (fun k m=>gK.aB k m x _ y) (E2.pos (by omega) (E2.pos (by omega) (E2.pos (by omega) (E2.bind (GU _ (bk_rd h hi)) (E2.pos (by omega) (E2.pos (by omega) ?_))))))
  rw [bX (by omega),Int.toNat_natCast];exact e) (List.replicate (Int.toNat ((List.length x:Nat):Int)) (Ty.dflt gW)) (by simp)
 exact key.val (by simp)
theorem Dl (x:bq) (h:Bk bT x):Ev (fun k=>tJ k x) x:=Ev.eq (fun k=>CX k x) Ev.ret
theorem BI (x:(List bq)) (h:Bk (.list bT) x):Ev (fun k=>eH k x) x:=by
 have hL:x.length<=1048576:=h.1
 refine Ev.eq (fun k=>Bj k x) (Ev.pos (by omega) (Ev.pos (by omega) (Ev.pos (by omega) (Ev.loop (f:=fun k m=>eH.l0 k m x 0 (List.replicate (Int.toNat ((List.length x:Nat):Int)) (Ty.dflt bT))) ?_))))
 have key:=uK (t:=bT) (u:=bT) (F:=fun i y k m=>eH.l0 k m x i y) (x:=x) (fun a=>a) (fun y=>E2.eq (fun k m=>eH.aB k m x _ y) (E2.neg (by omega) E2.ret)) (fun i y hi hy v e=>by
  refine E2.eq (fun k m=>eH.aB k m x _ y) (E2.pos (by omega) (E2.pos (by omega) (E2.pos (by omega) (E2.bind (Dl _ (bk_rd h hi)) (E2.pos (by omega) (E2.pos (by omega) ?_))))))
  rw [bX (by omega),Int.toNat_natCast];exact e) (List.replicate (Int.toNat ((List.length x:Nat):Int)) (Ty.dflt bT)) (by simp)
 exact key.val (by simp)
theorem yZ (x:iB) (h:Bk nG x):Ev (fun k=>jk k x) x:=Ev.eq (fun k=>yQ k x) (Ev.bind (Di _ h.1) (Ev.bind (EB _ h.2.1) (Ev.bind (Dj _ h.2.2.1) (Ev.bind (BH _ h.2.2.2.1) (Ev.bind (yt _ h.2.2.2.2.1) (Ev.bind (ED _ h.2.2.2.2.2.1) (Ev.bind (BI _ h.2.2.2.2.2.2.1) Ev.ret)))))))
theorem BJ (x:bA) (h:Bk fF x):Ev (fun k=>vS k x x) true:=Ev.eq (fun k=>Eo k x x) (Ev.neg (by simp) (Ev.neg (by simp) (Ev.neg (by simp) (Ev.neg (by simp) Ev.ret))))
theorem Ah (x:(List bA)) (h:Bk (.list fF) x):Ev (fun k=>fV k x x) true:=by
 have hL:x.length<=1048576:=h.1
 refine Ev.eq (fun k=>CS k x x) (Ev.neg (by simp) (Ev.loop (f:=fun k m=>fV.l0 k m x x 0) ?_))
 obtain ⟨r,er,hr⟩:=uJ (F:=fun i k m=>fV.l0 k m x x i) (n:=x.length) (fun _=>True) (E2.eq (fun k m=>fV.aB k m x x _) (E2.neg (by omega) E2.ret)) (fun i hi _ v e=>by
  refine E2.eq (fun k m=>fV.aB k m x x _) (E2.pos (by omega) (E2.pos (by omega) (E2.pos (by omega) (E2.pos (by omega) (E2.pos (by omega) (E2.bind (BJ _ (bk_rd h hi)) (E2.neg (by simp) ?_)))))))
  rw [bX (by omega)];exact e) (fun i hi hq=>(hq trivial).elim)
 exact er.val (hr.2 fun _ _=>trivial)
theorem BK (x:bq) (h:Bk bT x):Ev (fun k=>vP k x x) true:=Ev.eq (fun k=>Ej k x x) (Ev.neg (by simp) (Ev.neg (by simp) Ev.ret))
theorem BL (x:bq) (h:Bk bT x):Ev (fun k=>vT k x x) true:=Ev.eq (fun k=>Ep k x x) (Ev.neg (by simp) (Ev.neg (by simp) Ev.ret))
theorem Ai (x:(List bq)) (h:Bk (.list bT) x):Ev (fun k=>fZ k x x) true:=by
 have hL:x.length<=1048576:=h.1
 refine Ev.eq (fun k=>CU k x x) (Ev.neg (by simp) (Ev.loop (f:=fun k m=>fZ.l0 k m x x 0) ?_))
 obtain ⟨r,er,hr⟩:=uJ (F:=fun i k m=>fZ.l0 k m x x i) (n:=x.length) (fun _=>True) (E2.eq (fun k m=>fZ.aB k m x x _) (E2.neg (by omega) E2.ret)) (fun i hi _ v e=>by
  refine E2.eq (fun k m=>fZ.aB k m x x _) (E2.pos (by omega) (E2.pos (by omega) (E2.pos (by omega) (E2.pos (by omega) (E2.pos (by omega) (E2.bind (BL _ (bk_rd h hi)) (E2.neg (by simp) ?_)))))))
  rw [bX (by omega)];exact e) (fun i hi hq=>(hq trivial).elim)
 exact er.val (hr.2 fun _ _=>trivial)
theorem uP (x:(List Int)) (h:Bk (.list (.int .i64)) x):Ev (fun k=>gU k x x) true:=by
 have hL:x.length<=1048576:=h.1
 refine Ev.eq (fun k=>GK k x x) (Ev.neg (by simp) (Ev.loop (f:=fun k m=>gU.l0 k m x x 0) ?_))
 obtain ⟨r,er,hr⟩:=uJ (F:=fun i k m=>gU.l0 k m x x i) (n:=x.length) (fun _=>True) (E2.eq (fun k m=>gU.aB k m x x _) (E2.neg (by omega) E2.ret)) (fun i hi _ v e=>by
  refine E2.eq (fun k m=>gU.aB k m x x _) (E2.pos (by omega) (E2.pos (by omega) (E2.pos (by omega) (E2.pos (by omega) (E2.pos (by omega) (E2.neg (by simp) ?_))))))
  rw [bX (by omega)];exact e) (fun i hi hq=>(hq trivial).elim)
 exact er.val (hr.2 fun _ _=>trivial)
theorem rR (x:bE) (h:Bk bD x):Ev (fun k=>pI k x x) true:=Ev.eq (fun k=>CP k x x) (Ev.neg (by simp) (Ev.neg (by simp) (Ev.neg (by simp) (Ev.bind (uP _ h.2.2.2.1) (Ev.neg (by simp) Ev.ret)))))
theorem za (x:(List bE)) (h:Bk (.aG bD) x):Ev (fun k=>eO k x x) true:=by
 have hL:x.length<=1048576:=h.1
 refine Ev.eq (fun k=>Bl k x x) (Ev.neg (by simp) (Ev.loop (f:=fun k m=>eO.l0 k m x x 0) ?_))
 obtain ⟨r,er,hr⟩:=uJ (F:=fun i k m=>eO.l0 k m x x i) (n:=x.length) (fun _=>True) (E2.eq (fun k m=>eO.aB k m x x _) (E2.neg (by omega) E2.ret)) (fun i hi _ v e=>by
  refine E2.eq (fun k m=>eO.aB k m x x _) (E2.pos (by omega) (E2.pos (by omega) (E2.pos (by omega) (E2.pos (by omega) (E2.pos (by omega) (E2.bind (rR _ (bk_rd h hi)) (E2.neg (by simp) ?_)))))))
  rw [bX (by omega)];exact e) (fun i hi hq=>(hq trivial).elim)
 exact er.val (hr.2 fun _ _=>trivial)
theorem Dm (x:gy) (h:Bk gW x):Ev (fun k=>xX k x x) true:=Ev.eq (fun k=>GN k x x) (Ev.neg (by simp) (Ev.neg (by simp) (Ev.neg (by simp) (Ev.neg (by simp) (Ev.neg (by simp) Ev.ret)))))
theorem BM (x:(List gy)) (h:Bk (.list gW) x):Ev (fun k=>gL k x x) true:=by
 have hL:x.length<=1048576:=h.1
 refine Ev.eq (fun k=>El k x x) (Ev.neg (by simp) (Ev.loop (f:=fun k m=>gL.l0 k m x x 0) ?_))
 obtain ⟨r,er,hr⟩:=uJ (F:=fun i k m=>gL.l0 k m x x i) (n:=x.length) (fun _=>True) (E2.eq (fun k m=>gL.aB k m x x _) (E2.neg (by omega) E2.ret)) (fun i hi _ v e=>by
  refine E2.eq (fun k m=>gL.aB k m x x _) (E2.pos (by omega) (E2.pos (by omega) (E2.pos (by omega) (E2.pos (by omega) (E2.pos (by omega) (E2.bind (Dm _ (bk_rd h hi)) (E2.neg (by simp) ?_)))))))
  rw [bX (by omega)];exact e) (fun i hi hq=>(hq trivial).elim)
 exact er.val (hr.2 fun _ _=>trivial)
theorem Aj (x:bq) (h:Bk bT x):Ev (fun k=>tL k x x) true:=Ev.eq (fun k=>CY k x x) (Ev.neg (by simp) (Ev.neg (by simp) Ev.ret))
theorem ze (x:(List bq)) (h:Bk (.list bT) x):Ev (fun k=>eP k x x) true:=by
 have hL:x.length<=1048576:=h.1
 refine Ev.eq (fun k=>Bn k x x) (Ev.neg (by simp) (Ev.loop (f:=fun k m=>eP.l0 k m x x 0) ?_))
 obtain ⟨r,er,hr⟩:=uJ (F:=fun i k m=>eP.l0 k m x x i) (n:=x.length) (fun _=>True) (E2.eq (fun k m=>eP.aB k m x x _) (E2.neg (by omega) E2.ret)) (fun i hi _ v e=>by
  refine E2.eq (fun k m=>eP.aB k m x x _) (E2.pos (by omega) (E2.pos (by omega) (E2.pos (by omega) (E2.pos (by omega) (E2.pos (by omega) (E2.bind (Aj _ (bk_rd h hi)) (E2.neg (by simp) ?_)))))))
  rw [bX (by omega)];exact e) (fun i hi hq=>(hq trivial).elim)
 exact er.val (hr.2 fun _ _=>trivial)
theorem oG (x:iB) (h:Bk nG x):Ev (fun k=>jl k x x) true:=Ev.eq (fun k=>yR k x x) (Ev.bind (Ah _ h.1) (Ev.neg (by simp) (Ev.bind (BK _ h.2.1) (Ev.neg (by simp) (Ev.bind (Ai _ h.2.2.1) (Ev.neg (by simp) (Ev.bind (za _ h.2.2.2.1) (Ev.neg (by simp) (Ev.bind (uP _ h.2.2.2.2.1) (Ev.neg (by simp) (Ev.bind (BM _ h.2.2.2.2.2.1) (Ev.neg (by simp) (Ev.bind (ze _ h.2.2.2.2.2.2.1) (Ev.neg (by simp) (Ev.neg (by simp) (Ev.neg (by simp) Ev.ret))))))))))))))))
theorem Ak (x:(List bA)) (h:x.length<=4194304) (q0:Int) (h0:0<=q0) (h1:q0<=8796093022208):Ev (fun k=>dQ k x q0) (q0+4*x.length,marks (fun q:Int=>((q,(q+1,(q+2,(q+3,())))):bA)) 4 x.length q0):=by
 refine Ev.eq (fun k=>zY k x q0) (Ev.loop (f:=fun k m=>dQ.l0 k m q0 0 x) (uL (t:=fF) (F:=fun q i s k m=>dQ.l0 k m q i s) (fun q:Int=>((q,(q+1,(q+2,(q+3,())))):bA)) 4 17592186044416 (by omega) (fun q s hs=>E2.eq (fun k m=>dQ.aB k m _ _ _) (E2.neg (by omega) E2.ret)) (fun i q s hi hs hq hB v e=>?_) q0 h0 (by omega)))
 ·refine E2.eq (fun k m=>dQ.aB k m _ _ _) ?_
  have w1:IntKind.wrap .i64 (q+1)=q+1:=(dM (by omega) (by omega)).trans (by omega)
  have w2:IntKind.wrap .i64 (q+1+1)=q+2:=(dM (by omega) (by omega)).trans (by omega)
  have w3:IntKind.wrap .i64 (q+2+1)=q+3:=(dM (by omega) (by omega)).trans (by omega)
  have w4:IntKind.wrap .i64 (q+3+1)=q+4:=(dM (by omega) (by omega)).trans (by omega)
  refine E2.pos (by first | omega | ((repeat rw [aR]);omega)) ?_
  refine E2.pos (by first | omega | ((repeat rw [aR]);omega)) ?_
  refine E2.pos (by first | omega | ((repeat rw [aR]);omega)) ?_
  refine E2.pos (by first | omega | ((repeat rw [aR]);omega)) ?_
  refine E2.pos (by first | omega | ((repeat rw [aR]);omega)) ?_
  refine E2.pos (by first | omega | ((repeat rw [aR]);omega)) ?_
  refine E2.pos (by first | omega | ((repeat rw [aR]);omega)) ?_
  refine E2.pos (by first | omega | ((repeat rw [aR]);omega)) ?_
  refine E2.pos (by first | omega | ((repeat rw [aR]);omega)) ?_
  simp only [w1,w2,w3,w4,bX (show i<9223372036854775807 by omega),oW (show i<s.length by omega)]
  simp only [yh]
  exact e
theorem Al (x:(List bq)) (h:x.length<=4194304) (q0:Int) (h0:0<=q0) (h1:q0<=8796093022208):Ev (fun k=>dR k x q0) (q0+2*x.length,marks (fun q:Int=>((q,(q+1,())):bq)) 2 x.length q0):=by
 refine Ev.eq (fun k=>zZ k x q0) (Ev.loop (f:=fun k m=>dR.l0 k m q0 0 x) (uL (t:=bT) (F:=fun q i s k m=>dR.l0 k m q i s) (fun q:Int=>((q,(q+1,())):bq)) 2 17592186044416 (by omega) (fun q s hs=>E2.eq (fun k m=>dR.aB k m _ _ _) (E2.neg (by omega) E2.ret)) (fun i q s hi hs hq hB v e=>?_) q0 h0 (by omega)))
 ·refine E2.eq (fun k m=>dR.aB k m _ _ _) ?_
  have w1:IntKind.wrap .i64 (q+1)=q+1:=(dM (by omega) (by omega)).trans (by omega)
  have w2:IntKind.wrap .i64 (q+1+1)=q+2:=(dM (by omega) (by omega)).trans (by omega)
  refine E2.pos (by first | omega | ((repeat rw [aR]);omega)) ?_
  refine E2.pos (by first | omega | ((repeat rw [aR]);omega)) ?_
  refine E2.pos (by first | omega | ((repeat rw [aR]);omega)) ?_
  refine E2.pos (by first | omega | ((repeat rw [aR]);omega)) ?_
  refine E2.pos (by first | omega | ((repeat rw [aR]);omega)) ?_
  simp only [w1,w2,bX (show i<9223372036854775807 by omega),oW (show i<s.length by omega)]
  simp only [yh]
  exact e
theorem oZ (x:(List Int)) (h:x.length<=4194304) (q0:Int) (h0:0<=q0) (h1:q0<=8796093022208):Ev (fun k=>dZ k x q0) (q0+1*x.length,marks (fun q:Int=>(q:Int)) 1 x.length q0):=by
 refine Ev.eq (fun k=>CV k x q0) (Ev.loop (f:=fun k m=>dZ.l0 k m q0 0 x) (uL (t:=(.int .i64)) (F:=fun q i s k m=>dZ.l0 k m q i s) (fun q:Int=>(q:Int)) 1 17592186044416 (by omega) (fun q s hs=>E2.eq (fun k m=>dZ.aB k m _ _ _) (E2.neg (by omega) E2.ret)) (fun i q s hi hs hq hB v e=>?_) q0 h0 (by omega)))
 ·refine E2.eq (fun k m=>dZ.aB k m _ _ _) ?_
  have w1:IntKind.wrap .i64 (q+1)=q+1:=(dM (by omega) (by omega)).trans (by omega)
  refine E2.pos (by first | omega | ((repeat rw [aR]);omega)) ?_
  refine E2.pos (by first | omega | ((repeat rw [aR]);omega)) ?_
  refine E2.pos (by first | omega | ((repeat rw [aR]);omega)) ?_
  simp only [w1,bX (show i<9223372036854775807 by omega)]
  exact e
def gZ:Int->bE->bE:=fun q e=>(q,(q+1,(q+2,(marks (fun q:Int=>(q:Int)) 1 e.2.2.2.1.length (q+3),()))))
def aH:bE->Int:=fun e=>(3:Int)+1*((e.2.2.2.1.length:Nat):Int)
theorem mE (x:(List bE)) (h:Bk (.aG bD) x):lM aH x<=1099514773504:=by
 have h1:lM aH x<=1048579*(x.length:Int):=Py fun e he=>by
  have hb:=h.2 e he
  have l0:e.2.2.2.1.length<=1048576:=hb.2.2.2.1.1
  show (3:Int)+1*((e.2.2.2.1.length:Nat):Int)<=_
  omega
 have h2:x.length<=1048576:=h.1
 have h3:(1048579:Int)*(x.length:Int)<=1048579*1048576:=Int.mul_le_mul_of_nonneg_left (by omega) (by omega)
 omega
theorem zf (x:(List bE)) (h:Bk (.aG bD) x) (q0:Int) (h0:0<=q0) (h1:q0<=2199023255552):Ev (fun k=>cu k x q0) (q0+lM aH x,oD gZ aH x q0):=by
 have hs:=mE x h
 have h:Bk (.list bD) x:=h
 refine Ev.eq (fun k=>yS k x q0) (Ev.loop (f:=fun k m=>cu.l0 k m q0 0 x) (OI (t:=bD) (F:=fun q i s k m=>cu.l0 k m q i s) gZ aH 4398046511104 (fun e _=>by show 0<=(3:Int)+1*((e.2.2.2.1.length:Nat):Int);omega) (fun q s hs=>E2.eq (fun k m=>cu.aB k m _ _ _) (E2.neg (by omega) E2.ret)) (fun i q s hi hs hrd hq hB v ee=>?_) q0 h0 (by omega)))
 ·have hL:x.length<=1048576:=h.1
  have l0:(rd bD x (i:Int)).2.2.2.1.length<=1048576:=(bk_rd h hi).2.2.2.1.1
  have hB:q+((3:Int)+1*(((rd bD x (i:Int)).2.2.2.1.length:Nat):Int))<=4398046511104:=hB
  have i0:(0:Int)<=(i:Int):=by omega
  have i1:(i:Int)<((s.length:Nat):Int):=by omega
  refine E2.eq (fun k m=>cu.aB k m _ _ _) ?_
  have b0:0<=q:=hq
  have c0:q<=8796093022208:=by omega
  have w1:IntKind.wrap .i64 (q+1)=q+1:=SN b0 c0
  have w2:IntKind.wrap .i64 (q+1+1)=q+2:=Pz b0 c0 1 2 (by decide) rfl
  have w3:IntKind.wrap .i64 (q+2+1)=q+3:=Pz b0 c0 2 3 (by decide) rfl
  try simp only [oW (show i<s.length by omega),MW (show i<s.length by omega),aR,hrd,w1,w2,w3]
  refine E2.pos (by first | exact i0 | exact i1 | (rw [aR];exact i1)) ?_
  refine E2.pos (by first | exact i0 | exact i1 | (rw [aR];exact i1)) ?_
  refine E2.pos (by first | exact i0 | exact i1 | (rw [aR];exact i1)) ?_
  refine E2.pos (by first | exact i0 | exact i1 | (rw [aR];exact i1)) ?_
  refine E2.pos (by first | exact i0 | exact i1 | (rw [aR];exact i1)) ?_
  refine E2.pos (by first | exact i0 | exact i1 | (rw [aR];exact i1)) ?_
  refine E2.pos (by first | exact i0 | exact i1 | (rw [aR];exact i1)) ?_
  refine E2.pos (by first | exact i0 | exact i1 | (rw [aR];exact i1)) ?_
  refine E2.pos (by first | exact i0 | exact i1 | (rw [aR];exact i1)) ?_
  refine E2.bind (oZ (rd bD x (i:Int)).2.2.2.1 (Nat.le_trans l0 (by decide)) (q+3) (by clear w1 w2 w3;omega) (by clear w1 w2 w3;omega)) ?_
  have b1:0<=(q+3+1*(((rd bD x (i:Int)).2.2.2.1.length:Nat):Int)):=by clear w1 w2 w3;omega
  have c1:(q+3+1*(((rd bD x (i:Int)).2.2.2.1.length:Nat):Int))<=8796093022208:=by clear w1 w2 w3;omega
  try simp only [oW (show i<s.length by omega),MW (show i<s.length by omega),aR,hrd,w1,w2,w3]
  simp only [bX (show i<9223372036854775807 by omega),yh,hrd]
  refine (congrArg (fun z=>E2 z v) (funext fun k=>funext fun m=>?_)).mp ee
  show cu.l0 k m (q+((3:Int)+1*(((rd bD x (i:Int)).2.2.2.1.length:Nat):Int))) _ (s.set i ((q,(q+1,(q+2,(marks (fun q:Int=>(q:Int)) 1 (rd bD x (i:Int)).2.2.2.1.length (q+3),()))))))=_
  congr 1
  clear w1 w2 w3
  omega
theorem BN (x:(List gy)) (h:x.length<=4194304) (q0:Int) (h0:0<=q0) (h1:q0<=8796093022208):Ev (fun k=>eT k x q0) (q0+5*x.length,marks (fun q:Int=>((q,(q+1,(q+2,(q+3,(q+4,()))))):gy)) 5 x.length q0):=by
 refine Ev.eq (fun k=>Bo k x q0) (Ev.loop (f:=fun k m=>eT.l0 k m q0 0 x) (uL (t:=gW) (F:=fun q i s k m=>eT.l0 k m q i s) (fun q:Int=>((q,(q+1,(q+2,(q+3,(q+4,()))))):gy)) 5 17592186044416 (by omega) (fun q s hs=>E2.eq (fun k m=>eT.aB k m _ _ _) (E2.neg (by omega) E2.ret)) (fun i q s hi hs hq hB v e=>?_) q0 h0 (by omega)))
 ·refine E2.eq (fun k m=>eT.aB k m _ _ _) ?_
  have w1:IntKind.wrap .i64 (q+1)=q+1:=(dM (by omega) (by omega)).trans (by omega)
  have w2:IntKind.wrap .i64 (q+1+1)=q+2:=(dM (by omega) (by omega)).trans (by omega)
  have w3:IntKind.wrap .i64 (q+2+1)=q+3:=(dM (by omega) (by omega)).trans (by omega)
  have w4:IntKind.wrap .i64 (q+3+1)=q+4:=(dM (by omega) (by omega)).trans (by omega)
  have w5:IntKind.wrap .i64 (q+4+1)=q+5:=(dM (by omega) (by omega)).trans (by omega)
  refine E2.pos (by first | omega | ((repeat rw [aR]);omega)) ?_
  refine E2.pos (by first | omega | ((repeat rw [aR]);omega)) ?_
  refine E2.pos (by first | omega | ((repeat rw [aR]);omega)) ?_
  refine E2.pos (by first | omega | ((repeat rw [aR]);omega)) ?_
  refine E2.pos (by first | omega | ((repeat rw [aR]);omega)) ?_
  refine E2.pos (by first | omega | ((repeat rw [aR]);omega)) ?_
  refine E2.pos (by first | omega | ((repeat rw [aR]);omega)) ?_
  refine E2.pos (by first | omega | ((repeat rw [aR]);omega)) ?_
  refine E2.pos (by first | omega | ((repeat rw [aR]);omega)) ?_
  refine E2.pos (by first | omega | ((repeat rw [aR]);omega)) ?_
  refine E2.pos (by first | omega | ((repeat rw [aR]);omega)) ?_
  simp only [w1,w2,w3,w4,w5,bX (show i<9223372036854775807 by omega),oW (show i<s.length by omega)]
  simp only [yh]
  exact e
theorem zh (x:(List bq)) (h:x.length<=4194304) (q0:Int) (h0:0<=q0) (h1:q0<=8796093022208):Ev (fun k=>dD k x q0) (q0+2*x.length,marks (fun q:Int=>((q,(q+1,())):bq)) 2 x.length q0):=by
 refine Ev.eq (fun k=>yT k x q0) (Ev.loop (f:=fun k m=>dD.l0 k m q0 0 x) (uL (t:=bT) (F:=fun q i s k m=>dD.l0 k m q i s) (fun q:Int=>((q,(q+1,())):bq)) 2 17592186044416 (by omega) (fun q s hs=>E2.eq (fun k m=>dD.aB k m _ _ _) (E2.neg (by omega) E2.ret)) (fun i q s hi hs hq hB v e=>?_) q0 h0 (by omega)))
 ·refine E2.eq (fun k m=>dD.aB k m _ _ _) ?_
  have w1:IntKind.wrap .i64 (q+1)=q+1:=(dM (by omega) (by omega)).trans (by omega)
  have w2:IntKind.wrap .i64 (q+1+1)=q+2:=(dM (by omega) (by omega)).trans (by omega)
  refine E2.pos (by first | omega | ((repeat rw [aR]);omega)) ?_
  refine E2.pos (by first | omega | ((repeat rw [aR]);omega)) ?_
  refine E2.pos (by first | omega | ((repeat rw [aR]);omega)) ?_
  refine E2.pos (by first | omega | ((repeat rw [aR]);omega)) ?_
  refine E2.pos (by first | omega | ((repeat rw [aR]);omega)) ?_
  simp only [w1,w2,bX (show i<9223372036854775807 by omega),oW (show i<s.length by omega)]
  simp only [yh]
  exact e
theorem Am (x:(List bA)) (h:x.length<=4194304) (q0:Int) (h0:0<=q0) (h1:q0<=8796093022208) (hx:x=marks (fun q:Int=>((q,(q+1,(q+2,(q+3,())))):bA)) 4 x.length q0):Ev (fun k=>dS k x q0) (q0+4*x.length):=by
 refine Ev.eq (fun k=>Aa k x q0) (Ev.loop (f:=fun k m=>dS.l0 k m x q0 0) (uM (t:=fF) (F:=fun q i k m=>dS.l0 k m x q i) (fun q:Int=>((q,(q+1,(q+2,(q+3,())))):bA)) 4 17592186044416 (by omega) (fun q=>E2.eq (fun k m=>dS.aB k m _ _ _) (E2.neg (by omega) E2.ret)) (fun i q hi hq hB hr v e=>?_) q0 h0 (by omega) hx))
 refine E2.eq (fun k m=>dS.aB k m _ _ _) ?_
 have w1:IntKind.wrap .i64 (q+1)=q+1:=(dM (by omega) (by omega)).trans (by omega)
 have w2:IntKind.wrap .i64 (q+1+1)=q+2:=(dM (by omega) (by omega)).trans (by omega)
 have w3:IntKind.wrap .i64 (q+2+1)=q+3:=(dM (by omega) (by omega)).trans (by omega)
 have w4:IntKind.wrap .i64 (q+3+1)=q+4:=(dM (by omega) (by omega)).trans (by omega)
 simp only [w1,w2,w3,w4,bX (show i<9223372036854775807 by omega),hr]
 refine E2.pos (by omega) ?_
 refine E2.pos (by omega) ?_
 refine E2.pos (by omega) ?_
 refine E2.neg (by simp) ?_
 refine E2.pos (by omega) ?_
 refine E2.pos (by omega) ?_
 refine E2.neg (by simp) ?_
 refine E2.pos (by omega) ?_
 refine E2.pos (by omega) ?_
 refine E2.neg (by simp) ?_
 refine E2.pos (by omega) ?_
 refine E2.pos (by omega) ?_
 refine E2.neg (by simp) ?_
 exact e
theorem Ao (x:(List bq)) (h:x.length<=4194304) (q0:Int) (h0:0<=q0) (h1:q0<=8796093022208) (hx:x=marks (fun q:Int=>((q,(q+1,())):bq)) 2 x.length q0):Ev (fun k=>dU k x q0) (q0+2*x.length):=by
 refine Ev.eq (fun k=>Ab k x q0) (Ev.loop (f:=fun k m=>dU.l0 k m x q0 0) (uM (t:=bT) (F:=fun q i k m=>dU.l0 k m x q i) (fun q:Int=>((q,(q+1,())):bq)) 2 17592186044416 (by omega) (fun q=>E2.eq (fun k m=>dU.aB k m _ _ _) (E2.neg (by omega) E2.ret)) (fun i q hi hq hB hr v e=>?_) q0 h0 (by omega) hx))
 refine E2.eq (fun k m=>dU.aB k m _ _ _) ?_
 have w1:IntKind.wrap .i64 (q+1)=q+1:=(dM (by omega) (by omega)).trans (by omega)
 have w2:IntKind.wrap .i64 (q+1+1)=q+2:=(dM (by omega) (by omega)).trans (by omega)
 simp only [w1,w2,bX (show i<9223372036854775807 by omega),hr]
 refine E2.pos (by omega) ?_
 refine E2.pos (by omega) ?_
 refine E2.pos (by omega) ?_
 refine E2.neg (by simp) ?_
 refine E2.pos (by omega) ?_
 refine E2.pos (by omega) ?_
 refine E2.neg (by simp) ?_
 exact e
theorem uQ (x:(List Int)) (h:x.length<=4194304) (q0:Int) (h0:0<=q0) (h1:q0<=8796093022208) (hx:x=marks (fun q:Int=>(q:Int)) 1 x.length q0):Ev (fun k=>fq k x q0) (q0+1*x.length):=by
 refine Ev.eq (fun k=>CW k x q0) (Ev.loop (f:=fun k m=>fq.l0 k m x q0 0) (uM (t:=(.int .i64)) (F:=fun q i k m=>fq.l0 k m x q i) (fun q:Int=>(q:Int)) 1 17592186044416 (by omega) (fun q=>E2.eq (fun k m=>fq.aB k m _ _ _) (E2.neg (by omega) E2.ret)) (fun i q hi hq hB hr v e=>?_) q0 h0 (by omega) hx))
 refine E2.eq (fun k m=>fq.aB k m _ _ _) ?_
 have w1:IntKind.wrap .i64 (q+1)=q+1:=(dM (by omega) (by omega)).trans (by omega)
 simp only [w1,bX (show i<9223372036854775807 by omega),hr]
 refine E2.pos (by omega) ?_
 refine E2.pos (by omega) ?_
 refine E2.pos (by omega) ?_
 refine E2.neg (by simp) ?_
 exact e
theorem zi (x:(List bE)) (h:Bk (.aG bD) x) (q0:Int) (h0:0<=q0) (h1:q0<=2199023255552):Ev (fun k=>cB k (oD gZ aH x q0) q0) (q0+lM aH x):=by
 have hs:=mE x h
 have h:Bk (.list bD) x:=h
 have hll:(oD gZ aH x q0).length=x.length:=GR _ _ _ _
 generalize hy:oD gZ aH x q0=y at hll
 refine Ev.eq (fun k=>yU k y q0) (Ev.loop (f:=fun k m=>cB.l0 k m y q0 0) (OJ (t:=bD) (x:=x) (F:=fun q i k m=>cB.l0 k m y q i) gZ aH 4398046511104 (fun e _=>by show 0<=(3:Int)+1*((e.2.2.2.1.length:Nat):Int);omega) hll (fun q=>E2.eq (fun k m=>cB.aB k m _ _ _) (E2.neg (by omega) E2.ret)) (fun i q hi hq hB hr v ee=>?_) q0 h0 (by omega) hy.symm))
 have hL:x.length<=1048576:=h.1
 have l0:(rd bD x (i:Int)).2.2.2.1.length<=1048576:=(bk_rd h hi).2.2.2.1.1
 have hB:q+((3:Int)+1*(((rd bD x (i:Int)).2.2.2.1.length:Nat):Int))<=4398046511104:=hB
 have hr:rd bD y (i:Int)=((q,(q+1,(q+2,(marks (fun q:Int=>(q:Int)) 1 (rd bD x (i:Int)).2.2.2.1.length (q+3),()))))):=hr
 have i0:(0:Int)<=(i:Int):=by omega
 have i1:(i:Int)<((y.length:Nat):Int):=by omega
 refine E2.eq (fun k m=>cB.aB k m _ _ _) ?_
 have b0:0<=q:=hq
 have c0:q<=8796093022208:=by omega
 have w1:IntKind.wrap .i64 (q+1)=q+1:=SN b0 c0
 have w2:IntKind.wrap .i64 (q+1+1)=q+2:=Pz b0 c0 1 2 (by decide) rfl
 have w3:IntKind.wrap .i64 (q+2+1)=q+3:=Pz b0 c0 2 3 (by decide) rfl
 simp only [hr,w1,w2,w3]
 refine E2.pos (by first | exact i0 | exact i1) ?_
 refine E2.pos (by first | exact i0 | exact i1) ?_
 refine E2.pos (by first | exact i0 | exact i1) ?_
 refine E2.neg (by simp) ?_
 refine E2.pos (by first | exact i0 | exact i1) ?_
 refine E2.pos (by first | exact i0 | exact i1) ?_
 refine E2.neg (by simp) ?_
 refine E2.pos (by first | exact i0 | exact i1) ?_
 refine E2.pos (by first | exact i0 | exact i1) ?_
 refine E2.neg (by simp) ?_
 refine E2.pos (by first | exact i0 | exact i1) ?_
 refine E2.pos (by first | exact i0 | exact i1) ?_
 refine E2.bind ((uQ (marks (fun q:Int=>(q:Int)) 1 (rd bD x (i:Int)).2.2.2.1.length (q+3)) (by rw [gH];exact Nat.le_trans l0 (by decide)) (q+3) (by clear w1 w2 w3;omega) (by clear w1 w2 w3;omega) (by rw [gH])).val (by rw [gH])) ?_
 have b1:0<=(q+3+1*(((rd bD x (i:Int)).2.2.2.1.length:Nat):Int)):=by clear w1 w2 w3;omega
 have c1:(q+3+1*(((rd bD x (i:Int)).2.2.2.1.length:Nat):Int))<=8796093022208:=by clear w1 w2 w3;omega
 try simp only [w1,w2,w3]
 refine E2.neg (by clear w1 w2 w3;omega) ?_
 simp only [bX (show i<9223372036854775807 by omega)]
 refine (congrArg (fun z=>E2 z v) (funext fun k=>funext fun m=>?_)).mp ee
 show cB.l0 k m y (q+((3:Int)+1*(((rd bD x (i:Int)).2.2.2.1.length:Nat):Int))) _=_
 congr 1
 clear w1 w2 w3
 omega
theorem BO (x:(List gy)) (h:x.length<=4194304) (q0:Int) (h0:0<=q0) (h1:q0<=8796093022208) (hx:x=marks (fun q:Int=>((q,(q+1,(q+2,(q+3,(q+4,()))))):gy)) 5 x.length q0):Ev (fun k=>eU k x q0) (q0+5*x.length):=by
 refine Ev.eq (fun k=>Bp k x q0) (Ev.loop (f:=fun k m=>eU.l0 k m x q0 0) (uM (t:=gW) (F:=fun q i k m=>eU.l0 k m x q i) (fun q:Int=>((q,(q+1,(q+2,(q+3,(q+4,()))))):gy)) 5 17592186044416 (by omega) (fun q=>E2.eq (fun k m=>eU.aB k m _ _ _) (E2.neg (by omega) E2.ret)) (fun i q hi hq hB hr v e=>?_) q0 h0 (by omega) hx))
 refine E2.eq (fun k m=>eU.aB k m _ _ _) ?_
 have w1:IntKind.wrap .i64 (q+1)=q+1:=(dM (by omega) (by omega)).trans (by omega)
 have w2:IntKind.wrap .i64 (q+1+1)=q+2:=(dM (by omega) (by omega)).trans (by omega)
 have w3:IntKind.wrap .i64 (q+2+1)=q+3:=(dM (by omega) (by omega)).trans (by omega)
 have w4:IntKind.wrap .i64 (q+3+1)=q+4:=(dM (by omega) (by omega)).trans (by omega)
 have w5:IntKind.wrap .i64 (q+4+1)=q+5:=(dM (by omega) (by omega)).trans (by omega)
 simp only [w1,w2,w3,w4,w5,bX (show i<9223372036854775807 by omega),hr]
 refine E2.pos (by omega) ?_
 refine E2.pos (by omega) ?_
 refine E2.pos (by omega) ?_
 refine E2.neg (by simp) ?_
 refine E2.pos (by omega) ?_
 refine E2.pos (by omega) ?_
 refine E2.neg (by simp) ?_
 refine E2.pos (by omega) ?_
 refine E2.pos (by omega) ?_
 refine E2.neg (by simp) ?_
 refine E2.pos (by omega) ?_
 refine E2.pos (by omega) ?_
 refine E2.neg (by simp) ?_
 refine E2.pos (by omega) ?_
 refine E2.pos (by omega) ?_
 refine E2.neg (by simp) ?_
 exact e
theorem zk (x:(List bq)) (h:x.length<=4194304) (q0:Int) (h0:0<=q0) (h1:q0<=8796093022208) (hx:x=marks (fun q:Int=>((q,(q+1,())):bq)) 2 x.length q0):Ev (fun k=>dF k x q0) (q0+2*x.length):=by
 refine Ev.eq (fun k=>yV k x q0) (Ev.loop (f:=fun k m=>dF.l0 k m x q0 0) (uM (t:=bT) (F:=fun q i k m=>dF.l0 k m x q i) (fun q:Int=>((q,(q+1,())):bq)) 2 17592186044416 (by omega) (fun q=>E2.eq (fun k m=>dF.aB k m _ _ _) (E2.neg (by omega) E2.ret)) (fun i q hi hq hB hr v e=>?_) q0 h0 (by omega) hx))
 refine E2.eq (fun k m=>dF.aB k m _ _ _) ?_
 have w1:IntKind.wrap .i64 (q+1)=q+1:=(dM (by omega) (by omega)).trans (by omega)
 have w2:IntKind.wrap .i64 (q+1+1)=q+2:=(dM (by omega) (by omega)).trans (by omega)
 simp only [w1,w2,bX (show i<9223372036854775807 by omega),hr]
 refine E2.pos (by omega) ?_
 refine E2.pos (by omega) ?_
 refine E2.pos (by omega) ?_
 refine E2.neg (by simp) ?_
 refine E2.pos (by omega) ?_
 refine E2.pos (by omega) ?_
 refine E2.neg (by simp) ?_
 exact e
end Go.dB
