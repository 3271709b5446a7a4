/- impl.SeatPlayers, walked: a closure that calls itself and writes what it captured. No condition. -/
import Derived.Test.YtmocpfgfjeaelaaGreatPureSeat
import Derived.Test.YtmocpfgfjeaelaaGreatSeatF
import Derived.Test.YtmocpfgfjeaelaaGreatDraw4
import Derived.Test.YtmocpfgfjeaelaaGreatPur
import Derived.Test.YtmocpfgfjeaelaaGreatProg
import Derived.WalkKit
import Derived.ProofKit
import Derived.Below
import Derived.OwnWalk
import Derived.Laws.EntriesVeiled
import Derived.KernelRfl
set_option linter.unusedVariables false
set_option linter.unusedSimpArgs false
namespace Go.Proofs
open Go.RowKit Go.Flat
theorem Tryz.UL:(Tryz.prog.info? 3).map (fun i=>(i.zero,i.size,i.bytes))=some (some (.int .i64 0),1,8):=by kernel_rfl
structure SI (N SB FB:Nat) (fv:Value) (wb w:World) (t:List Int):Prop where
 below:Below N wb w
 lt:N<=w.heap.size
 fb:w.heap[FB]? = some (.cells #[fv] 228 (0,0))
 box:∃ g cp,w.heap[SB]? = some (.cells #[.slice (some ⟨g,0,none⟩) t.length cp] 29 (0,0))/\w.ownsRow N 3 1 (.slice (some ⟨g,0,none⟩) t.length cp) t.length (t.map (Value.int .i64))/\g ≠ SB/\g ≠ FB
theorem xD {w:World} {b:Nat} {x:Obj} (h:w.heap[b]? = some x):b<w.heap.size:=(Array.getElem?_eq_some_iff.1 h).1
theorem oZ {w w':World} {N g n cp:Nat} {xs:List Value} (h:w.ownsRow N 3 1 (.slice (some ⟨g,0,none⟩) n cp) n xs) (hb:Below w.heap.size w w'):w'.ownsRow N 3 1 (.slice (some ⟨g,0,none⟩) n cp) n xs:=by
 obtain ⟨h1,h2⟩:=h
 refine ⟨h1, ?_⟩
 rcases h2 with ⟨h2,_⟩ | ⟨g',c',cur,h2,h3,h4,h5⟩
 ·cases h2
 ·cases h2
  exact .inr ⟨g,cp,cur,rfl,h3,by rw [hb.block g (xD h4)];exact h4,h5⟩
theorem SI.step {N SB FB:Nat} {fv:Value} {wb w w':World} {t:List Int} (h:SI N SB FB fv wb w t) (hb:Below w.heap.size w w'):SI N SB FB fv wb w' t:=by
 obtain ⟨h1,h2,h3,g,cp,h4,h5,h6,h7⟩:=h
 refine ⟨h1.trans (hb.mono h2),Nat.le_trans h2 hb.size, ?_,g,cp, ?_,oZ h5 hb,h6,h7⟩
 ·rw [hb.block FB (xD h3)];exact h3
 ·rw [hb.block SB (xD h4)];exact h4
theorem zI {w:World} {b:Nat} {x v:Value} {e:TypeId} (h:w.heap[b]? = some (.cells #[x] e (0,0))):(w.setCell ⟨b,0,none⟩ v).heap[b]? = some (.cells #[v] e (0,0)):=by
 simp [World.setCell,Array.getElem?_modify,h]
theorem vE {w:World} {b k:Nat} {v:Value} (h:k ≠ b):(w.setCell ⟨b,0,none⟩ v).heap[k]? = w.heap[k]?:=Below.heap_setCell w ⟨b,0,none⟩ v k h
theorem MV {w:World} {N n:Nat} {v:Value} {xs:List Value} (h:w.ownsRow N 3 1 v n xs) (hn:0<n):∃ g cp,v=.slice (some ⟨g,0,none⟩) n cp/\N<=g/\g<w.heap.size:=by
 obtain ⟨_,⟨_,h0⟩ | ⟨g,cp,cur,h2,h3,h4,_⟩⟩:=h
 ·omega
 ·exact ⟨g,cp,h2,h3,xD h4⟩
theorem Gx {w:World} {N g n cp SB:Nat} {v:Value} {xs:List Value} (h:w.ownsRow N 3 1 (.slice (some ⟨g,0,none⟩) n cp) n xs) (hg:g ≠ SB):(w.setCell ⟨SB,0,none⟩ v).ownsRow N 3 1 (.slice (some ⟨g,0,none⟩) n cp) n xs:=by
 obtain ⟨h1,⟨h2,_⟩ | ⟨g',c',cur,h2,h3,h4,h5⟩⟩:=h
 ·cases h2
 ·cases h2
  exact ⟨h1,.inr ⟨g,cp,cur,rfl,h3,by rw [vE hg];exact h4,h5⟩⟩
theorem KL {w:World} {N g n cp SB:Nat} {x:Value} {e:TypeId} {xs:List Value} (h:w.ownsRow N 3 1 (.slice (some ⟨g,0,none⟩) n cp) n xs) (hb:w.heap[SB]? = some (.cells #[x] e (0,0))) (he:e ≠ 3):g ≠ SB:=by
 obtain ⟨h1,⟨h2,_⟩ | ⟨g',c',cur,h2,h3,h4,h5⟩⟩:=h
 ·cases h2
 ·cases h2
  rintro rfl
  rw [hb] at h4
  cases h4
  exact he rfl
theorem SI.push {N SB FB:Nat} {fv:Value} {wb w w':World} {t:List Int} {x:Int} {g cp g2 cp2:Nat} (YE:N<=SB) (YF:SB ≠ FB) (h:SI N SB FB fv wb w t) (hbx:w.heap[SB]? = some (.cells #[.slice (some ⟨g,0,none⟩) t.length cp] 29 (0,0))) (hg:N<=g) (Zd:g ≠ SB) (Ze:g ≠ FB)
  (ho:w'.ownsRow N 3 1 (.slice (some ⟨g2,0,none⟩) (t.length+1) cp2) (t.length+1) (t.map (Value.int .i64)++[.int .i64 x])) (hgr:w.grownBy w' (some g)) :
  w'.heap[SB]? = some (.cells #[.slice (some ⟨g,0,none⟩) t.length cp] 29 (0,0))/\SI N SB FB fv wb (w'.setCell ⟨SB,0,none⟩ (.slice (some ⟨g2,0,none⟩) (t.length+1) cp2)) (t++[x]):=by
 obtain ⟨h1,h2,h3,_⟩:=h
 have k1:w'.heap[SB]? = some (.cells #[.slice (some ⟨g,0,none⟩) t.length cp] 29 (0,0)):=by rw [hgr.block SB (xD hbx) (fun h=>Zd (Option.some.inj h).symm)];exact hbx
 have k2:w'.heap[FB]? = some (.cells #[fv] 228 (0,0)):=by rw [hgr.block FB (xD h3) (fun h=>Ze (Option.some.inj h).symm)];exact h3
 have k3:=KL ho k1 (by decide)
 have k4:=KL ho k2 (by decide)
 have hl:(t++[x]).length=t.length+1:=by simp
 refine ⟨k1,(h1.grown hgr h2 (fun k hk=>by cases hk;exact hg)).setCell YE _, ?_, ?_,g2,cp2, ?_, ?_,k3,k4⟩
 ·rw [show (w'.setCell ⟨SB,0,none⟩ (.slice (some ⟨g2,0,none⟩) (t.length+1) cp2)).heap.size=w'.heap.size by simp [World.setCell]]
  exact Nat.le_trans h2 hgr.size
 ·rw [vE (fun h=>YF h.symm)];exact k2
 ·rw [hl];exact zI k1
 ·rw [hl,List.map_append]
  exact Gx ho k3
theorem SI.pop {N SB FB:Nat} {fv:Value} {wb w:World} {t:List Int} {x:Int} {g cp:Nat} (YE:N<=SB) (YF:SB ≠ FB) (h:SI N SB FB fv wb w (t++[x])) (hbx:w.heap[SB]? = some (.cells #[.slice (some ⟨g,0,none⟩) (t.length+1) cp] 29 (0,0))):SI N SB FB fv wb (w.setCell ⟨SB,0,none⟩ (.slice (some ⟨g,0,none⟩) t.length cp)) t:=by
 obtain ⟨h1,h2,h3,g',cp',h4,h5,h6,h7⟩:=h
 have hl:(t++[x]).length=t.length+1:=by simp
 rw [hl] at h4 h5
 rw [hbx] at h4
 cases h4
 refine ⟨h1.setCell YE _, ?_, ?_,g,cp,zI hbx, ?_,h6,h7⟩
 ·rw [show (w.setCell ⟨SB,0,none⟩ (.slice (some ⟨g,0,none⟩) t.length cp)).heap.size=w.heap.size by simp [World.setCell]]
  exact h2
 ·rw [vE (fun h=>YF h.symm)];exact h3
 ·have h8:w.ownsRow N 3 1 (.slice (some ⟨g,0,none⟩) t.length cp) t.length (t.map (Value.int .i64)):=by
   obtain ⟨q1,⟨q2,_⟩ | ⟨g',c',cur,q2,q3,q4,q5,q6,q7,q8⟩⟩:=h5
   ·cases q2
   ·cases q2
    refine ⟨by simp,.inr ⟨g,cp,cur,rfl,q3,q4,by omega,q6,q7, ?_⟩⟩
    have:cur.toList.take (t.length*1)=(cur.toList.take ((t.length+1)*1)).take (t.length*1):=by rw [List.take_take];congr 1;omega
    rw [this,q8]
    simp
  exact Gx h8 h6
theorem cell_of {w:World} {b:Nat} {x:Value} {e:TypeId} (h:w.heap[b]? = some (.cells #[x] e (0,0))):w.cell? ⟨b,0,none⟩=some x:=by simp [World.cell?,h]
theorem Oi {w:World} {b:Nat} {x:Value} {e:TypeId} (h:w.heap[b]? = some (.cells #[x] e (0,0))):w.frozen? ⟨b,0,none⟩=false:=by simp [World.frozen?,h]
theorem TA {w:World} {N g n cp:Nat} {xs:List Value} (h:w.ownsRow N 3 1 (.slice (some ⟨g,0,none⟩) n cp) n xs):N<=g/\n<=cp:=by
 obtain ⟨h1,⟨h2,_⟩ | ⟨g',c',cur,h2,h3,h4,h5,_⟩⟩:=h
 ·cases h2
 ·cases h2
  exact ⟨h3,h5⟩
theorem MW (w:World) (x:Value) (e:TypeId) (j:Nat) (u:Value) (h:[x][j]? = some u):(w.alloc (.cells #[x] e)).cell? ((⟨w.heap.size,0,none⟩:Addr).add j)=some u:=by
 match j,h with
 | 0,h=>
  simp at h
  subst h
  have:((⟨w.heap.size,0,none⟩:Addr).add 0)=⟨w.heap.size,0,none⟩:=by simp [Addr.add]
  rw [this,World.cell?_alloc_at _ _ _ _ rfl]
  rfl
theorem TB (x:Int):∀ u ∈ [Value.int .i64 x],u.oneCell'=true:=by
 intro u hu
 simp at hu
 subst hu
 rfl
set_option maxHeartbeats 1600000 in
set_option maxRecDepth 1000000 in
theorem Xf (N LB SC VB SB FB b o cap len:Nat) (sv:Value) (n:Nat) (wb:World) (can:Nat->Int->Bool) (fq lo hi:Nat->Int) (va:Nat->Option Addr) (vl vc:Nat->Nat) (fv:Value) (hfv:fv=.func (.func 207) #[] #[.pointer (some ⟨SB,0,none⟩),.pointer (some ⟨VB,0,none⟩),.pointer (some ⟨LB,0,none⟩),.pointer (some ⟨SC,0,none⟩),.pointer (some ⟨FB,0,none⟩)])
  (sa:Option Addr) (sl scp:Nat) (la:Option Addr) (hla:0<len->la=some ⟨b,o,none⟩)
  (hL:wb.cell? ⟨LB,0,none⟩=some (.slice la len cap)) (hS:wb.cell? ⟨SC,0,none⟩=some (.slice sa sl scp)) (hV:wb.cell? ⟨VB,0,none⟩=some (.int .i64 n))
  (hLB:LB<N) (hSC:SC<N) (hVB:VB<N) (hbN:0<len->b<N) (hlen:len<=1048576) (YE:N<=SB) (YF:SB ≠ FB)
  (hc:∀ k,k<len->wb.cell? ⟨b,o+k*4,none⟩=some (.int .i64 (fq k))/\wb.cell? ⟨b,o+k*4+1,none⟩=some (.int .i64 (lo k))/\wb.cell? ⟨b,o+k*4+2,none⟩=some (.int .i64 (hi k))/\wb.cell? ⟨b,o+k*4+3,none⟩=some (.slice (va k) (vl k) (vc k)))
  (Oj:∀ (w:World) (g cp:Nat) (t:List Int) (x:Int),w.ownsRow N 3 1 (.slice (some ⟨g,0,none⟩) t.length cp) t.length (t.map (.int .i64))->t.length<=4->Calls Tryz.prog 178 #[.slice (some ⟨g,0,none⟩) t.length cp,.int .i64 x] w fun e w'=>e=.returned (.bool (decide (x ∈ t)))/\Below w.heap.size w w')
  (QC:∀ (w:World) (k:Nat) (m:Int),k<len->Below N wb w->Calls Tryz.prog 181 #[.agg #[.int .i64 (fq k),.int .i64 (lo k),.int .i64 (hi k),.slice (va k) (vl k) (vc k)],.slice sa sl scp,.int .i64 m] w fun e w'=>e=.returned (.bool (can k m))/\Below w.heap.size w w')
  (next:List Int->List Int × Bool) (hnext:∀ t,(next t).2=false->(next t).1=t) (t:List Int) (w:World) (hs:SI N SB FB fv wb w t) (hn:t.length<n) (hn4:n<=4)
  (ih:∀ (w:World) (t':List Int),SI N SB FB fv wb w t'->t'.length=t.length+1->Calls Tryz.prog 207 #[.pointer (some ⟨SB,0,none⟩),.pointer (some ⟨VB,0,none⟩),.pointer (some ⟨LB,0,none⟩),.pointer (some ⟨SC,0,none⟩),.pointer (some ⟨FB,0,none⟩)] w fun e w'=>e=.returned (.bool (next t').2)/\SI N SB FB fv wb w' (next t').1) :
  Calls Tryz.prog 207 #[.pointer (some ⟨SB,0,none⟩),.pointer (some ⟨VB,0,none⟩),.pointer (some ⟨LB,0,none⟩),.pointer (some ⟨SC,0,none⟩),.pointer (some ⟨FB,0,none⟩)] w fun e w'=>e=.returned (.bool (lI next can fq len t len).2)/\SI N SB FB fv wb w' (lI next can fq len t len).1:=by
 have hz:¬ t.length=n:=by omega
 have hzb:((t.length:Int) == (n:Int))=false:=by simp;omega
 have HF:Hid (fv=.func (.func 207) #[] #[.pointer (some ⟨SB,0,none⟩),.pointer (some ⟨VB,0,none⟩),.pointer (some ⟨LB,0,none⟩),.pointer (some ⟨SC,0,none⟩),.pointer (some ⟨FB,0,none⟩)]):=hfv
 clear hfv
 obtain ⟨i0,hi0,hz0,hz1,hz2⟩:=info_parts Tryz.UL
 have hs0:=hs
 obtain ⟨hbel,_,Oo,g,cp,yR,hown,Zd,Ze⟩:=hs
 have c1:=(hbel.cell (p:=⟨LB,0,none⟩) hLB).trans hL
 have c2:=(hbel.cell (p:=⟨VB,0,none⟩) hVB).trans hV
 have c3:w.cell? ⟨SB,0,none⟩=some (.slice (some ⟨g,0,none⟩) t.length cp):=by simp [World.cell?,yR]
 clear yR hown Oo hbel Zd Ze
 go_enter Tryz.func207,Tryz.ntmps207
 go_wp2_with fail
 go_loopw [14] (fun i wr=>∃ k:Nat,k<=len/\i=.int .i64 k/\SI N SB FB fv wb wr t/\lI next can fq len t len=lI next can fq len t (len - k))
  (fun i _=>len - (intOf i).toNat)
 case atStart=>exact ⟨0,Nat.zero_le _,rfl,hs0,rfl⟩
 case round=>
  clear c1 c2 c3 hs0
  obtain ⟨k,hk,rfl,hs1,hgo⟩:=hrel
  by_cases hkl:k<len
  ·have hla:=hla (by omega)
   have hbN:=hbN (by omega)
   subst hla
   have ac0:=hs1
   obtain ⟨hbel,hNw,Oo,g',cp',yR,hown,Zd,Ze⟩:=ac0
   obtain ⟨q0,q1,q2,q3⟩:=hc k hkl
   have c1:=(hbel.cell (p:=⟨b,o+k*4,none⟩) hbN).trans q0
   have c2:=(hbel.cell (p:=⟨b,o+k*4+1,none⟩) hbN).trans q1
   have c4:=(hbel.cell (p:=⟨b,o+k*4+2,none⟩) hbN).trans q2
   have c5:=(hbel.cell (p:=⟨b,o+k*4+3,none⟩) hbN).trans q3
   clear q0 q1 q2 q3
   have hb1:Below wr.heap.size wr (wr.alloc (.cells #[.int .i64 (fq k),.int .i64 (lo k),.int .i64 (hi k),.slice (va k) (vl k) (vc k)] 44)):=(Below.refl _ _).alloc (Nat.le_refl _) _
   have hSw:SB<wr.heap.size:=xD yR
   have c3:(wr.alloc (.cells #[.int .i64 (fq k),.int .i64 (lo k),.int .i64 (hi k),.slice (va k) (vl k) (vc k)] 44)).cell? ⟨SB,0,none⟩=some (.slice (some ⟨g',0,none⟩) t.length cp'):=by
    rw [hb1.cell (p:=⟨SB,0,none⟩) hSw]
    simp [World.cell?,yR]
   have hs2:=hs1.step hb1
   have hown2:=oZ hown hb1
   have hlt:wr.heap.size<(wr.alloc (.cells #[.int .i64 (fq k),.int .i64 (lo k),.int .i64 (hi k),.slice (va k) (vl k) (vc k)] 44)).heap.size:=by simp
   have e0:(wr.alloc (.cells #[.int .i64 (fq k),.int .i64 (lo k),.int .i64 (hi k),.slice (va k) (vl k) (vc k)] 44)).cell? ⟨wr.heap.size,0,none⟩=some (.int .i64 (fq k)):=by rw [World.cell?_alloc_at _ _ _ _ rfl];rfl
   have e1:(wr.alloc (.cells #[.int .i64 (fq k),.int .i64 (lo k),.int .i64 (hi k),.slice (va k) (vl k) (vc k)] 44)).cell? ⟨wr.heap.size,1,none⟩=some (.int .i64 (lo k)):=by rw [World.cell?_alloc_at _ _ _ _ rfl];rfl
   have e2:(wr.alloc (.cells #[.int .i64 (fq k),.int .i64 (lo k),.int .i64 (hi k),.slice (va k) (vl k) (vc k)] 44)).cell? ⟨wr.heap.size,2,none⟩=some (.int .i64 (hi k)):=by rw [World.cell?_alloc_at _ _ _ _ rfl];rfl
   have e3:(wr.alloc (.cells #[.int .i64 (fq k),.int .i64 (lo k),.int .i64 (hi k),.slice (va k) (vl k) (vc k)] 44)).cell? ⟨wr.heap.size,3,none⟩=some (.slice (va k) (vl k) (vc k)):=by rw [World.cell?_alloc_at _ _ _ _ rfl];rfl
   have hgo':=hgo.trans (PV hkl)
   by_cases hin:fq k ∈ t
   ·rw [if_pos (by simp [hin])] at hgo'
    go_wp2_with (go_at_call 178;refine (Oj _ g' cp' t (fq k) hown2 (by omega)).mono ?_;rintro e w2 ⟨rfl,hb2⟩;have hs3:=hs2.step hb2)
    go_roundw
    case rel=>exact ⟨k+1,by omega,by go_num,hs3,hgo'⟩
    case measure=>simp [intOf];omega
   ·have Vp:decide (fq k ∈ t)=false:=by simp [hin]
    cases hcan:can k (t.length+1) with
    | false=>
     rw [if_pos (by simp [hcan])] at hgo'
     go_wp2_with (first
      | (go_at_call 178;refine (Oj _ g' cp' t (fq k) hown2 (by omega)).mono ?_;rintro e w2 ⟨rfl,hb2⟩;have hs3:=hs2.step hb2;have d0:=(hb2.cell (p:=⟨wr.heap.size,0,none⟩) hlt).trans e0;have d1:=(hb2.cell (p:=⟨wr.heap.size,1,none⟩) hlt).trans e1;have d2:=(hb2.cell (p:=⟨wr.heap.size,2,none⟩) hlt).trans e2;have d3:=(hb2.cell (p:=⟨wr.heap.size,3,none⟩) hlt).trans e3;have d4:=(hs3.below.cell (p:=⟨SC,0,none⟩) hSC).trans hS;have d5:=(hb2.cell (p:=⟨SB,0,none⟩) (Nat.lt_trans hSw hlt)).trans c3)
      | (go_at_call 181;refine (QC _ k (t.length+1) hkl hs3.below).mono ?_;rintro e w3 ⟨rfl,hb3⟩;have hs4:=hs3.step hb3))
     go_roundw
     case rel=>exact ⟨k+1,by omega,by go_num,hs4,hgo'⟩
     case measure=>simp [intOf];omega
    | true=>
     rw [if_neg (by simp [hcan,hin])] at hgo'
     have hNg:N<=g':=(TA hown).1
     have HB:∀ (w3 w2:World),Below (wr.alloc (.cells #[.int .i64 (fq k),.int .i64 (lo k),.int .i64 (hi k),.slice (va k) (vl k) (vc k)] 44)).heap.size (wr.alloc (.cells #[.int .i64 (fq k),.int .i64 (lo k),.int .i64 (hi k),.slice (va k) (vl k) (vc k)] 44)) w2->Below w2.heap.size w2 w3->(w3.alloc (.cells #[.int .i64 (fq k)] 3)).heap[SB]? = some (.cells #[.slice (some ⟨g',0,none⟩) t.length cp'] 29 (0,0)):=fun w3 w2 hb2 hb3=>by
      have hl2:SB<w2.heap.size:=Nat.lt_of_lt_of_le (Nat.lt_trans hSw hlt) hb2.size
      rw [Below.heap_alloc _ _ _ (Nat.lt_of_lt_of_le hl2 hb3.size),hb3.block SB hl2,hb2.block SB (Nat.lt_trans hSw hlt),hb1.block SB hSw]
      exact yR
     have HFC:∀ {w:World} {t':List Int},SI N SB FB fv wb w t'->w.cell? ⟨FB,0,none⟩=some (.func (.func 207) #[] #[.pointer (some ⟨SB,0,none⟩),.pointer (some ⟨VB,0,none⟩),.pointer (some ⟨LB,0,none⟩),.pointer (some ⟨SC,0,none⟩),.pointer (some ⟨FB,0,none⟩)]):=fun h=>by rw [<- HF.out];exact cell_of h.fb
     have hl1:(t++[fq k]).length=t.length+1:=by simp
     cases hnx:(next (t++[fq k])).2 with
     | true=>
      rw [if_pos hnx] at hgo'
      go_wp2_with (first
       | (go_at_call 178;refine (Oj _ g' cp' t (fq k) hown2 (by omega)).mono ?_;rintro e w2 ⟨rfl,hb2⟩;have hs3:=hs2.step hb2;have d0:=(hb2.cell (p:=⟨wr.heap.size,0,none⟩) hlt).trans e0;have d1:=(hb2.cell (p:=⟨wr.heap.size,1,none⟩) hlt).trans e1;have d2:=(hb2.cell (p:=⟨wr.heap.size,2,none⟩) hlt).trans e2;have d3:=(hb2.cell (p:=⟨wr.heap.size,3,none⟩) hlt).trans e3;have d4:=(hs3.below.cell (p:=⟨SC,0,none⟩) hSC).trans hS;have d5:=(hb2.cell (p:=⟨SB,0,none⟩) (Nat.lt_trans hSw hlt)).trans c3)
       | (go_at_call 181;refine (QC _ k (t.length+1) hkl hs3.below).mono ?_;rintro e w3 ⟨rfl,hb3⟩;have hs4:=hs3.step hb3;have hlt3:=Nat.lt_of_lt_of_le hlt hb2.size;have f0:=(hb3.cell (p:=⟨wr.heap.size,0,none⟩) hlt3).trans d0;have f5:=(hb3.cell (p:=⟨SB,0,none⟩) (Nat.lt_trans hSw hlt3)).trans d5;have Xg:=oZ (oZ hown2 hb2) hb3)
       | (at_builtin;refine wpList_append_own _ rfl _ _ 29 rfl N 3 i0 (.int .i64 0) 1 8 Tryz.underlying29 hi0 hz0 hz1 hz2 rfl (by decide) _ _ _ rfl (Xg.alloc _) ⟨w3.heap.size,0,none⟩ 1 1 [.int .i64 (fq k)] rfl rfl (MW _ _ _) (TB _) (by unfold maxLen;omega) (by omega) (by have:=hs4.lt;simp;omega) ?_;intro v' w4 hown5 hgr _;obtain ⟨g5,cp5,rfl,_,_⟩:=MV hown5 (by omega);have P:=SI.push YE YF (hs4.step ((Below.refl _ _).alloc (Nat.le_refl _) _)) (HB w3 _ hb2 hb3) hNg Zd Ze hown5 hgr;have hs5:=P.2;have p0:=cell_of P.1;have p1:=Oi P.1;have p2:=HFC hs5;clear hgr hown5)
       | (go_at_call 207;refine (ih _ (t++[fq k]) hs5 (by simp)).mono ?_;rintro e w6 ⟨rfl,hs6⟩))
      go_ret
      exact ⟨by rw [hgo'];rfl,by rw [hgo'];exact hs6⟩
     | false=>
      rw [if_neg (by rw [hnx];simp)] at hgo'
      have hq:=hnext _ hnx
      go_wp2_with (first
       | (go_at_call 178;refine (Oj _ g' cp' t (fq k) hown2 (by omega)).mono ?_;rintro e w2 ⟨rfl,hb2⟩;have hs3:=hs2.step hb2;have d0:=(hb2.cell (p:=⟨wr.heap.size,0,none⟩) hlt).trans e0;have d1:=(hb2.cell (p:=⟨wr.heap.size,1,none⟩) hlt).trans e1;have d2:=(hb2.cell (p:=⟨wr.heap.size,2,none⟩) hlt).trans e2;have d3:=(hb2.cell (p:=⟨wr.heap.size,3,none⟩) hlt).trans e3;have d4:=(hs3.below.cell (p:=⟨SC,0,none⟩) hSC).trans hS;have d5:=(hb2.cell (p:=⟨SB,0,none⟩) (Nat.lt_trans hSw hlt)).trans c3)
       | (go_at_call 181;refine (QC _ k (t.length+1) hkl hs3.below).mono ?_;rintro e w3 ⟨rfl,hb3⟩;have hs4:=hs3.step hb3;have hlt3:=Nat.lt_of_lt_of_le hlt hb2.size;have f0:=(hb3.cell (p:=⟨wr.heap.size,0,none⟩) hlt3).trans d0;have f5:=(hb3.cell (p:=⟨SB,0,none⟩) (Nat.lt_trans hSw hlt3)).trans d5;have Xg:=oZ (oZ hown2 hb2) hb3)
       | (at_builtin;refine wpList_append_own _ rfl _ _ 29 rfl N 3 i0 (.int .i64 0) 1 8 Tryz.underlying29 hi0 hz0 hz1 hz2 rfl (by decide) _ _ _ rfl (Xg.alloc _) ⟨w3.heap.size,0,none⟩ 1 1 [.int .i64 (fq k)] rfl rfl (MW _ _ _) (TB _) (by unfold maxLen;omega) (by omega) (by have:=hs4.lt;simp;omega) ?_;intro v' w4 hown5 hgr _;obtain ⟨g5,cp5,rfl,_,_⟩:=MV hown5 (by omega);have P:=SI.push YE YF (hs4.step ((Below.refl _ _).alloc (Nat.le_refl _) _)) (HB w3 _ hb2 hb3) hNg Zd Ze hown5 hgr;have hs5:=P.2;have p0:=cell_of P.1;have p1:=Oi P.1;have p2:=HFC hs5;clear hgr hown5)
       | (go_at_call 207;refine (ih _ (t++[fq k]) hs5 (by simp)).mono ?_;rintro e w6 ⟨rfl,hs6⟩;rw [hq] at hs6;obtain ⟨g6,cp6,hb6,ho6,_,_⟩:=hs6.box;rw [hl1] at hb6 ho6;have adW:=(TA ho6).2;have s0:=cell_of hb6;have s1:=Oi hb6;have hs7:=SI.pop YE YF hs6 hb6))
      exact ⟨⟨k+1,by omega,by go_num,hs7,hgo'⟩,by simp [intOf];omega⟩
  ·have hke:k=len:=by omega
   subst hke
   rw [Nat.sub_self] at hgo
   have hgo:lI next can fq k t k=(t,false):=hgo
   go_wp2_with fail
   go_ret
   exact ⟨by rw [hgo];rfl,by rw [hgo];exact hs1⟩
theorem zA {w:World} {N:Nat} (h:N<=w.heap.size):(w.alloc (.cells #[] 3)).ownsRow N 3 1 (.slice (some ⟨w.heap.size,0,none⟩) 0 0) 0 []:=
 ⟨by simp,.inr ⟨w.heap.size,0,#[],rfl,h,(by show (w.heap.push _)[w.heap.size]? = _;simp),Nat.le_refl _,Nat.zero_le _,rfl,rfl⟩⟩
theorem UM {w:World} {N M n:Nat} {v:Value} {xs:List Value} (h:w.ownsRow M 3 1 v n xs) (hN:N<=M):w.ownsRow N 3 1 v n xs:=by
 obtain ⟨h1,h2 | ⟨g,cp,cur,h2,h3,h4⟩⟩:=h
 ·exact ⟨h1,.inl h2⟩
 ·exact ⟨h1,.inr ⟨g,cp,cur,h2,Nat.le_trans hN h3,h4⟩⟩
theorem QD (w:World) (o:Obj):(w.alloc o).heap[w.heap.size]? = some o:=by
 show (w.heap.push o)[w.heap.size]? = _
 simp
theorem Xh (w:World) (fv:Value):SI w.heap.size (w.heap.size+1) (w.heap.size+1+1) fv w (((w.alloc (.cells #[] 3)).alloc (.cells #[.slice (some ⟨w.heap.size,0,none⟩) 0 0] 29)).alloc (.cells #[fv] 228)) []:=by
 have h0:((w.alloc (.cells #[] 3)).alloc (.cells #[.slice (some ⟨w.heap.size,0,none⟩) 0 0] 29)).heap.size=w.heap.size+1+1:=by simp
 refine ⟨(((Below.refl _ _).alloc (Nat.le_refl _) _).alloc (by simp) _).alloc (by rw [h0];omega) _,by simp;omega, ?_,w.heap.size,0, ?_,((zA (Nat.le_refl _)).alloc _).alloc _,by omega,by omega⟩
 ·have:=QD ((w.alloc (.cells #[] 3)).alloc (.cells #[.slice (some ⟨w.heap.size,0,none⟩) 0 0] 29)) (.cells #[fv] 228)
  rw [h0] at this
  exact this
 ·have h1:(w.alloc (.cells #[] 3)).heap.size=w.heap.size+1:=by simp
  have:=QD (w.alloc (.cells #[] 3)) (.cells #[.slice (some ⟨w.heap.size,0,none⟩) 0 0] 29)
  rw [h1] at this
  rw [Below.heap_alloc _ _ _ (by rw [h0];omega)]
  exact this
set_option maxHeartbeats 1600000 in
set_option maxRecDepth 1000000 in
theorem Xi (N LB SC VB SB FB b o cap len:Nat) (n:Nat) (wb:World) (can:Nat->Int->Bool) (fq lo hi:Nat->Int) (va:Nat->Option Addr) (vl vc:Nat->Nat) (fv:Value) (hfv:fv=.func (.func 207) #[] #[.pointer (some ⟨SB,0,none⟩),.pointer (some ⟨VB,0,none⟩),.pointer (some ⟨LB,0,none⟩),.pointer (some ⟨SC,0,none⟩),.pointer (some ⟨FB,0,none⟩)])
  (sa:Option Addr) (sl scp:Nat) (la:Option Addr) (hla:0<len->la=some ⟨b,o,none⟩)
  (hL:wb.cell? ⟨LB,0,none⟩=some (.slice la len cap)) (hS:wb.cell? ⟨SC,0,none⟩=some (.slice sa sl scp)) (hV:wb.cell? ⟨VB,0,none⟩=some (.int .i64 n))
  (hLB:LB<N) (hSC:SC<N) (hVB:VB<N) (hbN:0<len->b<N) (hlen:len<=1048576) (YE:N<=SB) (YF:SB ≠ FB)
  (hc:∀ k,k<len->wb.cell? ⟨b,o+k*4,none⟩=some (.int .i64 (fq k))/\wb.cell? ⟨b,o+k*4+1,none⟩=some (.int .i64 (lo k))/\wb.cell? ⟨b,o+k*4+2,none⟩=some (.int .i64 (hi k))/\wb.cell? ⟨b,o+k*4+3,none⟩=some (.slice (va k) (vl k) (vc k)))
  (Oj:∀ (w:World) (g cp:Nat) (t:List Int) (x:Int),w.ownsRow N 3 1 (.slice (some ⟨g,0,none⟩) t.length cp) t.length (t.map (.int .i64))->t.length<=4->Calls Tryz.prog 178 #[.slice (some ⟨g,0,none⟩) t.length cp,.int .i64 x] w fun e w'=>e=.returned (.bool (decide (x ∈ t)))/\Below w.heap.size w w')
  (QC:∀ (w:World) (k:Nat) (m:Int),k<len->Below N wb w->Calls Tryz.prog 181 #[.agg #[.int .i64 (fq k),.int .i64 (lo k),.int .i64 (hi k),.slice (va k) (vl k) (vc k)],.slice sa sl scp,.int .i64 m] w fun e w'=>e=.returned (.bool (can k m))/\Below w.heap.size w w')
  (hn4:n<=4):∀ (d:Nat) (t:List Int) (w:World),t.length+d=n->SI N SB FB fv wb w t->
  Calls Tryz.prog 207 #[.pointer (some ⟨SB,0,none⟩),.pointer (some ⟨VB,0,none⟩),.pointer (some ⟨LB,0,none⟩),.pointer (some ⟨SC,0,none⟩),.pointer (some ⟨FB,0,none⟩)] w fun e w'=>e=.returned (.bool (uH can fq len d t).2)/\SI N SB FB fv wb w' (uH can fq len d t).1:=by
 intro d
 induction d with
 | zero=>
  intro t w ht hs
  have hs0:=hs
  obtain ⟨hbel,_,Oo,g,cp,yR,hown,Zd,Ze⟩:=hs
  have c2:=(hbel.cell (p:=⟨VB,0,none⟩) hVB).trans hV
  have c3:w.cell? ⟨SB,0,none⟩=some (.slice (some ⟨g,0,none⟩) t.length cp):=cell_of yR
  have hzb:((t.length:Int) == (n:Int))=true:=by simp;omega
  clear yR hown Oo hbel Zd Ze hfv Oj QC hc hL hS hV
  go_enter Tryz.func207,Tryz.ntmps207
  go_wp2_with fail
  go_ret
  exact ⟨rfl,hs0⟩
 | succ d ih=>
  intro t w ht hs
  exact Xf N LB SC VB SB FB b o cap len (.bool true) n wb can fq lo hi va vl vc fv hfv sa sl scp la hla hL hS hV hLB hSC hVB hbN hlen YE YF hc Oj QC (uH can fq len d) (RQ d) t w hs (by omega) hn4 (fun w t' hs' ht'=>ih t' w (by omega) hs')
set_option maxHeartbeats 1600000 in
set_option maxRecDepth 1000000 in
theorem Sy (b o cap len:Nat) (v:Int) (w:World) (r:List Int × Bool) (pl Ij:Bool) (can:Nat->Int->Bool) (fq lo hi:Nat->Int) (hr:r=if pl=true/\Ij=true/\1<=v/\v<=4 then uH can fq len v.toNat [] else ([],false)) (va:Nat->Option Addr) (vl vc:Nat->Nat)
  (sa:Option Addr) (sl scp:Nat) (la:Option Addr) (hla:0<len->la=some ⟨b,o,none⟩) (hbN:0<len->b<w.heap.size) (hlen:len<=1048576)
  (hc:∀ k,k<len->w.cell? ⟨b,o+k*4,none⟩=some (.int .i64 (fq k))/\w.cell? ⟨b,o+k*4+1,none⟩=some (.int .i64 (lo k))/\w.cell? ⟨b,o+k*4+2,none⟩=some (.int .i64 (hi k))/\w.cell? ⟨b,o+k*4+3,none⟩=some (.slice (va k) (vl k) (vc k)))
  (hPl:∀ w',Below w.heap.size w w'->Calls Tryz.prog 177 #[.slice la len cap] w' fun e w''=>e=.returned (.bool pl)/\Below w'.heap.size w' w'')
  (aar:∀ w',Below w.heap.size w w'->Calls Tryz.prog 59 #[.slice sa sl scp] w' fun e w''=>e=.returned (.bool Ij)/\Below w'.heap.size w' w'')
  (hIn:∀ w',Calls Tryz.prog 72 #[.int .i64 v,.int .i64 1,.int .i64 4] w' fun e w''=>e=.returned (.bool (decide (1<=v/\v<=4)))/\Below w'.heap.size w' w'')
  (Oj:∀ (N:Nat) (w':World) (g cp:Nat) (t:List Int) (x:Int),w'.ownsRow N 3 1 (.slice (some ⟨g,0,none⟩) t.length cp) t.length (t.map (.int .i64))->t.length<=4->Calls Tryz.prog 178 #[.slice (some ⟨g,0,none⟩) t.length cp,.int .i64 x] w' fun e w''=>e=.returned (.bool (decide (x ∈ t)))/\Below w'.heap.size w' w'')
  (QC:∀ (w':World) (k:Nat) (m:Int),k<len->Below w.heap.size w w'->Calls Tryz.prog 181 #[.agg #[.int .i64 (fq k),.int .i64 (lo k),.int .i64 (hi k),.slice (va k) (vl k) (vc k)],.slice sa sl scp,.int .i64 m] w' fun e w''=>e=.returned (.bool (can k m))/\Below w'.heap.size w' w'') :
  Calls Tryz.prog 108 #[.slice la len cap,.slice sa sl scp,.int .i64 v] w fun e w'=>∃ g cp,Below w.heap.size w w' /\
   e=.returned (.tuple #[.slice (some ⟨g,0,none⟩) r.1.length cp,.bool r.2]) /\
   w'.ownsRow w.heap.size 3 1 (.slice (some ⟨g,0,none⟩) r.1.length cp) r.1.length (r.1.map (.int .i64)):=by
 have hmf:∀ (fn:Fn) (first cap:Array Value) (w:World),(Instr.makeFunc fn first cap).run Tryz.prog w=.ok (.func fn first cap) w:=fun _ _ _ _=>rfl
 have hsz:(((w.alloc (.cells #[.slice la len cap] 28)).alloc (.cells #[.slice sa sl scp] 24)).alloc (.cells #[.int .i64 v] 3)).heap.size=w.heap.size+3:=by simp
 have hB3:Below w.heap.size w (((w.alloc (.cells #[.slice la len cap] 28)).alloc (.cells #[.slice sa sl scp] 24)).alloc (.cells #[.int .i64 v] 3)):=(((Below.refl _ _).alloc (Nat.le_refl _) _).alloc (by simp) _).alloc (by simp;omega) _
 have K:∀ w',Below (((w.alloc (.cells #[.slice la len cap] 28)).alloc (.cells #[.slice sa sl scp] 24)).alloc (.cells #[.int .i64 v] 3)).heap.size (((w.alloc (.cells #[.slice la len cap] 28)).alloc (.cells #[.slice sa sl scp] 24)).alloc (.cells #[.int .i64 v] 3)) w'->Below w.heap.size w w'/\w.heap.size+3<=w'.heap.size/\w'.cell? ⟨w.heap.size,0,none⟩=some (.slice la len cap)/\w'.cell? ⟨w.heap.size+1,0,none⟩=some (.slice sa sl scp)/\w'.cell? ⟨w.heap.size+1+1,0,none⟩=some (.int .i64 v):=fun w' h=>by
  refine ⟨hB3.trans (h.mono (by rw [hsz];omega)),by have:=h.size;omega, ?_, ?_, ?_⟩
  ·rw [h.cell (p:=⟨w.heap.size,0,none⟩) (by rw [hsz];show w.heap.size<_;omega),World.cell?_alloc_past _ _ _ (by simp;omega),World.cell?_alloc_past _ _ _ (by simp),World.cell?_alloc_at _ _ _ _ rfl];rfl
  ·rw [h.cell (p:=⟨w.heap.size+1,0,none⟩) (by rw [hsz];show w.heap.size+1<_;omega),World.cell?_alloc_past _ _ _ (by simp),World.cell?_alloc_at _ _ _ _ (by simp)];rfl
  ·rw [h.cell (p:=⟨w.heap.size+1+1,0,none⟩) (by rw [hsz];show w.heap.size+1+1<_;omega),World.cell?_alloc_at _ _ _ _ (by simp)];rfl
 have HC:∀ w',Below w.heap.size w w'->∀ k,k<len->w'.cell? ⟨b,o+k*4,none⟩=some (.int .i64 (fq k))/\w'.cell? ⟨b,o+k*4+1,none⟩=some (.int .i64 (lo k))/\w'.cell? ⟨b,o+k*4+2,none⟩=some (.int .i64 (hi k))/\w'.cell? ⟨b,o+k*4+3,none⟩=some (.slice (va k) (vl k) (vc k)):=fun w' hb k hk=>by
  have hq:=hbN (by omega)
  obtain ⟨q0,q1,q2,q3⟩:=hc k hk
  exact ⟨(hb.cell (p:=⟨b,o+k*4,none⟩) hq).trans q0,(hb.cell (p:=⟨b,o+k*4+1,none⟩) hq).trans q1,(hb.cell (p:=⟨b,o+k*4+2,none⟩) hq).trans q2,(hb.cell (p:=⟨b,o+k*4+3,none⟩) hq).trans q3⟩
 cases pl with
 | false=>
  obtain rfl:r=([],false):=by rw [hr,if_neg (by simp)]
  clear hr
  go_enter Tryz.func108,Tryz.ntmps108
  go_wp2_with (go_at_call 177;refine (hPl _ hB3).mono ?_;rintro e w4 ⟨rfl,hb4⟩;obtain ⟨y0,y1,y2,y3,y4⟩:=K w4 hb4)
  go_ret2
  exact ⟨w4.heap.size,0,y0.alloc (by omega) _,rfl,zA (by omega)⟩
 | true=>
  cases Ij with
  | false=>
   obtain rfl:r=([],false):=by rw [hr,if_neg (by simp)]
   clear hr
   go_enter Tryz.func108,Tryz.ntmps108
   go_wp2_with (first
    | (go_at_call 177;refine (hPl _ hB3).mono ?_;rintro e w4 ⟨rfl,hb4⟩;obtain ⟨y0,y1,y2,y3,y4⟩:=K w4 hb4)
    | (go_at_call 59;refine (aar _ y0).mono ?_;rintro e w5 ⟨rfl,hb5⟩;obtain ⟨z0,z1,z2,z3,z4⟩:=K w5 (hb4.trans (hb5.mono hb4.size))))
   go_ret2
   exact ⟨w5.heap.size,0,z0.alloc (by omega) _,rfl,zA (by omega)⟩
  | true=>
   by_cases hv:1<=v/\v<=4
   ·rw [if_pos ⟨rfl,rfl,hv⟩] at hr
    obtain ⟨n,rfl⟩:=Int.eq_ofNat_of_zero_le (show 0<=v by omega)
    rw [Int.toNat_natCast] at hr
    have HR:Hid (r=uH can fq len n []):=hr
    clear hr
    have hvb:decide (1<=(n:Int)/\(n:Int)<=4)=true:=by simp;omega
    go_enter Tryz.func108,Tryz.ntmps108
    go_wp2_with (first
     | (go_at_call 177;refine (hPl _ hB3).mono ?_;rintro e w4 ⟨rfl,hb4⟩;obtain ⟨y0,y1,y2,y3,y4⟩:=K w4 hb4)
     | (go_at_call 59;refine (aar _ y0).mono ?_;rintro e w5 ⟨rfl,hb5⟩;obtain ⟨z0,z1,z2,z3,z4⟩:=K w5 (hb4.trans (hb5.mono hb4.size)))
     | (go_at_call 72;refine (hIn _).mono ?_;rintro e w6 ⟨rfl,hb6⟩;obtain ⟨u0,u1,u2,u3,u4⟩:=K w6 ((hb4.trans (hb5.mono hb4.size)).trans (hb6.mono (Nat.le_trans hb4.size hb5.size)))))
    refine (Xi w6.heap.size w.heap.size (w.heap.size+1) (w.heap.size+1+1) (w6.heap.size+1) (w6.heap.size+1+1) b o cap len n w6 can fq lo hi va vl vc _ rfl sa sl scp la hla u2 u3 u4 (by omega) (by omega) (by omega) (fun h=>Nat.lt_of_lt_of_le (hbN h) (by omega)) hlen (by omega) (by omega) (fun k hk=>HC w6 u0 k hk) (Oj _) (fun w' k m hk hb=>QC w' k m hk (u0.trans (hb.mono (by omega)))) (by omega) n [] _ (by simp) (Xh _ _)).mono ?_
    rintro e w7 ⟨rfl,hs7⟩
    obtain ⟨g7,cp7,hb7,ho7,_,_⟩:=hs7.box
    have s0:=cell_of hb7
    have hs8:=u0.trans (hs7.below.mono (by omega))
    have hs9:=UM ho7 (show w.heap.size<=w6.heap.size by omega)
    have hrr:=HR.out
    clear HR
    subst hrr
    go_wp2
    go_ret2
    exact ⟨g7,cp7,hs8,rfl,hs9⟩
   ·obtain rfl:r=([],false):=by rw [hr,if_neg (fun h=>hv h.2.2)]
    clear hr
    have hvb:decide (1<=v/\v<=4)=false:=by simpa using hv
    go_enter Tryz.func108,Tryz.ntmps108
    go_wp2_with (first
     | (go_at_call 177;refine (hPl _ hB3).mono ?_;rintro e w4 ⟨rfl,hb4⟩;obtain ⟨y0,y1,y2,y3,y4⟩:=K w4 hb4)
     | (go_at_call 59;refine (aar _ y0).mono ?_;rintro e w5 ⟨rfl,hb5⟩;obtain ⟨z0,z1,z2,z3,z4⟩:=K w5 (hb4.trans (hb5.mono hb4.size)))
     | (go_at_call 72;refine (hIn _).mono ?_;rintro e w6 ⟨rfl,hb6⟩;obtain ⟨u0,u1,u2,u3,u4⟩:=K w6 ((hb4.trans (hb5.mono hb4.size)).trans (hb6.mono (Nat.le_trans hb4.size hb5.size)))))
    go_ret2
    exact ⟨w6.heap.size,0,u0.alloc (by omega) _,rfl,zA (by omega)⟩
theorem QE {A G:Nat->Prop} {h:Array Obj} {a:Arg} {v:Value} (h1:Go.Flat.ArgRel A G h a v):gZ A G h [a] [v]:=
 ⟨rfl,fun i x y h2 h3=>by
  cases i with
  | zero=>simp at h2 h3;subst h2 h3;exact h1
  | succ i=>simp at h2⟩
theorem Xj {A G:Nat->Prop} {h:Array Obj} {a b:Arg} {u v:Value} (h1:Go.Flat.ArgRel A G h a u) (h2:Go.Flat.ArgRel A G h b v):gZ A G h [a,b] [u,v]:=
 ⟨rfl,fun i x y h3 h4=>by
  match i,h3,h4 with
  | 0,h3,h4=>simp at h3 h4;subst h3 h4;exact h1
  | 1,h3,h4=>simp at h3 h4;subst h3 h4;exact h2
  | i+2,h3,_=>simp at h3⟩
theorem QG {A G:Nat->Prop} {h:Array Obj} {a b c:Arg} {u v x:Value} (h1:Go.Flat.ArgRel A G h a u) (h2:Go.Flat.ArgRel A G h b v) (h3:Go.Flat.ArgRel A G h c x):gZ A G h [a,b,c] [u,v,x]:=
 ⟨rfl,fun i y z h4 h5=>by
  match i,h4,h5 with
  | 0,h4,h5=>simp at h4 h5;subst h4 h5;exact h1
  | 1,h4,h5=>simp at h4 h5;subst h4 h5;exact h2
  | 2,h4,h5=>simp at h4 h5;subst h4 h5;exact h3
  | i+3,h4,_=>simp at h4⟩
theorem Tryz.Xk:Go.Flat.Good Go.gy.C:=⟨by kernel_rfl,by kernel_rfl,by kernel_rfl⟩
theorem Tryz.UN:PX Go.gy.QK Go.gy.QN Go.gy.Bv Tryz.prog 108:=by
 intro l sc v w A G lv sv hok hA sD hl hs
 have ok:∀ k,Ab Go.gy.C (run Go.gy.C k):=fun k=>JH Tryz.Xk (fun f p h=>by cases h) k
 have hl0:=hl
 have hs0:=hs
 obtain ⟨la,cap,hlv,hlc,hx⟩:=hl
 obtain rfl:lv=.slice la l.length cap:=by simpa using hlv
 obtain ⟨sa,scp,hsv,_,_⟩:=hs
 obtain rfl:sv=.slice sa sc.length scp:=by simpa using hsv
 obtain ⟨b,o,hla,hbA,hcells⟩:∃ b o,(0<l.length->la=some ⟨b,o,none⟩)/\(0<l.length->A b)/\∀ (i:Nat) (x:jg.den),l[i]? = some x->∃ es,Rd G w.heap jg G x es/\∀ (j:Nat) u,es[j]? = some u->hcell w.heap b (o+i*4+j)=some u:=by
  by_cases h:l=[]
  ·subst h
   exact ⟨0,0,fun h'=>absurd h' (by simp),fun h'=>absurd h' (by simp),fun i x hi=>by simp at hi⟩
  ·obtain ⟨b,o,h1,h2,h3⟩:=hx h
   exact ⟨b,o,fun _=>h1,fun _=>h2,h3⟩
 have hrd:∀ k,(h:k<l.length)->rd jg l (k:Int)=l[k]:=fun k h=>dI h
 have sm:∀ k,k<l.length->(rd jg l (k:Int)).2.2.2.1.length<=1048576:=fun k h=>by rw [hrd k h];exact hok.2.2 _ (List.getElem_mem h)
 have one:∀ k:Nat,∃ (a:Option Addr) (c:Nat),k<l.length->(w.cell? ⟨b,o+k*4,none⟩=some (.int .i64 (rd jg l (k:Int)).1)/\w.cell? ⟨b,o+k*4+1,none⟩=some (.int .i64 (rd jg l (k:Int)).2.1)/\w.cell? ⟨b,o+k*4+2,none⟩=some (.int .i64 (rd jg l (k:Int)).2.2.1)/\w.cell? ⟨b,o+k*4+3,none⟩=some (.slice a (rd jg l (k:Int)).2.2.2.1.length c)) /\
   Rd G w.heap (.list (.int .i64)) G (rd jg l (k:Int)).2.2.2.1 [.slice a (rd jg l (k:Int)).2.2.2.1.length c]:=by
  intro k
  by_cases h:k<l.length
  ·obtain ⟨es,h1,h2⟩:=hcells k l[k] (List.getElem?_eq_getElem h)
   rw [<- hrd k h] at h1
   obtain ⟨c1,d1,rfl,e1,⟨c2,d2,rfl,e2,⟨c3,d3,rfl,e3,⟨c4,d4,rfl,e4,e5⟩⟩⟩⟩:=h1
   have e1:c1=[.int .i64 (rd jg l (k:Int)).1]:=e1
   have e2:c2=[.int .i64 (rd jg l (k:Int)).2.1]:=e2
   have e3:c3=[.int .i64 (rd jg l (k:Int)).2.2.1]:=e3
   have e4':=e4
   obtain ⟨a,c,e4,_,_⟩:=e4
   have e5:d4=[]:=e5
   subst e1 e2 e3 e4 e5
   refine ⟨a,c,fun _=>⟨⟨?_, ?_, ?_, ?_⟩,e4'⟩⟩
   ·rw [mQ];exact h2 0 _ rfl
   ·rw [mQ];exact h2 1 _ rfl
   ·rw [mQ];exact h2 2 _ rfl
   ·rw [mQ];exact h2 3 _ rfl
  ·exact ⟨none,0,fun h'=>absurd h' h⟩
 have hone:∀ k,(h:k<l.length)->_:=fun k h=>Classical.choose_spec (Classical.choose_spec (one k)) h
 have mv:∀ {T:Ty} {F:Nat->Prop} {x:T.den} {cs:List Value} (w':World),Below w.heap.size w w'->(∀ b,F b->A b)->Rd G w.heap T F x cs->Rd (fun b=>b<w'.heap.size) w'.heap T (fun b=>b<w'.heap.size) x cs:=fun w' hb hF h=>
  Rd.move (fun b h=>Nat.lt_of_lt_of_le (hA b (sD b h)) hb.size) (fun b h=>hb.block b (hA b (sD b h))) (fun b h=>Nat.lt_of_lt_of_le (hA b (hF b h)) hb.size) (fun b h=>hb.block b (hA b (hF b h))) h
 refine Sy b o cap l.length v w (pV Go.gy.QK Go.gy.QN Go.gy.Bv l sc v) (Go.gy.QK l) (Go.gy.QN sc) (fun k m=>Go.gy.Bv (rd jg l (k:Int)) sc m) (fun k=>(rd jg l (k:Int)).1) (fun k=>(rd jg l (k:Int)).2.1) (fun k=>(rd jg l (k:Int)).2.2.1) rfl
  (fun k=>Classical.choose (one k)) (fun k=>(rd jg l (k:Int)).2.2.2.1.length) (fun k=>Classical.choose (Classical.choose_spec (one k))) sa sc.length scp la hla (fun h=>hA b (hbA h)) hok.1 (fun k h=>(hone k h).1) ?_ ?_ ?_ ?_ ?_
 ·intro w' hb
  obtain ⟨k,hk⟩:=(Go.gy.abw l ⟨hok.1,sm⟩).1
  exact yw rfl (ok k) Tryz.func177 (by kernel_rfl) (by kernel_rfl) (args:=[.val (.list jg) l]) hk (by simp [Arg.sO]) w' [.slice la l.length cap] (QE ⟨_,mv w' hb (fun b h=>h) hl0,rfl⟩)
 ·intro w' hb
  obtain ⟨k,hk⟩:=(Go.gy.abx sc hok.2.1).1
  exact yw rfl (ok k) Tryz.func59 (by kernel_rfl) (by kernel_rfl) (args:=[.val (.list vF) sc]) hk (by simp [Arg.sO]) w' [.slice sa sc.length scp] (QE ⟨_,mv w' hb (fun b h=>h) hs0,rfl⟩)
 ·intro w'
  obtain ⟨k,hk⟩:=Go.gy.aby v
  exact yw rfl (ok k) Tryz.func72 (by kernel_rfl) (by kernel_rfl) (args:=[.val (.int .i64) v,.val (.int .i64) 1,.val (.int .i64) 4]) hk (by simp [Arg.sO]) w' [.int .i64 v,.int .i64 1,.int .i64 4] (QG ⟨_,rfl,rfl⟩ ⟨_,rfl,rfl⟩ ⟨_,rfl,rfl⟩)
 ·intro N w' g cp t x hown h4
  obtain ⟨k,hk⟩:=Go.gy.ZP t x (by omega)
  obtain ⟨cur,k1,k2,k3,k4,k5,k6⟩:=PY hown
  have hg:g<w'.heap.size:=xD k2
  refine yw rfl (ok k) Tryz.func178 (by kernel_rfl) (by kernel_rfl) (args:=[.val (.list (.int .i64)) t,.val (.int .i64) x]) hk (by simp [Arg.sO]) w' [.slice (some ⟨g,0,none⟩) t.length cp,.int .i64 x] (Xj ⟨_,⟨some ⟨g,0,none⟩,cp,rfl,k4,fun _=>⟨g,0,rfl,hg,fun i y hi=>⟨[.int .i64 y],rfl,fun j u hj=>?_⟩⟩⟩,rfl⟩ ⟨_,rfl,rfl⟩)
  cases j with
  | zero=>
   have hj:Value.int .i64 y=u:=by simpa using hj
   subst hj
   unfold hcell
   rw [k2]
   show cur[0+i*1+0]? = _
   rw [show 0+i*1+0=i by omega]
   exact k6 i y hi
  | succ j=>simp at hj
 ·intro w' k m hk hb
  obtain ⟨q,hq⟩:=(Go.gy.ZO (rd jg l (k:Int)) sc m (sm k hk) hok.2.1).1
  exact yw rfl (ok q) Tryz.func181 (by kernel_rfl) (by kernel_rfl) (args:=[.val jg (rd jg l (k:Int)),.val (.list vF) sc,.val (.int .i64) m]) hq (by simp [Arg.sO]) w' _ (QG ⟨[_,_,_,_],⟨[_],_,rfl,rfl,[_],_,rfl,rfl,[_],_,rfl,rfl,[_],[],rfl,mv w' hb sD (hone k hk).2,rfl⟩,rfl⟩ ⟨_,mv w' hb (fun b h=>h) hs0,rfl⟩ ⟨_,rfl,rfl⟩)
end Go.Proofs
