/- slices.Insert of one element, slices.Delete: rows of structs without rows, by the walks. No condition. -/
import Derived.Test.YtmocpfgfjeaelaaGreatPrim
set_option linter.unusedVariables false
set_option linter.unusedSimpArgs false
namespace Go.Flat
open Go.RowKit
structure wh (G:Nat->Prop) (h:Array Obj) (T:Ty) (l:List T.den) (rs:List Value):Prop where
 len:rs.length=l.length*T.sz
 at_:∀ (i:Nat) x,l[i]? = some x->Rd G h T G x ((rs.drop (i*T.sz)).take T.sz)
theorem wh.nil {G:Nat->Prop} {h:Array Obj} {T:Ty}:wh G h T [] []:=⟨by simp,fun i x hx=>by simp at hx⟩
theorem wh.app {G:Nat->Prop} {h:Array Obj} {T:Ty} {l k:List T.den} {rs ks:List Value} (H:wh G h T l rs) (K:wh G h T k ks):wh G h T (l++k) (rs++ks):=by
 refine ⟨by rw [List.length_append,List.length_append,H.len,K.len,Nat.add_mul],fun i x hx=>?_⟩
 by_cases hi:i<l.length
 ·rw [List.getElem?_append_left hi] at hx
  have h1:(i+1)*T.sz<=l.length*T.sz:=Nat.mul_le_mul_right _ hi
  rw [Nat.add_mul,Nat.one_mul] at h1
  have h2:=H.len
  rw [List.drop_append_of_le_length (by omega),List.take_append_of_le_length (by rw [List.length_drop];omega)]
  exact H.at_ i x hx
 ·rw [List.getElem?_append_right (by omega)] at hx
  have h1:i*T.sz=l.length*T.sz+(i - l.length)*T.sz:=by rw [<- Nat.add_mul];congr 1;omega
  rw [h1,<- H.len,<- List.drop_drop,List.drop_left]
  exact K.at_ _ x hx
theorem wh.take {G:Nat->Prop} {h:Array Obj} {T:Ty} {l:List T.den} {rs:List Value} (H:wh G h T l rs) {i:Nat} (hi:i<=l.length):wh G h T (l.take i) (rs.take (i*T.sz)):=by
 have h1:i*T.sz<=l.length*T.sz:=Nat.mul_le_mul_right _ hi
 have h2:=H.len
 refine ⟨by rw [List.length_take,List.length_take,Nat.min_eq_left (by omega),Nat.min_eq_left hi],fun k x hx=>?_⟩
 have hk:k<i:=by
  have:=(List.getElem?_eq_some_iff.1 hx).1
  simp at this
  omega
 rw [List.getElem?_take,if_pos hk] at hx
 have h3:(k+1)*T.sz<=i*T.sz:=Nat.mul_le_mul_right _ hk
 rw [Nat.add_mul,Nat.one_mul] at h3
 rw [List.drop_take,List.take_take,Nat.min_eq_left (by omega)]
 exact H.at_ k x hx
theorem wh.drop {G:Nat->Prop} {h:Array Obj} {T:Ty} {l:List T.den} {rs:List Value} (H:wh G h T l rs) {i:Nat} (hi:i<=l.length):wh G h T (l.drop i) (rs.drop (i*T.sz)):=by
 have h1:i*T.sz<=l.length*T.sz:=Nat.mul_le_mul_right _ hi
 have h2:=H.len
 refine ⟨by rw [List.length_drop,List.length_drop,h2,Nat.sub_mul],fun k x hx=>?_⟩
 rw [List.getElem?_drop] at hx
 rw [List.drop_drop,show i*T.sz+k*T.sz=(i+k)*T.sz by rw [Nat.add_mul]]
 exact H.at_ _ x hx
theorem wh.move {G:Nat->Prop} {h h':Array Obj} {T:Ty} {l:List T.den} {rs:List Value} (hs:∀ b,G b->h'[b]? = h[b]?) (H:wh G h T l rs):wh G h' T l rs:=
 ⟨H.len,fun i x hx=>Rd.move (fun _ h=>h) hs (fun _ h=>h) hs (H.at_ i x hx)⟩
theorem wh.one {G:Nat->Prop} {h:Array Obj} {T:Ty} {l:List T.den} {rs:List Value} (H:wh G h T l rs):∀ v ∈ rs,v.oneCell'=true:=fun v hv=>by
 obtain ⟨k,hk,rfl⟩:=List.mem_iff_getElem.1 hv
 have hl:=H.len
 have hS:0<T.sz:=by
  rcases Nat.eq_zero_or_pos T.sz with h0 | h0
  ·rw [h0,Nat.mul_zero] at hl;omega
  ·exact h0
 have hi:k / T.sz<l.length:=Nat.div_lt_of_lt_mul (by rw [Nat.mul_comm];omega)
 have:=H.at_ (k / T.sz) _ (List.getElem?_eq_getElem hi)
 have hd:=Nat.div_add_mod k T.sz
 have hm:=Nat.mod_lt k hS
 rw [Ci]
 refine this.one _ (List.mem_of_getElem? (i:=k % T.sz) ?_)
 rw [List.getElem?_take,if_pos hm,List.getElem?_drop,show k / T.sz*T.sz+k % T.sz=k by rw [Nat.mul_comm];exact hd]
 exact List.getElem?_eq_getElem hk
theorem wh.arr {G:Nat->Prop} {h:Array Obj} {T:Ty} {l:List T.den} {rs:List Value} (H:wh G h T l rs) {c:Nat->Option Value} {o:Nat} (hc:∀ (j:Nat) v,rs[j]? = some v->c (o+j)=some v) :
  ∀ (i:Nat) x,l[i]? = some x->∃ es,Rd G h T G x es/\∀ (j:Nat) v,es[j]? = some v->c (o+i*T.sz+j)=some v:=fun i x hx=>by
 refine ⟨_,H.at_ i x hx,fun j v hj=>?_⟩
 have hlt:j<T.sz:=by
  have:=(List.getElem?_eq_some_iff.1 hj).1
  rw [List.length_take] at this
  omega
 rw [List.getElem?_take,if_pos hlt,List.getElem?_drop] at hj
 rw [Nat.add_assoc]
 exact hc _ v hj
theorem uS {w:World} {b o:Nat} {cur:Array Value} {e:TypeId} {fz:Nat × Nat} {vs:List Value} (hg:w.heap[b]? = some (.cells cur e fz)) (hl:o+vs.length<=cur.size) :
  ∃ cur':Array Value,(w.setCells b o vs).heap[b]? = some (.cells cur' e fz)/\cur'.size=cur.size/\(∀ (j:Nat) v,vs[j]? = some v->cur'[o+j]? = some v)/\(∀ k:Nat,k<o\/o+vs.length<=k->cur'[k]? = cur[k]?) /\
   (∀ k,k ≠ b->(w.setCells b o vs).heap[k]? = w.heap[k]?)/\(w.setCells b o vs).heap.size=w.heap.size/\(w.setCells b o vs).os=w.os/\(w.setCells b o vs).tape=w.tape/\(w.setCells b o vs).output=w.output/\(w.setCells b o vs).drawn=w.drawn:=by
 rw [mH b e fz vs o cur w hg hl]
 refine ⟨_,setRow_heap w b cur _ e fz hg,by simp;omega,fun j v hj=>?_,fun k hk=>?_,fun k hk=>setRow_other w b k _ hk,setRow_size w b _,rfl,rfl,rfl,rfl⟩
 ·have hlt:j<vs.length:=(List.getElem?_eq_some_iff.1 hj).1
  simp only [List.getElem?_toArray]
  rw [List.append_assoc,List.getElem?_append_right (by simp;omega),List.getElem?_append_left (by simp;omega)]
  rw [<- hj]
  congr 1
  simp
  omega
 ·simp only [List.getElem?_toArray]
  rcases hk with hk | hk
  ·rw [List.append_assoc,List.getElem?_append_left (by simp;omega),List.getElem?_take,if_pos hk]
   simp
  ·rw [List.getElem?_append_right (by simp;omega),List.getElem?_drop]
   simp
   congr 1
   omega
section
variable {C:aZ} {f:FuncId} {fn:Func}
theorem Hw {h:Array Obj} {b:Nat} {c:Array Value} {e:TypeId} {fz:Nat × Nat} (hh:h[b]? = some (.cells c e fz)) (k:Nat):hcell h b k=c[k]?:=by unfold hcell;rw [hh]
theorem Hy {w:World} {b:Nat} {c:Array Value} {e:TypeId} {fz:Nat × Nat} (hh:w.heap[b]? = some (.cells c e fz)) (hf:Free fz c.size) {k:Nat} (hk:k<=c.size):w.frozen? ⟨b,k,none⟩=false:=by
 have h:=hf k hk
 unfold World.frozen?
 rw [hh]
 simp
 intro h1
 exact Nat.le_of_not_lt fun h2=>h ⟨h1,h2⟩
end
end Go.Flat
