/- Tools for what the equations come to. No condition. -/
import Derived.Test.YtmocpfgfjeaelaaGreatFitF
set_option linter.unusedVariables false
set_option linter.unusedSimpArgs false
namespace Go.Flat
variable {α β:Type}
def Ev (f:Nat->Option α) (v:α):Prop:=∃ K,∀ k,K<=k->f k=some v
def E2 (f:Nat->Nat->Option α) (v:α):Prop:=∃ K M,∀ k m,K<=k->M<=m->f k m=some v
theorem Ev.ret {v:α}:Ev (fun _=>some v) v:=⟨0,fun _ _=>rfl⟩
theorem Ev.eq {F f:Nat->Option α} {v:α} (h:∀ k,F (k+1)=f k) (e:Ev f v):Ev F v:=by
 obtain ⟨K,e⟩:=e
 refine ⟨K+1,fun k hk=>?_⟩
 obtain ⟨j,rfl⟩:∃ j,k=j+1:=⟨k - 1,by omega⟩
 rw [h]
 exact e j (by omega)
theorem Ev.bind {f:Nat->Option α} {g:Nat->α->Option β} {a:α} {v:β} (h:Ev f a) (e:Ev (fun k=>g k a) v):Ev (fun k=>(f k).bind fun x=>g k x) v:=by
 obtain ⟨K,h⟩:=h
 obtain ⟨M,e⟩:=e
 refine ⟨max K M,fun k hk=>?_⟩
 show (f k).bind _=_
 rw [h k (by omega)]
 exact e k (by omega)
theorem Ev.pos {p:Prop} [d:Decidable p] {f g:Nat->Option α} {v:α} (h:p) (e:Ev f v):Ev (fun k=>if p then f k else g k) v:=by
 obtain ⟨K,e⟩:=e
 exact ⟨K,fun k hk=>by show (if p then f k else g k)=_;rw [if_pos h];exact e k hk⟩
theorem Ev.neg {p:Prop} [d:Decidable p] {f g:Nat->Option α} {v:α} (h:¬ p) (e:Ev g v):Ev (fun k=>if p then f k else g k) v:=by
 obtain ⟨K,e⟩:=e
 exact ⟨K,fun k hk=>by show (if p then f k else g k)=_;rw [if_neg h];exact e k hk⟩
theorem Ev.at {f:Nat->Option α} {v:α} (e:Ev f v):∃ k,f k=some v:=let ⟨K,h⟩:=e;⟨K,h K (Nat.le_refl _)⟩
theorem Ev.val {f:Nat->Option α} {v u:α} (e:Ev f v) (h:v=u):Ev f u:=h ▸ e
theorem E2.ret {v:α}:E2 (fun _ _=>some v) v:=⟨0,0,fun _ _ _ _=>rfl⟩
theorem E2.eq {F f:Nat->Nat->Option α} {v:α} (h:∀ k m,F k (m+1)=f k m) (e:E2 f v):E2 F v:=by
 obtain ⟨K,M,e⟩:=e
 refine ⟨K,M+1,fun k m hk hm=>?_⟩
 obtain ⟨j,rfl⟩:∃ j,m=j+1:=⟨m - 1,by omega⟩
 rw [h]
 exact e k j hk (by omega)
theorem E2.bind {f:Nat->Option α} {g:Nat->Nat->α->Option β} {a:α} {v:β} (h:Ev f a) (e:E2 (fun k m=>g k m a) v):E2 (fun k m=>(f k).bind fun x=>g k m x) v:=by
 obtain ⟨K,h⟩:=h
 obtain ⟨N,M,e⟩:=e
 refine ⟨max K N,M,fun k m hk hm=>?_⟩
 show (f k).bind _=_
 rw [h k (by omega)]
 exact e k m (by omega) hm
theorem E2.pos {p:Prop} [d:Decidable p] {f g:Nat->Nat->Option α} {v:α} (h:p) (e:E2 f v):E2 (fun k m=>if p then f k m else g k m) v:=by
 obtain ⟨K,M,e⟩:=e
 exact ⟨K,M,fun k m hk hm=>by show (if p then f k m else g k m)=_;rw [if_pos h];exact e k m hk hm⟩
theorem E2.neg {p:Prop} [d:Decidable p] {f g:Nat->Nat->Option α} {v:α} (h:¬ p) (e:E2 g v):E2 (fun k m=>if p then f k m else g k m) v:=by
 obtain ⟨K,M,e⟩:=e
 exact ⟨K,M,fun k m hk hm=>by show (if p then f k m else g k m)=_;rw [if_neg h];exact e k m hk hm⟩
theorem E2.of {f:Nat->Option α} {v:α} (e:Ev f v):E2 (fun k _=>f k) v:=let ⟨K,h⟩:=e;⟨K,0,fun k _ hk _=>h k hk⟩
theorem Ev.loop {f:Nat->Nat->Option α} {v:α} (e:E2 f v):Ev (fun k=>f k k) v:=by
 obtain ⟨K,M,e⟩:=e
 exact ⟨max K M,fun k hk=>e k k (by omega) (by omega)⟩
theorem E2.val {f:Nat->Nat->Option α} {v u:α} (e:E2 f v) (h:v=u):E2 f u:=h ▸ e
theorem dM {n:Int} (h1:-9223372036854775808<=n) (h2:n<=9223372036854775807):IntKind.wrap .i64 n=n:=by
 unfold IntKind.wrap
 simp only [IntKind.signed,IntKind.bits]
 simp
 omega
theorem bX {i:Nat} (h:i<9223372036854775807):IntKind.wrap .i64 ((i:Int)+1)=((i+1:Nat):Int):=by
 rw [dM (by omega) (by omega)];omega
theorem jf {t:Ty} {l:List t.den} {i:Nat} (h:i<l.length):rd t l (i:Int)=l[i]:=by
 unfold rd
 rw [Int.toNat_natCast,List.getD_eq_getElem?_getD,List.getElem?_eq_getElem h]
 rfl
theorem uJ {F:Int->Nat->Nat->Option Bool} {n:Nat} (Q:Nat->Prop) (hend:E2 (F (n:Int)) true)
  (hgo:∀ i,i<n->Q i->∀ v,E2 (F ((i+1:Nat):Int)) v->E2 (F (i:Int)) v) (hstop:∀ i,i<n->¬ Q i->E2 (F (i:Int)) false) :
  ∃ r,E2 (F 0) r/\(r=true ↔ ∀ i,i<n->Q i):=by
 have key:∀ d i,i+d=n->∃ r,E2 (F (i:Int)) r/\(r=true ↔ ∀ j,i<=j->j<n->Q j):=by
  intro d
  induction d with
  | zero=>
   intro i hi
   have hi:i=n:=by omega
   subst hi
   exact ⟨true,hend,by simp;omega⟩
  | succ d ih=>
   intro i hi
   obtain ⟨r,er,hr⟩:=ih (i+1) (by omega)
   by_cases hq:Q i
   ·refine ⟨r,hgo i (by omega) hq r er,hr.trans ⟨fun h j h1 h2=>?_,fun h j h1 h2=>h j (by omega) h2⟩⟩
    by_cases hj:j=i
    ·subst hj;exact hq
    ·exact h j (by omega) h2
   ·exact ⟨false,hstop i (by omega) hq,by simp;exact ⟨i,Nat.le_refl _,by omega,hq⟩⟩
 obtain ⟨r,er,hr⟩:=key n 0 (by omega)
 exact ⟨r,er,hr.trans ⟨fun h i hi=>h i (Nat.zero_le _) hi,fun h i _ hi=>h i hi⟩⟩
theorem uK {t u:Ty} {F:Int->List u.den->Nat->Nat->Option (List u.den)} {x:List t.den} (g:t.den->u.den)
  (hend:∀ y:List u.den,E2 (F (x.length:Int) y) y) (hgo:∀ (i:Nat) (y:List u.den),i<x.length->y.length=x.length->∀ v,E2 (F ((i+1:Nat):Int) (y.set i (g (rd t x (i:Int))))) v->E2 (F (i:Int) y) v)
  (y0:List u.den) (hy:y0.length=x.length):E2 (F 0 y0) (x.map g):=by
 have key:∀ d i (y:List u.den),i+d=x.length->y.length=x.length->y.take i=(x.map g).take i->E2 (F (i:Int) y) (x.map g):=by
  intro d
  induction d with
  | zero=>
   intro i y hi hl ht
   have hi:i=x.length:=by omega
   subst hi
   rw [List.take_of_length_le (by omega),List.take_of_length_le (by simp)] at ht
   rw [<- ht]
   exact hend y
  | succ d ih=>
   intro i y hi hl ht
   have hi':i<x.length:=by omega
   refine hgo i y hi' hl _ (ih (i+1) _ (by omega) (by simpa using hl) ?_)
   rw [List.take_succ_eq_append_getElem (by simp;omega),List.take_succ_eq_append_getElem (by simp;omega),List.take_set_of_le (Nat.le_refl _),ht]
   simp [jf hi']
 exact key x.length 0 y0 (by omega) hy (by simp)
def Bk:(t:Ty)->t.den->Prop
 | .list t,l=>l.length<=1048576/\∀ x ∈ l,Bk t x
 | .aG t,l=>l.length<=1048576/\∀ x ∈ l,Bk t x
 | .pair a b,x=>Bk a x.1/\Bk b x.2
 | _,_=>True
def Ty.flat:Ty->Bool
 | .list _=>false
 | .aG _=>false
 | .pair a b=>a.flat && b.flat
 | _=>true
theorem mP:∀ {t:Ty} (x:t.den),t.flat=true->Bk t x
 | .bool,_,_=>trivial
 | .int _,_,_=>trivial
 | .str,_,_=>trivial
 | .unit,_,_=>trivial
 | .list _,_,h=>by simp [Ty.flat] at h
 | .aG _,_,h=>by simp [Ty.flat] at h
 | .pair a b,x,h=>by
  simp only [Ty.flat,Bool.and_eq_true] at h
  exact ⟨mP x.1 h.1,mP x.2 h.2⟩
theorem bk_rd {t:Ty} {l:List t.den} {i:Nat} (h:Bk (.list t) l) (hi:i<l.length):Bk t (rd t l (i:Int)):=by
 rw [jf hi];exact h.2 _ (List.getElem_mem hi)
theorem Xw {t:Ty} {l:List t.den} {i:Nat} (h:Wd (.list t) l) (hi:i<l.length):Wd t (rd t l (i:Int)):=by
 rw [jf hi];exact h.2 _ (List.getElem_mem hi)
theorem yL {t:Ty} {l:List t.den} (h1:l.length<=1048576) (h2:∀ i:Nat,i<l.length->Bk t (rd t l (i:Int))):Bk (.list t) l:=by
 refine ⟨h1,fun x hx=>?_⟩
 obtain ⟨i,hi,rfl⟩:=List.mem_iff_getElem.1 hx
 have:=h2 i hi
 rwa [jf hi] at this
theorem Uj {t:Ty} {x:List t.den} {F:Int->Int->Nat->Nat->Option Int} (hend:∀ n,E2 (F (x.length:Int) n) n)
  (hgo:∀ (i:Nat),i<x.length->∀ n,0<=n->n<=1048576->(∃ v,v<0/\E2 (F (i:Int) n) v)\/∃ n',0<=n'/\n'<=n/\Bk t (rd t x (i:Int))/\∀ v,E2 (F ((i+1:Nat):Int) n') v->E2 (F (i:Int) n) v)
  (n:Int) (hn:0<=n) (hm:n<=1048576):∃ r,E2 (F 0 n) r/\(r<0\/0<=r/\r<=n/\∀ i:Nat,i<x.length->Bk t (rd t x (i:Int))):=by
 have key:∀ (d i:Nat) (n:Int),i+d=x.length->0<=n->n<=1048576->∃ r,E2 (F (i:Int) n) r/\(r<0\/0<=r/\r<=n/\∀ j:Nat,i<=j->j<x.length->Bk t (rd t x (j:Int))):=by
  intro d
  induction d with
  | zero=>
   intro i n hi hn hm
   have hi:i=x.length:=by omega
   subst hi
   exact ⟨n,hend n,.inr ⟨hn,Int.le_refl _,fun j h1 h2=>by omega⟩⟩
  | succ d ih=>
   intro i n hi hn hm
   rcases hgo i (by omega) n hn hm with ⟨v,hv,e⟩ | ⟨n',h1,h2,h3,h4⟩
   ·exact ⟨v,e,.inl hv⟩
   ·obtain ⟨r,e,h⟩:=ih (i+1) n' (by omega) h1 (by omega)
    refine ⟨r,h4 r e,h.imp id fun h=>⟨h.1,by omega,fun j h5 h6=>?_⟩⟩
    by_cases hj:j=i
    ·subst hj;exact h3
    ·exact h.2.2 j (by omega) h6
 obtain ⟨r,e,h⟩:=key x.length 0 n (by omega) hn hm
 exact ⟨r,e,h.imp id fun h=>⟨h.1,h.2.1,fun i hi=>h.2.2 i (Nat.zero_le _) hi⟩⟩
def E3 (f:Nat->Nat->Nat->Option α) (v:α):Prop:=∃ K M N,∀ k m n,K<=k->M<=m->N<=n->f k m n=some v
theorem E3.ret {v:α}:E3 (fun _ _ _=>some v) v:=⟨0,0,0,fun _ _ _ _ _ _=>rfl⟩
theorem E3.eq {F f:Nat->Nat->Nat->Option α} {v:α} (h:∀ k m n,F k (m+1) n=f k m n) (e:E3 f v):E3 F v:=by
 obtain ⟨K,M,N,e⟩:=e
 refine ⟨K,M+1,N,fun k m n hk hm hn=>?_⟩
 obtain ⟨j,rfl⟩:∃ j,m=j+1:=⟨m - 1,by omega⟩
 rw [h]
 exact e k j n hk (by omega) hn
theorem E3.bind {f:Nat->Option α} {g:Nat->Nat->Nat->α->Option β} {a:α} {v:β} (h:Ev f a) (e:E3 (fun k m n=>g k m n a) v):E3 (fun k m n=>(f k).bind fun x=>g k m n x) v:=by
 obtain ⟨K,h⟩:=h
 obtain ⟨K',M,N,e⟩:=e
 refine ⟨max K K',M,N,fun k m n hk hm hn=>?_⟩
 show (f k).bind _=_
 rw [h k (by omega)]
 exact e k m n (by omega) hm hn
theorem E3.pos {p:Prop} [d:Decidable p] {f g:Nat->Nat->Nat->Option α} {v:α} (h:p) (e:E3 f v):E3 (fun k m n=>if p then f k m n else g k m n) v:=by
 obtain ⟨K,M,N,e⟩:=e
 exact ⟨K,M,N,fun k m n hk hm hn=>by show (if p then f k m n else g k m n)=_;rw [if_pos h];exact e k m n hk hm hn⟩
theorem E3.neg {p:Prop} [d:Decidable p] {f g:Nat->Nat->Nat->Option α} {v:α} (h:¬ p) (e:E3 g v):E3 (fun k m n=>if p then f k m n else g k m n) v:=by
 obtain ⟨K,M,N,e⟩:=e
 exact ⟨K,M,N,fun k m n hk hm hn=>by show (if p then f k m n else g k m n)=_;rw [if_neg h];exact e k m n hk hm hn⟩
theorem E3.val {f:Nat->Nat->Nat->Option α} {v u:α} (e:E3 f v) (h:v=u):E3 f u:=h ▸ e
theorem E3.out {f:Nat->Nat->Option α} {v:α} (e:E2 f v):E3 (fun k _ n=>f k n) v:=let ⟨K,M,h⟩:=e;⟨K,0,M,fun k _ n hk _ hn=>h k n hk hn⟩
theorem E3.loop {f:Nat->Nat->Nat->Option α} {v:α} (e:E3 f v):E2 (fun k n=>f k k n) v:=let ⟨K,M,N,h⟩:=e;⟨max K M,N,fun k n hk hn=>h k k n (by omega) (by omega) hn⟩
theorem Df {f:Nat->Option Bool} {p:Prop} [d:Decidable p] (h:∃ r,Ev f r/\(r=true ↔ p)):Ev f (decide p):=by
 obtain ⟨r,e,hr⟩:=h
 exact e.val (by rw [Bool.eq_iff_iff,hr];simp)
theorem mD {i:Nat} (h:0<i) (h2:i<9223372036854775807):IntKind.wrap .i64 ((i:Int) - 1)=((i - 1:Nat):Int):=by
 rw [dM (by omega) (by omega)];omega
theorem kW {R:Int->Bool->Prop} {n:Nat} (Q:Nat->Prop) (c:Bool) (hend:R (n:Int) c)
  (hgo:∀ i,i<n->Q i->∀ v,R ((i+1:Nat):Int) v->R (i:Int) v) (hstop:∀ i,i<n->¬ Q i->R (i:Int) false) :
  ∃ r,R 0 r/\(r=true ↔ (∀ i,i<n->Q i)/\c=true):=by
 have key:∀ d i,i+d=n->∃ r,R (i:Int) r/\(r=true ↔ (∀ j,i<=j->j<n->Q j)/\c=true):=by
  intro d
  induction d with
  | zero=>
   intro i hi
   have hi:i=n:=by omega
   subst hi
   exact ⟨c,hend,⟨fun h=>⟨fun j _ _=>by omega,h⟩,fun h=>h.2⟩⟩
  | succ d ih=>
   intro i hi
   obtain ⟨r,er,hr⟩:=ih (i+1) (by omega)
   by_cases hq:Q i
   ·refine ⟨r,hgo i (by omega) hq r er,hr.trans ⟨fun h=>⟨fun j h1 h2=>?_,h.2⟩,fun h=>⟨fun j h1 h2=>h.1 j (by omega) h2,h.2⟩⟩⟩
    by_cases hj:j=i
    ·subst hj;exact hq
    ·exact h.1 j (by omega) h2
   ·exact ⟨false,hstop i (by omega) hq,by simp only [Bool.false_eq_true,false_iff];exact fun h=>hq (h.1 i (Nat.le_refl _) (by omega))⟩
 obtain ⟨r,er,hr⟩:=key n 0 (by omega)
 exact ⟨r,er,hr.trans ⟨fun h=>⟨fun i hi=>h.1 i (Nat.zero_le _) hi,h.2⟩,fun h=>⟨fun i _ hi=>h.1 i hi,h.2⟩⟩⟩
def yc (p:Nat->Bool) (n:Nat):Int:=match (List.range n).find? p with
 | some i=>(i:Int)
 | none=>-1
theorem sP (p:Nat->Bool) (n:Nat):(yc p n = -1/\∀ i,i<n->p i=false)\/∃ i:Nat,yc p n=(i:Int)/\i<n/\p i=true/\∀ j,j<i->p j=false:=by
 unfold yc
 cases h:(List.range n).find? p with
 | none=>
  refine .inl ⟨rfl,fun i hi=>?_⟩
  have:=List.find?_eq_none.1 h i (by simpa using hi)
  simpa using this
 | some i=>
  refine .inr ⟨i,rfl, ?_⟩
  rw [List.find?_range_eq_some] at h
  exact ⟨by simpa using h.2.1,h.1,fun j hj=>by simpa using h.2.2 j hj⟩
theorem yg {R:Int->Int->Prop} {n:Nat} (p:Nat->Bool) (hend:R (n:Int) (-1)) (hgo:∀ i,i<n->p i=false->∀ v,R ((i+1:Nat):Int) v->R (i:Int) v) (hstop:∀ i,i<n->p i=true->R (i:Int) (i:Int)) :
  R 0 (yc p n):=by
 have key:∀ d i,i+d=n->(∀ j,j<i->p j=false)->R (i:Int) (yc p n):=by
  intro d
  induction d with
  | zero=>
   intro i hi hp
   have hi:i=n:=by omega
   subst hi
   rcases sP p i with ⟨h,_⟩ | ⟨j,_,h1,h2,_⟩
   ·rw [h];exact hend
   ·rw [hp j h1] at h2;cases h2
  | succ d ih=>
   intro i hi hp
   cases hc:p i with
   | false=>
    refine hgo i (by omega) hc _ (ih (i+1) (by omega) fun j hj=>?_)
    by_cases hji:j=i
    ·rw [hji,hc]
    ·exact hp j (by omega)
   | true=>
    rcases sP p n with ⟨_,h⟩ | ⟨j,h,h1,h2,h3⟩
    ·rw [h i (by omega)] at hc;cases hc
    ·have hji:j=i:=by
      rcases Nat.lt_trichotomy j i with h' | h' | h'
      ·rw [hp j h'] at h2;cases h2
      ·exact h'
      ·rw [h3 i h'] at hc;cases hc
     rw [h,hji]
     exact hstop i (by omega) hc
 exact key n 0 (by omega) (fun j hj=>by omega)
theorem zC (p:Nat->Bool) (n:Nat):0<=yc p n ↔ ∃ i:Nat,i<n/\p i=true:=by
 rcases sP p n with ⟨h,h1⟩ | ⟨i,h,h1,h2,_⟩
 ·rw [h]
  refine ⟨fun h=>by omega,fun ⟨i,hi,hp⟩=>?_⟩
  rw [h1 i hi] at hp;cases hp
 ·rw [h]
  exact ⟨fun _=>⟨i,h1,h2⟩,fun _=>by omega⟩
theorem Qy {R:Int->Bool->Prop} {n:Nat} (Q:Nat->Prop) (hend:R (n:Int) false)
  (hgo:∀ i,i<n->¬ Q i->∀ v,R ((i+1:Nat):Int) v->R (i:Int) v) (hstop:∀ i,i<n->Q i->R (i:Int) true) :
  ∃ r,R 0 r/\(r=true ↔ ∃ i,i<n/\Q i):=by
 have key:∀ d i,i+d=n->∃ r,R (i:Int) r/\(r=true ↔ ∃ j,i<=j/\j<n/\Q j):=by
  intro d
  induction d with
  | zero=>
   intro i hi
   have hi:i=n:=by omega
   subst hi
   exact ⟨false,hend,by simp only [Bool.false_eq_true,false_iff];rintro ⟨j,h1,h2,_⟩;omega⟩
  | succ d ih=>
   intro i hi
   by_cases hq:Q i
   ·exact ⟨true,hstop i (by omega) hq,by simp only [true_iff];exact ⟨i,Nat.le_refl _,by omega,hq⟩⟩
   ·obtain ⟨r,er,hr⟩:=ih (i+1) (by omega)
    refine ⟨r,hgo i (by omega) hq r er,hr.trans ⟨fun ⟨j,h1,h2,h3⟩=>⟨j,by omega,h2,h3⟩,fun ⟨j,h1,h2,h3⟩=>?_⟩⟩
    by_cases hj:j=i
    ·subst hj;exact absurd h3 hq
    ·exact ⟨j,by omega,h2,h3⟩
 obtain ⟨r,er,hr⟩:=key n 0 (by omega)
 exact ⟨r,er,hr.trans ⟨fun ⟨j,_,h2,h3⟩=>⟨j,h2,h3⟩,fun ⟨j,h2,h3⟩=>⟨j,Nat.zero_le _,h2,h3⟩⟩⟩
theorem KN {t:Ty} {l:List t.den} {R:Int->List t.den->List t.den->Prop} (p:t.den->Bool) (hend:∀ s,R (l.length:Int) s s)
  (hyes:∀ i (s:List t.den),i<l.length->s.length<=i->p (rd t l (i:Int))=true->∀ v,R ((i+1:Nat):Int) (s++[rd t l (i:Int)]) v->R (i:Int) s v)
  (hno:∀ i (s:List t.den),i<l.length->s.length<=i->p (rd t l (i:Int))=false->∀ v,R ((i+1:Nat):Int) s v->R (i:Int) s v):R 0 [] (l.filter p):=by
 have key:∀ d i (s:List t.den),i+d=l.length->s.length<=i->R (i:Int) s (s++(l.drop i).filter p):=by
  intro d
  induction d with
  | zero=>
   intro i s hi hs
   have hi:i=l.length:=by omega
   subst hi
   rw [List.drop_length]
   simpa using hend s
  | succ d ih=>
   intro i s hi hs
   have hlt:i<l.length:=by omega
   have hd:l.drop i=rd t l (i:Int) :: l.drop (i+1):=by rw [List.drop_eq_getElem_cons hlt,jf hlt]
   rw [hd,List.filter_cons]
   cases hp:p (rd t l (i:Int)) with
   | true=>
    have:=hyes i s hlt hs hp _ (ih (i+1) (s++[rd t l (i:Int)]) (by omega) (by simp;omega))
    simpa using this
   | false=>
    have:=hno i s hlt hs hp _ (ih (i+1) s (by omega) (by omega))
    simpa using this
 have:=key l.length 0 [] (by omega) (Nat.le_refl _)
 simpa using this
theorem KO {t:Ty} {l:List t.den} {R:Int->Int->List t.den->List t.den->Prop} (q:t.den->Bool) (hend:∀ i (s:List t.den),i<=l.length->s.length=l.length->R (i:Int) (l.length:Int) s (s.take i))
  (hyes:∀ i j (s:List t.den),i<=j->j<l.length->s.length=l.length->q (rd t s (j:Int))=true->∀ v,R ((i+1:Nat):Int) ((j+1:Nat):Int) (s.set i (rd t s (j:Int))) v->R (i:Int) (j:Int) s v)
  (hno:∀ i j (s:List t.den),i<=j->j<l.length->s.length=l.length->q (rd t s (j:Int))=false->∀ v,R (i:Int) ((j+1:Nat):Int) s v->R (i:Int) (j:Int) s v)
  (r:Nat) (hr:r<l.length) (h0:∀ j,j<r->q (rd t l (j:Int))=true) (h1:q (rd t l (r:Int))=false):R (r:Int) ((r+1:Nat):Int) l (l.filter q):=by
 have key:∀ d i j (s:List t.den),j+d=l.length->i<=j->s.length=l.length->s.drop j=l.drop j->s.take i=(l.take j).filter q->R (i:Int) (j:Int) s (l.filter q):=by
  intro d
  induction d with
  | zero=>
   intro i j s hj hij hs hd ht
   have hj:j=l.length:=by omega
   subst hj
   rw [List.take_length] at ht
   rw [<- ht]
   exact hend i s hij hs
  | succ d ih=>
   intro i j s hj hij hs hd ht
   have hlt:j<l.length:=by omega
   have he:rd t s (j:Int)=rd t l (j:Int):=by
    rw [jf hlt,jf (by omega:j<s.length)]
    have:=congrArg (·[0]?) hd
    simp only [List.getElem?_drop,Nat.add_zero] at this
    rw [List.getElem?_eq_getElem hlt,List.getElem?_eq_getElem (by omega:j<s.length)] at this
    simpa using this
   have hd':s.drop (j+1)=l.drop (j+1):=by
    have:=congrArg (List.drop 1) hd
    simpa [List.drop_drop,Nat.add_comm] using this
   have htk:(l.take (j+1)).filter q=(l.take j).filter q++(if q (rd t l (j:Int)) then [rd t l (j:Int)] else []):=by
    rw [List.take_succ_eq_append_getElem hlt,List.filter_append,jf hlt]
    simp only [List.filter_cons,List.filter_nil]
   cases hq:q (rd t s (j:Int)) with
   | true=>
    refine hyes i j s hij hlt hs hq _ (ih (i+1) (j+1) _ (by omega) (by omega) (by simpa using hs) ?_ ?_)
    ·rw [List.drop_set_of_lt (by omega),hd']
    ·rw [htk,<- he,hq,if_pos rfl,<- ht,List.take_succ_eq_append_getElem (by simp;omega),List.take_set_of_le (Nat.le_refl _)]
     simp
   | false=>
    refine hno i j s hij hlt hs hq _ (ih i (j+1) s (by omega) (by omega) hs hd' ?_)
    rw [htk,<- he,hq,ht]
    simp
 refine key (l.length - (r+1)) r (r+1) l (by omega) (by omega) rfl rfl ?_
 rw [List.take_succ_eq_append_getElem hr,List.filter_append,<- jf hr]
 simp only [List.filter_cons,h1,List.filter_nil,Bool.false_eq_true,if_false,List.append_nil]
 symm
 rw [List.filter_eq_self]
 intro x hx
 obtain ⟨j,hj,rfl⟩:=List.mem_iff_getElem.1 hx
 have hj':j<r:=by simp at hj;omega
 have:=h0 j hj'
 rw [jf (by omega)] at this
 simpa using this
theorem aR {t:Ty} (l:List t.den) (i:Int) (f:t.den->t.den):(setAt t l i f).length=l.length:=by simp [setAt]
theorem oW {t:Ty} {l:List t.den} {i:Nat} (h:i<l.length) (f g:t.den->t.den):setAt t (setAt t l (i:Int) f) (i:Int) g=setAt t l (i:Int) (fun y=>g (f y)):=by
 have hr:rd t (setAt t l (i:Int) f) (i:Int)=f (rd t l (i:Int)):=by
  rw [jf (by rw [aR];exact h)]
  simp [setAt]
 show (setAt t l (i:Int) f).set _ (g (rd t (setAt t l (i:Int) f) (i:Int)))=_
 rw [hr]
 simp [setAt]
theorem yh {t:Ty} (l:List t.den) (i:Nat) (f:t.den->t.den):setAt t l (i:Int) f=l.set i (f (rd t l (i:Int))):=rfl
def marks {α:Type} (mk:Int->α) (n:Int) (len:Nat) (k0:Int):List α:=(List.range len).map fun (j:Nat)=>mk (k0+n*(j:Int))
theorem gH {α:Type} (mk:Int->α) (n:Int) (len:Nat) (k0:Int):(marks mk n len k0).length=len:=by simp [marks]
theorem OH {α:Type} (mk:Int->α) (n:Int) (len:Nat) (k0:Int):marks mk n (len+1) k0=mk k0 :: marks mk n len (k0+n):=by
 unfold marks
 rw [List.range_succ_eq_map,List.map_cons,List.map_map]
 congr 1
 ·simp
 ·refine List.map_congr_left fun j _=>?_
  simp only [Function.comp,Nat.succ_eq_add_one]
  congr 1
  rw [Int.natCast_add,Int.mul_add]
  simp
  omega
theorem uL {t:Ty} {x:List t.den} {F:Int->Int->List t.den->Nat->Nat->Option (Int × List t.den)} (mk:Int->t.den) (n:Int) (B:Int) (hn:0<=n) (hend:∀ q (s:List t.den),s.length=x.length->E2 (F q (x.length:Int) s) (q,s))
  (hgo:∀ (i:Nat) (q:Int) (s:List t.den),i<x.length->s.length=x.length->0<=q->q<=B->∀ v,E2 (F (q+n) ((i+1:Nat):Int) (s.set i (mk q))) v->E2 (F q (i:Int) s) v)
  (q0:Int) (h0:0<=q0) (hB:q0+n*x.length<=B):E2 (F q0 0 x) (q0+n*x.length,marks mk n x.length q0):=by
 have key:∀ (d i:Nat) (q:Int) (s:List t.den),i+d=x.length->s.length=x.length->0<=q->q+n*d<=B->E2 (F q (i:Int) s) (q+n*d,s.take i++marks mk n d q):=by
  intro d
  induction d with
  | zero=>
   intro i q s hi hs h0 hB
   have hi:i=x.length:=by omega
   subst hi
   refine (hend q s hs).val ?_
   rw [List.take_of_length_le (by omega)]
   simp [marks]
  | succ d ih=>
   intro i q s hi hs h0 hB
   have e1:n*((d+1:Nat):Int)=n+n*(d:Int):=by rw [Int.natCast_add,Int.mul_add];simp;omega
   have hnd:0<=n*(d:Int):=Int.mul_nonneg hn (by omega)
   refine hgo i q s (by omega) hs h0 (by omega) _ ((ih (i+1) (q+n) (s.set i (mk q)) (by omega) (by simpa using hs) (by omega) (by omega)).val ?_)
   rw [e1,OH]
   refine Prod.ext (by show q+n+n*(d:Int)=q+(n+n*(d:Int));omega) ?_
   show (s.set i (mk q)).take (i+1)++_=_
   rw [List.take_succ_eq_append_getElem (by simp;omega),List.take_set_of_le (Nat.le_refl _)]
   simp
 have:=key x.length 0 q0 x (by omega) rfl h0 hB
 simpa using this
theorem uM {t:Ty} {l:List t.den} {F:Int->Int->Nat->Nat->Option Int} (mk:Int->t.den) (n:Int) (B:Int) (hn:0<=n) (hend:∀ q,E2 (F q (l.length:Int)) q)
  (hgo:∀ (i:Nat) (q:Int),i<l.length->0<=q->q<=B->rd t l (i:Int)=mk q->∀ v,E2 (F (q+n) ((i+1:Nat):Int)) v->E2 (F q (i:Int)) v)
  (q0:Int) (h0:0<=q0) (hB:q0+n*l.length<=B) (hl:l=marks mk n l.length q0):E2 (F q0 0) (q0+n*l.length):=by
 have key:∀ (d i:Nat),i+d=l.length->E2 (F (q0+n*i) (i:Int)) (q0+n*l.length):=by
  intro d
  induction d with
  | zero=>
   intro i hi
   have hi:i=l.length:=by omega
   subst hi
   exact hend _
  | succ d ih=>
   intro i hi
   have hlt:i<l.length:=by omega
   have e1:n*((i+1:Nat):Int)=n*(i:Int)+n:=by rw [Int.natCast_add,Int.mul_add];simp
   have h1:0<=n*(i:Int):=Int.mul_nonneg hn (by omega)
   have h2:n*(i:Int)<=n*l.length:=Int.mul_le_mul_of_nonneg_left (by omega) hn
   refine hgo i (q0+n*i) hlt (by omega) (by omega) ?_ _ ?_
   ·have hm:l[i]? = some (mk (q0+n*(i:Int))):=by
     rw [hl]
     simp only [marks,List.getElem?_map]
     rw [List.getElem?_range hlt]
     rfl
    rw [jf hlt]
    rw [List.getElem?_eq_getElem hlt] at hm
    exact Option.some.inj hm
   ·have:=ih (i+1) (by omega)
    rwa [e1,<- Int.add_assoc] at this
 have:=key l.length 0 (by omega)
 simpa using this
theorem MW {t:Ty} {l:List t.den} {i:Nat} (h:i<l.length) (f:t.den->t.den):rd t (setAt t l (i:Int) f) (i:Int)=f (rd t l (i:Int)):=by
 rw [jf (by rw [aR];exact h)]
 simp [setAt]
def oD {α:Type} (mk:Int->α->α) (cnt:α->Int):List α->Int->List α
 | [],_=>[]
 | x :: r,q=>mk q x :: oD mk cnt r (q+cnt x)
def lM {α:Type} (cnt:α->Int):List α->Int
 | []=>0
 | x :: r=>cnt x+lM cnt r
theorem GR {α:Type} (mk:Int->α->α) (cnt:α->Int):∀ (l:List α) (q:Int),(oD mk cnt l q).length=l.length
 | [],_=>rfl
 | x :: r,q=>by simp [oD,GR mk cnt r]
theorem sQ {α:Type} {cnt:α->Int}:∀ {l:List α},(∀ x ∈ l,0<=cnt x)->0<=lM cnt l
 | [],_=>Int.le_refl _
 | x :: r,h=>by
  have h1:=h x (by simp)
  have h2:=sQ (l:=r) fun y hy=>h y (List.mem_cons_of_mem _ hy)
  simp only [lM];omega
theorem Py {α:Type} {cnt:α->Int} {M:Int}:∀ {l:List α},(∀ x ∈ l,cnt x<=M)->lM cnt l<=M*(l.length:Int)
 | [],_=>by simp [lM]
 | x :: r,h=>by
  have h1:=h x (by simp)
  have h2:=Py (l:=r) fun y hy=>h y (List.mem_cons_of_mem _ hy)
  have h3:M*(((x :: r).length:Nat):Int)=M*(r.length:Int)+M:=by
   rw [List.length_cons,Int.natCast_add,Int.mul_add];simp
  simp only [lM];omega
theorem yM {t:Ty} {l:List t.den} {i:Nat} (h:i<l.length):l.drop i=rd t l (i:Int) :: l.drop (i+1):=by
 rw [jf h];exact List.drop_eq_getElem_cons h
theorem OI {t:Ty} {x:List t.den} {F:Int->Int->List t.den->Nat->Nat->Option (Int × List t.den)} (mk:Int->t.den->t.den) (cnt:t.den->Int) (B:Int) (hn:∀ e ∈ x,0<=cnt e) (hend:∀ q (s:List t.den),s.length=x.length->E2 (F q (x.length:Int) s) (q,s))
  (hgo:∀ (i:Nat) (q:Int) (s:List t.den),i<x.length->s.length=x.length->rd t s (i:Int)=rd t x (i:Int)->0<=q->q+cnt (rd t x (i:Int))<=B->∀ v,E2 (F (q+cnt (rd t x (i:Int))) ((i+1:Nat):Int) (s.set i (mk q (rd t x (i:Int))))) v->E2 (F q (i:Int) s) v)
  (q0:Int) (h0:0<=q0) (hB:q0+lM cnt x<=B):E2 (F q0 0 x) (q0+lM cnt x,oD mk cnt x q0):=by
 have key:∀ (d i:Nat) (q:Int) (s:List t.den),i+d=x.length->s.length=x.length->s.drop i=x.drop i->0<=q->q+lM cnt (x.drop i)<=B->E2 (F q (i:Int) s) (q+lM cnt (x.drop i),s.take i++oD mk cnt (x.drop i) q):=by
  intro d
  induction d with
  | zero=>
   intro i q s hi hs hd h0 hB
   have hi:i=x.length:=by omega
   subst hi
   refine (hend q s hs).val ?_
   rw [List.take_of_length_le (by omega),List.drop_length]
   simp [oD,lM]
  | succ d ih=>
   intro i q s hi hs hd h0 hB
   have hlt:i<x.length:=by omega
   have hx:=yM hlt
   have hsd:=yM (t:=t) (l:=s) (i:=i) (by omega)
   have hrd:rd t s (i:Int)=rd t x (i:Int):=by rw [hsd,hx] at hd;exact (List.cons.inj hd).1
   have hdd:s.drop (i+1)=x.drop (i+1):=by rw [hsd,hx] at hd;exact (List.cons.inj hd).2
   have hc:=hn (rd t x (i:Int)) (by rw [jf hlt];exact List.getElem_mem hlt)
   have hs2:0<=lM cnt (x.drop (i+1)):=sQ fun e he=>hn e (List.mem_of_mem_drop he)
   rw [hx] at hB ⊢
   simp only [lM,oD] at hB ⊢
   refine hgo i q s hlt hs hrd h0 (by omega) _ ((ih (i+1) _ (s.set i (mk q (rd t x (i:Int)))) (by omega) (by simpa using hs) ?_ (by omega) (by omega)).val ?_)
   ·rw [List.drop_set_of_lt (by omega)];exact hdd
   ·rw [List.take_succ_eq_append_getElem (by simp;omega),List.take_set_of_le (Nat.le_refl _)]
    simp [Int.add_assoc]
 have:=key x.length 0 q0 x (by omega) rfl rfl h0 (by simpa using hB)
 simpa using this
theorem OJ {t:Ty} {x l:List t.den} {F:Int->Int->Nat->Nat->Option Int} (mk:Int->t.den->t.den) (cnt:t.den->Int) (B:Int) (hn:∀ e ∈ x,0<=cnt e) (hl:l.length=x.length) (hend:∀ q,E2 (F q (l.length:Int)) q)
  (hgo:∀ (i:Nat) (q:Int),i<x.length->0<=q->q+cnt (rd t x (i:Int))<=B->rd t l (i:Int)=mk q (rd t x (i:Int))->∀ v,E2 (F (q+cnt (rd t x (i:Int))) ((i+1:Nat):Int)) v->E2 (F q (i:Int)) v)
  (q0:Int) (h0:0<=q0) (hB:q0+lM cnt x<=B) (he:l=oD mk cnt x q0):E2 (F q0 0) (q0+lM cnt x):=by
 have key:∀ (d i:Nat) (q:Int),i+d=x.length->l.drop i=oD mk cnt (x.drop i) q->0<=q->q+lM cnt (x.drop i)<=B->E2 (F q (i:Int)) (q+lM cnt (x.drop i)):=by
  intro d
  induction d with
  | zero=>
   intro i q hi hd h0 hB
   have hi:i=l.length:=by omega
   subst hi
   refine (hend q).val ?_
   rw [hl,List.drop_length]
   simp [lM]
  | succ d ih=>
   intro i q hi hd h0 hB
   have hlt:i<x.length:=by omega
   have hx:=yM hlt
   have hld:=yM (t:=t) (l:=l) (i:=i) (by omega)
   rw [hx,hld] at hd
   simp only [oD] at hd
   obtain ⟨h1,h2⟩:=List.cons.inj hd
   have hc:=hn (rd t x (i:Int)) (by rw [jf hlt];exact List.getElem_mem hlt)
   have hs2:0<=lM cnt (x.drop (i+1)):=sQ fun e he=>hn e (List.mem_of_mem_drop he)
   rw [hx] at hB ⊢
   simp only [lM] at hB ⊢
   refine hgo i q hlt h0 (by omega) h1 _ ((ih (i+1) _ (by omega) h2 (by omega) (by omega)).val (by omega))
 have:=key x.length 0 q0 (by omega) (by simpa using he) h0 (by simpa using hB)
 simpa using this
theorem SN {q:Int} (h0:0<=q) (h1:q<=8796093022208):IntKind.wrap .i64 (q+1)=q+1:=dM (by omega) (by omega)
theorem Pz {q:Int} (h0:0<=q) (h1:q<=8796093022208) (a b:Int) (ha:0<=a/\a<=1000) (hb:b=a+1):IntKind.wrap .i64 (q+a+1)=q+b:=by
 rw [dM (by omega) (by omega)];omega
end Go.Flat
