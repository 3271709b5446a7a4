/- What reads as data of a type is typed data. No condition. -/
import Derived.Test.YtmocpfgfjeaelaaGreatDraw4
import Derived.Deep.Slices
import Derived.Carry
import Derived.WideShapes
import Derived.RowKit
import Derived.Below
set_option linter.unusedVariables false
set_option linter.unusedSimpArgs false
namespace Go.Flat
open Go.ChangeShapes Go.WideShapes Go.Deep Go.RowKit
def Wd:(t:Ty)->t.den->Prop
 | .int k,n=>(Lit.int k n).wf=true
 | .list t,l=>l.length<=maxLen/\∀ x ∈ l,Wd t x
 | .aG t,l=>l.length<=maxLen/\∀ x ∈ l,Wd t x
 | .pair a b,x=>Wd a x.1/\Wd b x.2
 | _,_=>True
def Ty.solid:Ty->Bool
 | .list t=>Nat.ble 1 t.sz && t.solid
 | .aG t=>Nat.ble 1 t.sz && t.solid
 | .pair a b=>a.solid && b.solid
 | _=>true
theorem kV {P:Program} {t:TypeId} {n:Nat} {agg:Bool} (h:nA P t n agg=true):P.cellsOf t=n:=by
 obtain ⟨i,d,hi,hn,_⟩:=mG h
 unfold Program.cellsOf
 rw [hi]
 exact hn
def MP (P:Program) (T:Ty) (t:TypeId):Prop:=
 ∀ (H:Type) (enc:TypeId × Value->H) (w:World) (base:Nat) (spare:Nat->Bool) (held:Bool) (fuel:Nat) (cs:List Value) (x:DataW H × List MemPlace),
  DataW.trod enc P w base spare held fuel t cs=some x->∃ a:T.den,Rd (·<w.heap.size) w.heap T (·<w.heap.size) a cs/\Wd T a
def MQ (P:Program) (T:Ty) (fs:List Field) (o:Nat):Prop:=
 ∀ (H:Type) (enc:TypeId × Value->H) (w:World) (base:Nat) (spare:Nat->Bool) (held:Bool) (n:Nat) (cs:List Value),cs.length=o+T.sz->
  (∀ (i:Nat) (f:Field),fs[i]? = some f->∃ x,DataW.trod enc P w base spare held n f.type ((cs.drop f.offset).take (P.cellsOf f.type))=some x)->∃ a:T.den,Rd (·<w.heap.size) w.heap T (·<w.heap.size) a (cs.drop o)/\Wd T a
theorem JE {P:Program} {o:Nat}:MQ P .unit [] o:=by
 intro H enc w base spare held n cs hl h
 refine ⟨(), ?_,trivial⟩
 show cs.drop o=[]
 rw [List.drop_eq_nil_iff]
 simp [Ty.sz] at hl
 omega
theorem GA {P:Program} {a b:Ty} {f:Field} {fs:List Field} {o:Nat} (ho:f.offset=o) (hc:P.cellsOf f.type=a.sz) (hf:MP P a f.type) (hr:MQ P b fs (o+a.sz)):MQ P (.pair a b) (f :: fs) o:=by
 intro H enc w base spare held n cs hl h
 have hl':cs.length=o+(a.sz+b.sz):=hl
 obtain ⟨x,hx⟩:=h 0 f rfl
 rw [ho,hc] at hx
 obtain ⟨x,hx,wx⟩:=hf H enc w base spare held n _ x hx
 obtain ⟨y,hy,wy⟩:=hr H enc w base spare held n cs (by omega) (fun i g hg=>h (i+1) g hg)
 refine ⟨(x,y),⟨(cs.drop o).take a.sz,cs.drop (o+a.sz), ?_,hx,hy⟩,wx,wy⟩
 rw [<- List.drop_drop,List.take_append_drop]
theorem Bd {P:Program} {T:Ty} {t:TypeId} {fs:Array Field} (ht:P.underlying t=some (.struct fs)) (hc:P.cellsOf t=T.sz) (hf:MQ P T fs.toList 0):MP P T t:=by
 intro H enc w base spare held fuel cs x h
 obtain ⟨xs,n,_,_,hl,hlen,hh⟩:=DataW.trod_struct ht h
 obtain ⟨a,ha,wa⟩:=hf H enc w base spare held n cs (by rw [hl,hc,Nat.zero_add]) (fun i f' hi=>by
  have hi':fs[i]? = some f':=by simpa using hi
  have hlt:i<xs.length:=by
   have:=(Array.getElem?_eq_some_iff.1 hi').1
   omega
  exact ⟨xs[i],by rw [hh i f' hi',List.getElem?_eq_getElem hlt]⟩)
 exact ⟨a,by simpa using ha,wa⟩
theorem DV {P:Program} {T:Ty} {t e:TypeId} (ht:P.underlying t=some (.slice e)) (hc:P.cellsOf e=T.sz) (hz:1<=T.sz) (hf:MP P T e):MP P (.list T) t:=by
 intro H enc w base spare held fuel cs x h
 rcases open_slice ht h with ⟨rfl,rfl⟩ | ⟨a,len,cap,m,n,D,Pl,rfl,hb,hl,hm,hmm,rfl,hx⟩
 ·exact ⟨[],⟨none,0,rfl,Nat.le_refl _,fun h=>absurd rfl h⟩,by simp [maxLen],by simp⟩
 ·have hlm:len<=m:=by rw [hmm];split <;> omega
  have key:∀ i,i<len->∃ v:T.den,(∃ c:List Value,c.length=T.sz/\Rd (·<w.heap.size) w.heap T (·<w.heap.size) v c/\∀ j u,c[j]? = some u->w.cell? (a.add (i*T.sz+j))=some u)/\Wd T v:=by
   intro i hi
   obtain ⟨cs',h1,h2⟩:=hx i (by omega)
   obtain ⟨v,hK,hW⟩:=hf H enc w base spare held n cs' _ h2
   obtain ⟨_,hlen,hcell⟩:=World.cells?_some h1
   rw [hc] at hlen hcell
   refine ⟨v,⟨cs',hlen,hK,fun j u hu=>?_⟩,hW⟩
   have hj:j<T.sz:=by
    have:=(List.getElem?_eq_some_iff.1 hu).1
    omega
   have:=hcell j hj
   rw [Deep.add_add] at this
   rw [this,hu]
  by_cases h0:len=0
  ·subst h0
   exact ⟨[],⟨some a,cap,rfl,Nat.zero_le _,fun h=>absurd rfl h⟩,by simp [maxLen],by simp⟩
  ·obtain ⟨v0,⟨c0,hc0,_,hcell0⟩,_⟩:=key 0 (by omega)
   have hspot:a.spot=none/\a.block<w.heap.size:=by
    obtain ⟨u,hu⟩:∃ u,c0[0]? = some u:=⟨_,List.getElem?_eq_getElem (by omega)⟩
    have:=hcell0 0 u hu
    simp only [Nat.zero_mul,Nat.add_zero,Addr.add,if_true] at this
    unfold World.cell? at this
    split at this
    ·rename_i c e fz hh
     refine ⟨?_,(Array.getElem?_eq_some_iff.1 hh).1⟩
     cases hs:a.spot with
     | none=>rfl
     | some s=>simp [hs] at this
    ·cases this
   obtain ⟨b,o,s⟩:=a
   obtain ⟨hs,hlt⟩:=hspot
   simp only at hs hlt
   subst hs
   haveI:Inhabited T.den:=⟨v0⟩
   obtain ⟨f,hf2⟩:=choose_lt key
   have hlen:((List.range len).map f).length=len:=by simp
   refine ⟨(List.range len).map f,⟨some ⟨b,o,none⟩,cap,by rw [hlen],by rw [hlen];exact hl,fun _=>⟨b,o,rfl,hlt,fun j p hp=>?_⟩⟩,by rw [hlen];omega,fun x hx=>?_⟩
   ·rw [List.getElem?_map] at hp
    obtain ⟨j',hj',rfl⟩:=Option.map_eq_some_iff.1 hp
    obtain ⟨hlt',rfl⟩:=List.getElem?_eq_some_iff.1 hj'
    simp only [List.getElem_range] at *
    obtain ⟨c,_,h1,h2⟩:=(hf2 j (by simpa using hlt')).1
    refine ⟨c,h1,fun i v hv=>?_⟩
    have:=h2 i v hv
    rw [<- pz]
    unfold Addr.add at this
    split at this
    ·rename_i hz'
     rw [show o+j*T.sz+i=o by omega]
     exact this
    ·rw [show o+j*T.sz+i=o+(j*T.sz+i) by omega]
     exact this
   ·obtain ⟨j,hj,rfl⟩:=List.mem_map.1 hx
    exact (hf2 j (List.mem_range.1 hj)).2
mutual
theorem fits {P:Program}:∀ {T:Ty} {t:TypeId},jU P T t=true->T.solid=true->MP P T t
 | .bool,t,h,_=>by
  simp only [jU,Bool.and_eq_true] at h
  obtain ⟨_,h⟩:=h
  split at h
  ·rename_i ht
   intro H enc w base spare held fuel cs x hx
   obtain ⟨n,rfl,_⟩:=DataW.trod_bool ht hx
   exact ⟨n,rfl,trivial⟩
  ·cases h
 | .int k,t,h,_=>by
  simp only [jU,Bool.and_eq_true] at h
  obtain ⟨_,h⟩:=h
  split at h
  ·rename_i k' ht
   have hk:k'=k:=by simpa using h
   subst hk
   intro H enc w base spare held fuel cs x hx
   obtain ⟨n,rfl,_,h2⟩:=DataW.trod_int ht hx
   exact ⟨n,rfl,h2⟩
  ·cases h
 | .str,t,h,_=>by
  simp only [jU,Bool.and_eq_true] at h
  obtain ⟨_,h⟩:=h
  split at h
  ·rename_i ht
   intro H enc w base spare held fuel cs x hx
   obtain ⟨n,rfl,_⟩:=DataW.trod_string ht hx
   exact ⟨n,rfl,trivial⟩
  ·cases h
 | .list a,t,h,hs=>by
  simp only [jU,Bool.and_eq_true] at h
  obtain ⟨_,h⟩:=h
  simp only [Ty.solid,Bool.and_eq_true] at hs
  split at h
  ·rename_i e ht
   exact DV ht (kV (lU h)) (by simpa using hs.1) (fits h hs.2)
  ·cases h
 | .aG a,t,h,hs=>by
  simp only [jU,Bool.and_eq_true] at h
  obtain ⟨_,h⟩:=h
  simp only [Ty.solid,Bool.and_eq_true] at hs
  split at h
  ·rename_i e ht
   intro H enc w base spare held fuel cs x hx
   obtain ⟨y,h1,h2⟩:=DV ht (kV (lU h)) (by simpa using hs.1) (fits h hs.2) H enc w base spare held fuel cs x hx
   exact ⟨y,h1,h2⟩
  ·cases h
 | .unit,t,h,_=>by
  simp only [jU,Bool.and_eq_true] at h
  obtain ⟨h0,h⟩:=h
  split at h
  ·rename_i fs ht
   simp only [Bool.and_eq_true,beq_iff_eq] at h
   have hnil:fs.toList=[]:=by
    have:=h.1.1
    rw [<- List.length_eq_zero_iff,Array.length_toList]
    exact this
   refine Bd ht (kV h0) ?_
   rw [hnil]
   exact JE
  ·cases h
 | .pair a b,t,h,hs=>by
  simp only [jU,Bool.and_eq_true] at h
  obtain ⟨h0,h⟩:=h
  simp only [Ty.solid,Bool.and_eq_true] at hs
  split at h
  ·rename_i fs ht
   simp only [Bool.and_eq_true] at h
   obtain ⟨⟨h,_⟩,_⟩:=h
   refine Bd ht (kV h0) ?_
   cases hl:fs.toList with
   | nil=>rw [hl] at h;cases h
   | cons f r=>
    rw [hl] at h
    simp only [Bool.and_eq_true,beq_iff_eq] at h
    obtain ⟨⟨⟨h1,_⟩,h2⟩,h3⟩:=h
    exact GA h1 (kV (lU h2)) (fits h2 hs.1) (by rw [Nat.zero_add];exact SH h3 hs.2)
  ·cases h
theorem SH {P:Program}:∀ {T:Ty} {fs:List Field} {o:Nat},dV P T fs o=true->T.solid=true->MQ P T fs o
 | .unit,[],o,_,_=>JE
 | .pair a b,f :: fs,o,h,hs=>by
  simp only [dV,Bool.and_eq_true,beq_iff_eq] at h
  simp only [Ty.solid,Bool.and_eq_true] at hs
  obtain ⟨⟨⟨h1,_⟩,h2⟩,h3⟩:=h
  exact GA h1 (kV (lU h2)) (fits h2 hs.1) (SH h3 hs.2)
 | .unit,_ :: _,o,h,_=>by simp [dV] at h
 | .pair _ _,[],o,h,_=>by simp [dV] at h
 | .bool,_,o,h,_=>by simp [dV] at h
 | .int _,_,o,h,_=>by simp [dV] at h
 | .str,_,o,h,_=>by simp [dV] at h
 | .list _,_,o,h,_=>by simp [dV] at h
 | .aG _,_,o,h,_=>by simp [dV] at h
end
theorem SI {P:Program} {T:Ty} {t:TypeId} (hk:jU P T t=true) (hs:T.solid=true) {H:Type} {enc:TypeId × Value->H} {w:World} {base:Nat} {spare:Nat->Bool} {held:Bool} {r:Reach} {b0:Nat} {v:Value} {x:DataW H} {p:List MemPlace}
  (hv:Value.okWide P w r b0 t v) (h:DataW.Trod enc P w base spare held t v x p):∃ a:T.den,ArgRel (·<w.heap.size) (·<w.heap.size) w.heap (.val T a) v/\Wd T a:=by
 obtain ⟨fuel,hh⟩:=h
 obtain ⟨a,hR,hW⟩:=fits hk hs H enc w base spare held fuel _ _ hh
 refine ⟨a,⟨_,(by cases T.kept <;> exact hR), ?_⟩,hW⟩
 unfold jO
 cases T with
 | unit=>
  simp only [jU,Bool.and_eq_true] at hk
  obtain ⟨_,hk⟩:=hk
  split at hk
  ·rename_i fs ht
   obtain ⟨cs,rfl,_⟩:=okWide_struct ht hv
   simp [Ty.isAgg,Value.cells]
  ·cases hk
 | pair c d=>
  simp only [jU,Bool.and_eq_true] at hk
  obtain ⟨_,hk⟩:=hk
  split at hk
  ·rename_i fs ht
   obtain ⟨cs,rfl,_⟩:=okWide_struct ht hv
   simp [Ty.isAgg,Value.cells]
  ·cases hk
 | list c=>
  simp only [jU,Bool.and_eq_true] at hk
  obtain ⟨_,hk⟩:=hk
  split at hk
  ·rename_i e ht
   obtain ⟨a',len,cap,rfl⟩:=okWide_slice ht hv
   simp [Ty.isAgg,Value.cells]
  ·cases hk
 | aG c=>
  simp only [jU,Bool.and_eq_true] at hk
  obtain ⟨_,hk⟩:=hk
  split at hk
  ·rename_i e ht
   obtain ⟨a',len,cap,rfl⟩:=okWide_slice ht hv
   simp [Ty.isAgg,Value.cells]
  ·cases hk
 | bool=>
  simp only [jU,Bool.and_eq_true] at hk
  obtain ⟨_,hk⟩:=hk
  split at hk
  ·rename_i ht
   obtain ⟨b,rfl⟩:=okWide_bool ht hv
   simp [Ty.isAgg,Value.cells]
  ·cases hk
 | int k=>
  simp only [jU,Bool.and_eq_true] at hk
  obtain ⟨_,hk⟩:=hk
  split at hk
  ·rename_i k' ht
   obtain ⟨n,rfl⟩:=okWide_int ht hv
   simp [Ty.isAgg,Value.cells]
  ·cases hk
 | str=>
  simp only [jU,Bool.and_eq_true] at hk
  obtain ⟨_,hk⟩:=hk
  split at hk
  ·rename_i ht
   obtain ⟨s,rfl⟩:=okWide_string ht hv
   simp [Ty.isAgg,Value.cells]
  ·cases hk
theorem Qq {C:aZ} (good:Good C) (DN:Kv C) {f:FuncId} {fn:Func} (hf:C.P.funcs[f]? = some fn) (hr:fn.resultTypes.size=1) {k:Nat} {args:List Arg} {vals:List Value} {w:World} (htab:Tab C w (·<w.heap.size)) (hone:FQ args) (ha:iJ (·<w.heap.size) (·<w.heap.size) w.heap args vals) (h:run C k f .bool args=some true) (hmk:(C.sig f).wI=false) :
  Calls C.P f vals.toArray w fun e w'=>e=.returned (.bool true)/\Below w.heap.size w w':=by
 obtain ⟨_,hc⟩:=SG good DN k f fn .bool args true hf h hmk
 refine (hc w (·<w.heap.size) (·<w.heap.size) vals (fun b hb=>hb) (fun b hb=>hb) htab hone ha).mono fun e w' hh=>?_
 obtain ⟨v,G',ps,he,hs,hstr,hkeep,_,_,hres,_⟩:=hh
 refine ⟨?_,hstr.1,hstr.2.1,hstr.2.2.1,hs,hkeep⟩
 obtain ⟨cs,ho,hv⟩:=hres
 have hcs:cs=[.bool true]:=ho.2
 subst hcs
 rw [hr] at hv
 have hv:v=.bool true:=by simpa [jO,Ty.isAgg,eq_comm] using hv
 rw [he,hv]
end Go.Flat
