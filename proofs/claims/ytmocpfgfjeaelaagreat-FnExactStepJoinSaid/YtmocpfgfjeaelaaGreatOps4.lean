/- Structs and slices that are written out, made; stores. No condition. -/
import Derived.Test.YtmocpfgfjeaelaaGreatOps3
import Derived.Laws.CopyRow
set_option linter.unusedVariables false
set_option linter.unusedSimpArgs false
namespace Go.Flat
theorem Ch (off:Nat) (vs:List Value) (c:Array Value) (hle:off+vs.length<=c.size) :
  ∃ c':Array Value,(vs.toArray.zipIdx.foldl (fun cs (c,j)=>cs.setIfInBounds (off+j) c) c)=c'/\c'.size=c.size/\c'.toList=c.toList.take off++vs++c.toList.drop (off+vs.length):=by
 obtain ⟨g1,g2⟩:=Great.foldl_set off vs 0 c
 refine ⟨_,rfl, ?_, ?_⟩
 ·rw [<- Array.foldl_toList,Array.toList_zipIdx]
  exact g1
 ·rw [<- Array.foldl_toList,Array.toList_zipIdx]
  apply List.ext_getElem?
  intro k
  rw [Array.getElem?_toList]
  refine (g2 k).trans ?_
  simp only [Nat.add_zero]
  by_cases h1:k<off
  ·rw [if_neg (by omega),List.append_assoc,List.getElem?_append_left (by simp;omega),List.getElem?_take,if_pos h1,Array.getElem?_toList]
  ·by_cases h2:k<off+vs.length
   ·rw [if_pos (by omega),List.append_assoc,List.getElem?_append_right (by simp;omega),List.getElem?_append_left (by simp;omega)]
    congr 1
    simp;omega
   ·rw [if_neg (by omega),List.getElem?_append_right (by simp;omega),List.getElem?_drop,<- Array.getElem?_toList]
    congr 1
    simp;omega
theorem NH {F0:jo} {G:Nat->Prop} {C:aZ} (good:Good C) {s:St} {a:Act} {w:World} {pl:Nat->Option Pl} (i:Inv F0 G s a w pl) {t:TypeId} {fs:Array Field} (hfs:C.P.underlying t=some (.struct fs))
  {places:List (Nat × Nat)} (hpl:∀ (j:Nat) (f:Field),fs[j]? = some f->∃ inf,C.P.info? f.type=some inf/\places[j]? = some (f.offset,inf.size)) :
  ∀ {parts:List (Nat × Operand)} {cs cs':List Cell} {c:Array Value},fP C s t parts cs=some cs'->ay (mem F0 G w.heap s.aj pl) cs c.toList->
   ∃ c',Instr.fill (places[·]?) c (parts.map fun x=>(x.1,a.eval x.2))=some c'/\ay (mem F0 G w.heap s.aj pl) cs' c'.toList:=by
 intro parts
 induction parts with
 | nil=>
  intro cs cs' c h hc
  simp [fP] at h
  subst h
  exact ⟨c,rfl,hc⟩
 | cons p parts ih=>
  intro cs cs' c h hc
  obtain ⟨j,x⟩:=p
  simp only [fP] at h
  split at h
  ·rename_i off u v hf hs
   split at h
   ·rename_i n agg hsh
    split at h
    ·rename_i hcond
     obtain ⟨hk,hlen,hle⟩:=hcond
     have hx:=i.slot x
     rw [hs] at hx
     have hrel:=eZ hk hx
     obtain ⟨fs',f,Wo,hfi,ho,hu⟩:=aZ.uY hf
     rw [hfs] at Wo
     cases Wo
     obtain ⟨inf,hi,hp⟩:=hpl j f hfi
     obtain ⟨Zo,d,hi',hsz,_⟩:=good.shape hsh
     rw [hu] at hi
     rw [hi] at hi'
     cases hi'
     have hvl:(a.eval x).cells.size=n:=by have:=hrel.1;simp at this;omega
     have hcl:cs.length=c.size:=by have:=hc.1;simp at this;omega
     obtain ⟨c1,hc1,hsz1,htl⟩:=Ch off (a.eval x).cells.toList c (by simp;omega)
     obtain ⟨c',wX,hrel'⟩:=ih (c:=c1) h (by rw [htl];exact hc.splice hrel off)
     refine ⟨c', ?_,hrel'⟩
     simp only [List.map_cons,Instr.fill,hp,ho,hsz]
     rw [if_neg (by simp [hvl];omega)]
     have:(a.eval x).cells.toList.toArray=(a.eval x).cells:=by simp
     rw [this] at hc1
     rw [hc1]
     exact wX
    ·cases h
   ·cases h
  ·cases h
section
variable {C:aZ} {ah:FuncId->(t:Ty)->List Arg->Option t.den}
 {dst:Option Tmp} {type:TypeId} {pos:String} {after:Array Edge} {guard:Option (Nat × Bool)}
theorem zm {P:Program}:∀ {T:Ty} {fs:List Field} {off:Nat},dV P T fs off=true->∀ f ∈ fs,∃ U,jU P U f.type=true
 | .unit,[],_,_=>fun f hf=>by simp at hf
 | .pair a b,f :: fs,off,h=>fun g hg=>by
  simp only [dV,Bool.and_eq_true] at h
  rcases List.mem_cons.1 hg with rfl | hg
  ·exact ⟨a,h.1.2⟩
  ·exact zm h.2 g hg
 | .bool,_,_,h=>by simp [dV] at h
 | .int _,_,_,h=>by simp [dV] at h
 | .str,_,_,h=>by simp [dV] at h
 | .list _,_,_,h=>by simp [dV] at h
 | .unit,_ :: _,_,h=>by simp [dV] at h
 | .pair _ _,[],_,h=>by simp [dV] at h
theorem Lx {P:Program} {T:Ty} {t:TypeId} (ha:T.isAgg=true) (h:jU P T t=true):∃ fs,P.underlying t=some (.struct fs)/\∀ f ∈ fs.toList,∃ U,jU P U f.type=true:=by
 cases T <;> simp [Ty.isAgg] at ha
 case unit=>
  simp only [jU,Bool.and_eq_true] at h
  have h2:=h.2
  split at h2
  ·rename_i fs hfs
   simp only [Bool.and_eq_true] at h2
   refine ⟨fs,hfs,fun f hf=>?_⟩
   have:fs.size=0:=by simpa using h2.1.1
   have:fs=#[]:=Array.eq_empty_of_size_eq_zero this
   subst this
   simp at hf
  ·cases h2
 case pair a b=>
  simp only [jU,Bool.and_eq_true] at h
  have h2:=h.2
  split at h2
  ·rename_i fs hfs
   simp only [Bool.and_eq_true] at h2
   refine ⟨fs,hfs, ?_⟩
   have h3:=h2.1.1
   split at h3
   ·rename_i f r hl
    simp only [Bool.and_eq_true] at h3
    intro g hg
    rw [hl] at hg
    rcases List.mem_cons.1 hg with rfl | hg
    ·exact ⟨a,h3.1.2⟩
    ·exact zm h3.2 g hg
   ·cases h3
  ·cases h2
theorem Rw (good:Good C) (t:TypeId) (parts:Array (Nat × Operand)):kD C ah ⟨dst,.build t parts,type,pos,after,guard⟩:=by
 intro R F0 G s a w pl κ r Q i ht h
 simp only [jT] at h
 split at h
 ·rename_i u hu
  split at h
  ·rename_i hagg
   split at h
   ·rename_i cs hcs
    obtain ⟨hok,_⟩:=good.ty hu
    have hty:assoc C.tt t=some (some u):=by
     unfold aZ.ty at hu
     cases ha:assoc C.tt t with
     | none=>simp [ha] at hu
     | some x=>simp [ha] at hu;rw [hu]
    obtain ⟨inf,z,hi,hz,Tt⟩:=good.zero hty
    obtain ⟨fs,hfs,Tv⟩:=Lx hagg hok
    have Tw:∃ places,fs.toList.mapM (fun f=>(C.P.info? f.type).map fun i=>(f.offset,i.size))=some places /\
      ∀ (j:Nat) (f:Field),fs.toList[j]? = some f->∃ inf,C.P.info? f.type=some inf/\places[j]? = some (f.offset,inf.size):=by
     revert Tv
     generalize fs.toList=l
     intro Tv
     induction l with
     | nil=>exact ⟨[],rfl,fun j f hj=>by simp at hj⟩
     | cons f l ih=>
      obtain ⟨U,hU⟩:=Tv f (by simp)
      obtain ⟨inf,d,Tn,_⟩:=mG (lU hU)
      obtain ⟨places,hp,hj⟩:=ih (fun g hg=>Tv g (by simp [hg]))
      refine ⟨(f.offset,inf.size) :: places, ?_,fun j g hg=>?_⟩
      ·simp [List.mapM_cons,Tn,hp]
      ·cases j with
       | zero=>simp at hg;subst hg;exact ⟨inf,Tn,rfl⟩
       | succ j=>exact hj j g (by simpa using hg)
    obtain ⟨places,hp,hj⟩:=Tw
    have hz0:ay (mem F0 G w.heap s.aj pl) (zeroCells u) z.cells.toList:=by
     unfold sU at Tt
     rw [hi] at Tt
     simp only [Option.bind_some,hz] at Tt
     rw [uh Tt]
     exact AA u
    obtain ⟨c',wX,hrel⟩:=NH good i hfs (places:=places) (fun j f hf=>hj j f (by simpa using hf)) hcs hz0
    have hb:C.P.built t ((parts.map fun (j,x)=>(j,a.eval x)).toList)=some c':=by
     unfold Program.built
     rw [hi,hfs]
     simp only [hz,hp]
     rw [Array.toList_map]
     simpa using wX
    refine bM (v:=.one (.agg cs)) (u:=.agg c') i ?_ ⟨c'.toList,by simp,hrel⟩ h
    simp only [execOp,Sem.run_bind,run_build w t _ c' hb,Result.andThen_ok,Sem.run_pure]
   ·simp at h
  ·simp at h
 ·simp at h
end
end Go.Flat
