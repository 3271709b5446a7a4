/- Structs and slices that are written out, made; stores. No condition. -/
import Derived.Test.YtmocpfgfjeaelaaGreatOps3
import Derived.Laws.CopyRow
set_option linter.unusedVariables false
set_option linter.unusedSimpArgs false
namespace Go.Flat
theorem LX (off:Nat) (vs:List Value) (c:Array Value) (hle:off+vs.length<=c.size) :
  ∃ c':Array Value,(vs.toArray.zipIdx.foldl (fun cs (c,j)=>cs.setIfInBounds (off+j) c) c)=c'/\c'.size=c.size/\c'.toList=c.toList.take off++vs++c.toList.drop (off+vs.length):=by
 obtain ⟨g1,g2⟩:=Great.foldl_set off vs 0 c
 refine ⟨_,rfl, ?_, ?_⟩
 ·rw [<- Array.foldl_toList,Array.toList_zipIdx]
  exact g1
 ·rw [<- Array.foldl_toList,Array.toList_zipIdx]
  apply List.ext_getElem?
  intro k
  rw [Array.getElem?_toList]
  refine (g2 k).trans ?_
  simp only [Nat.add_zero]
  by_cases h1:k<off
  ·rw [if_neg (by omega),List.append_assoc,List.getElem?_append_left (by simp;omega),List.getElem?_take,if_pos h1,Array.getElem?_toList]
  ·by_cases h2:k<off+vs.length
   ·rw [if_pos (by omega),List.append_assoc,List.getElem?_append_right (by simp;omega),List.getElem?_append_left (by simp;omega)]
    congr 1
    simp;omega
   ·rw [if_neg (by omega),List.getElem?_append_right (by simp;omega),List.getElem?_drop,<- Array.getElem?_toList]
    congr 1
    simp;omega
theorem Ri {F0:lS} {G:Nat->Prop} {C:dh} (good:Good C) {s:St} {a:Act} {w:World} {pl:Nat->Option Pl} (i:Inv F0 G s a w pl) {t:TypeId} {fs:Array Field} (hfs:C.P.underlying t=some (.struct fs))
  {places:List (Nat × Nat)} (hpl:∀ (j:Nat) (f:Field),fs[j]? = some f->∃ inf,C.P.info? f.type=some inf/\places[j]? = some (f.offset,inf.size)) :
  ∀ {parts:List (Nat × Operand)} {cs cs':List Cell} {c:Array Value},gM C s t parts cs=some cs'->aH (mem F0 G w.heap s.ak pl) cs c.toList->
   ∃ c',Instr.fill (places[·]?) c (parts.map fun x=>(x.1,a.eval x.2))=some c'/\aH (mem F0 G w.heap s.ak pl) cs' c'.toList:=by
 intro parts
 induction parts with
 | nil=>
  intro cs cs' c h hc
  simp [gM] at h
  subst h
  exact ⟨c,rfl,hc⟩
 | cons p parts ih=>
  intro cs cs' c h hc
  obtain ⟨j,x⟩:=p
  simp only [gM] at h
  split at h
  ·rename_i off u v hf hs
   split at h
   ·rename_i n agg hsh
    split at h
    ·rename_i hcond
     obtain ⟨hk,hlen,hle⟩:=hcond
     have hx:=i.slot x
     rw [hs] at hx
     have hrel:=gT hk hx
     obtain ⟨fs',f,aaL,hfi,ho,hu⟩:=dh.yP hf
     rw [hfs] at aaL
     cases aaL
     obtain ⟨inf,hi,hp⟩:=hpl j f hfi
     obtain ⟨adp,d,hi',hsz,_⟩:=good.shape hsh
     rw [hu] at hi
     rw [hi] at hi'
     cases hi'
     have hvl:(a.eval x).cells.size=n:=by have:=hrel.1;simp at this;omega
     have hcl:cs.length=c.size:=by have:=hc.1;simp at this;omega
     obtain ⟨c1,hc1,hsz1,htl⟩:=LX off (a.eval x).cells.toList c (by simp;omega)
     obtain ⟨c',IV,hrel'⟩:=ih (c:=c1) h (by rw [htl];exact hc.splice hrel off)
     refine ⟨c', ?_,hrel'⟩
     simp only [List.map_cons,Instr.fill,hp,ho,hsz]
     rw [if_neg (by simp [hvl];omega)]
     have:(a.eval x).cells.toList.toArray=(a.eval x).cells:=by simp
     rw [this] at hc1
     rw [hc1]
     exact IV
    ·cases h
   ·cases h
  ·cases h
section
variable {C:dh} {ah:FuncId->(t:Ty)->List Arg->Option t.den}
 {dst:Option Tmp} {type:TypeId} {pos:String} {after:Array Edge} {guard:Option (Nat × Bool)}
theorem BQ {P:Program}:∀ {T:Ty} {fs:List Field} {off:Nat},fG P T fs off=true->∀ f ∈ fs,∃ U,lT P U f.type=true
 | .unit,[],_,_=>fun f hf=>by simp at hf
 | .pair a b,f :: fs,off,h=>fun g hg=>by
  simp only [fG,Bool.and_eq_true] at h
  rcases List.mem_cons.1 hg with rfl | hg
  ·exact ⟨a,h.1.2⟩
  ·exact BQ h.2 g hg
 | .bool,_,_,h=>by simp [fG] at h
 | .int _,_,_,h=>by simp [fG] at h
 | .str,_,_,h=>by simp [fG] at h
 | .list _,_,_,h=>by simp [fG] at h
 | .unit,_ :: _,_,h=>by simp [fG] at h
 | .pair _ _,[],_,h=>by simp [fG] at h
theorem OB {P:Program} {T:Ty} {t:TypeId} (ha:T.isAgg=true) (h:lT P T t=true):∃ fs,P.underlying t=some (.struct fs)/\∀ f ∈ fs.toList,∃ U,lT P U f.type=true:=by
 cases T <;> simp [Ty.isAgg] at ha
 case unit=>
  simp only [lT,Bool.and_eq_true] at h
  have h2:=h.2
  split at h2
  ·rename_i fs hfs
   simp only [Bool.and_eq_true] at h2
   refine ⟨fs,hfs,fun f hf=>?_⟩
   have:fs.size=0:=by simpa using h2.1.1
   have:fs=#[]:=Array.eq_empty_of_size_eq_zero this
   subst this
   simp at hf
  ·cases h2
 case pair a b=>
  simp only [lT,Bool.and_eq_true] at h
  have h2:=h.2
  split at h2
  ·rename_i fs hfs
   simp only [Bool.and_eq_true] at h2
   refine ⟨fs,hfs, ?_⟩
   have h3:=h2.1.1
   split at h3
   ·rename_i f r hl
    simp only [Bool.and_eq_true] at h3
    intro g hg
    rw [hl] at hg
    rcases List.mem_cons.1 hg with rfl | hg
    ·exact ⟨a,h3.1.2⟩
    ·exact BQ h3.2 g hg
   ·cases h3
  ·cases h2
theorem Vs (good:Good C) (t:TypeId) (parts:Array (Nat × Operand)):mM C ah ⟨dst,.build t parts,type,pos,after,guard⟩:=by
 intro R F0 G s a w pl κ r Q i ht h
 simp only [mK] at h
 split at h
 ·rename_i u hu
  split at h
  ·rename_i hagg
   split at h
   ·rename_i cs hcs
    obtain ⟨hok,_⟩:=good.ty hu
    have hty:assoc C.tt t=some (some u):=by
     unfold dh.ty at hu
     cases ha:assoc C.tt t with
     | none=>simp [ha] at hu
     | some x=>simp [ha] at hu;rw [hu]
    obtain ⟨inf,z,hi,hz,Xz⟩:=good.zero hty
    obtain ⟨fs,hfs,XA⟩:=OB hagg hok
    have XB:∃ places,fs.toList.mapM (fun f=>(C.P.info? f.type).map fun i=>(f.offset,i.size))=some places /\
      ∀ (j:Nat) (f:Field),fs.toList[j]? = some f->∃ inf,C.P.info? f.type=some inf/\places[j]? = some (f.offset,inf.size):=by
     revert XA
     generalize fs.toList=l
     intro XA
     induction l with
     | nil=>exact ⟨[],rfl,fun j f hj=>by simp at hj⟩
     | cons f l ih=>
      obtain ⟨U,hU⟩:=XA f (by simp)
      obtain ⟨inf,d,Vp,_⟩:=oK (nV hU)
      obtain ⟨places,hp,hj⟩:=ih (fun g hg=>XA g (by simp [hg]))
      refine ⟨(f.offset,inf.size) :: places, ?_,fun j g hg=>?_⟩
      ·simp [List.mapM_cons,Vp,hp]
      ·cases j with
       | zero=>simp at hg;subst hg;exact ⟨inf,Vp,rfl⟩
       | succ j=>exact hj j g (by simpa using hg)
    obtain ⟨places,hp,hj⟩:=XB
    have hz0:aH (mem F0 G w.heap s.ak pl) (zeroCells u) z.cells.toList:=by
     unfold xH at Xz
     rw [hi] at Xz
     simp only [Option.bind_some,hz] at Xz
     rw [xZ Xz]
     exact DC u
    obtain ⟨c',IV,hrel⟩:=Ri good i hfs (places:=places) (fun j f hf=>hj j f (by simpa using hf)) hcs hz0
    have hb:C.P.built t ((parts.map fun (j,x)=>(j,a.eval x)).toList)=some c':=by
     unfold Program.built
     rw [hi,hfs]
     simp only [hz,hp]
     rw [Array.toList_map]
     simpa using IV
    refine dH (v:=.one (.agg cs)) (u:=.agg c') i ?_ ⟨c'.toList,by simp,hrel⟩ h
    simp only [execOp,Sem.run_bind,run_build w t _ c' hb,Result.andThen_ok,Sem.run_pure]
   ·simp at h
  ·simp at h
 ·simp at h
end
end Go.Flat
