/- Regions in the order of the text. No condition. -/
import Derived.Test.YtmocpfgfjeaelaaGreatOps10
set_option linter.unusedVariables false
set_option linter.unusedSimpArgs false
namespace Go.Flat
section
variable {C:aZ} {ah:FuncId->(t:Ty)->List Arg->Option t.den}
theorem NS {F0:jo} {G:Nat->Prop} {s:St} {a:Act} {w:World} {pl:Nat->Option Pl} (i:Inv F0 G s a w pl) {ops:Array Oper} {j d:Nat} (hd:jM ops.toList j=some d) {b:Bool}
  (hs:s.env d=.one (.cell (.bool b))):yielded ops a.tmps j=some b:=by
 have hv:=i.env d
 rw [hs] at hv
 have hv:a.tmps.getD d undef=.bool b:=hv
 unfold jM at hd
 rw [Array.getElem?_toList] at hd
 unfold yielded
 rw [hd]
 rw [Array.getD_eq_getD_getElem?] at hv
 cases h:a.tmps[d]? with
 | none=>rw [h] at hv;cases hv
 | some v=>rw [h] at hv;simp at hv;simp [h,hv]
theorem Kn {F0:jo} {G:Nat->Prop} {s:St} {a:Act} {w:World} {pl:Nat->Option Pl} (i:Inv F0 G s a w pl) {ops:Array Oper} {j d:Nat} (hd:jM ops.toList j=some d)
  (hs:s.env d=.one (.cell .void)):yielded ops a.tmps j=none:=by
 have hv:=i.env d
 rw [hs] at hv
 have hv:a.tmps.getD d undef=undef:=hv
 unfold jM at hd
 rw [Array.getElem?_toList] at hd
 unfold yielded
 rw [hd]
 rw [Array.getD_eq_getD_getElem?] at hv
 cases h:a.tmps[d]? with
 | none=>simp [h]
 | some v=>rw [h] at hv;simp at hv;simp [h,hv,undef]
theorem PY {R:Type} {F0:jo} {G:Nat->Prop} {s:St} {a:Act} {w:World} {pl:Nat->Option Pl} {κ:St->Option R} {r:R} (i:Inv F0 G s a w pl) {d:Option Tmp} (h:(gG s d).run ah κ=some r) :
  ∃ s',κ s'=some r/\Inv F0 G s' a w pl:=by
 unfold gG at h
 split at h
 ·rename_i d
  split at h
  ·rename_i p dec hs
   have hv:=i.env d
   rw [hs] at hv
   have hv:a.tmps.getD d undef=.bool (@decide p dec):=hv
   have key:∀ b:Bool,@decide p dec=b->Inv F0 G { s with env:=upd s.env d (.cell (.bool b)) } a w pl:=fun b hb=>
    ⟨i.size,fun t=>by
     show eY (mem F0 G w.heap s.aj pl) (upd s.env d (.cell (.bool b)) t) _
     by_cases ht:t=d
     ·subst ht
      rw [upd_same]
      show a.tmps.getD t undef=.bool b
      rw [hv,hb]
     ·rw [upd_ne _ _ ht];exact i.env t,i.aj,i.defers⟩
   simp only [T.run] at h
   cases dec with
   | isTrue hp=>exact ⟨_,h,key true rfl⟩
   | isFalse hp=>exact ⟨_,h,key false rfl⟩
  ·exact ⟨s,h,i⟩
 ·exact ⟨s,h,i⟩
theorem step_ok {R:Type} {F0:jo} {G:Nat->Prop} {s:St} {a:Act} {w:World} {pl:Nat->Option Pl} {κ:St->Option R} {r:R} {Q:Exit->Act->World->Prop} {ops:Array Oper} {o:Oper} {j:Nat} (ho:ops[j]? = some o) (hop:kD C ah o)
  (i:Inv F0 G s a w pl) (ht:qz C w F0) (h:(stepT C ops.toList j o s).run ah κ=some r):wpOp C.P ops Q j (sS F0 G w κ r) a w:=by
 have go:((jT C o s).bind fun s=>bif iX ops.toList j then gG s o.dst else .ret s).run ah κ=some r->o.wp C.P a w (sS F0 G w κ r) Q:=by
  intro h
  rw [T.run_bind] at h
  refine Oper.wp_mono (fun a' w' hn=>?_) (hop i ht h)
  obtain ⟨s',G',kK,hk,i',fr⟩:=hn
  cases hg:iX ops.toList j with
  | false=>
   rw [hg] at hk
   exact ⟨s',G',kK,hk,i',fr⟩
  | true=>
   rw [hg] at hk
   obtain ⟨s'',hk',Ur⟩:=PY i' hk
   exact ⟨s'',G',kK,hk',Ur,fr⟩
 have skip:(s.put o.dst (.cell .void)).run ah κ=some r->sS F0 G w κ r (a.put o.dst undef) w:=by
  intro h
  obtain ⟨s',hk,i',_⟩:=rA (v:=.cell .void) (u:=undef) i rfl h
  exact ⟨s',G,pl,hk,i',Fr.refl _ _ _⟩
 unfold wpOp
 rw [ho]
 unfold stepT at h
 simp only at h ⊢
 split at h
 ·rename_i hg
  have:Region.wanted o (yielded ops a.tmps)=true:=by unfold Region.wanted;rw [hg]
  rw [if_pos this]
  exact .inl (go h)
 ·rename_i j' want hg
  split at h
  ·rename_i d hd
   split at h
   ·rename_i b hs
    have hy:=NS i hd hs
    have hw:Region.wanted o (yielded ops a.tmps)=(b == want):=by unfold Region.wanted;rw [hg];simp [hy]
    cases hbw:(b == want) with
    | true=>
     rw [hbw] at h hw
     rw [if_pos hw]
     exact .inl (go h)
    | false=>
     rw [hbw] at h hw
     rw [if_neg (by rw [hw];simp)]
     exact skip h
   ·rename_i hs
    have hy:=Kn i hd hs
    have hw:Region.wanted o (yielded ops a.tmps)=false:=by unfold Region.wanted;rw [hg];simp [hy]
    rw [if_neg (by rw [hw];simp)]
    exact skip h
   ·simp at h
  ·simp at h
theorem sS.trans {R:Type} {F0:jo} {G G1:Nat->Prop} {w w1:World} {κ:St->Option R} {r:R} (fr:Fr F0 G w G1 w1) {a':Act} {w':World} (h:sS F0 G1 w1 κ r a' w'):sS F0 G w κ r a' w':=by
 obtain ⟨s',G',kK,hk,i',fr'⟩:=h
 exact ⟨s',G',kK,hk,i',fr.trans fr'⟩
theorem RN {R:Type} {F0:jo} {κ:St->Option R} {r:R} {Q:Exit->Act->World->Prop} {ops:Array Oper} (hop:∀ o ∈ ops,kD C ah o) :
  ∀ {l:List (Oper × Nat)} (hl:∀ o j,(o,j) ∈ l->ops[j]? = some o) {G:Nat->Prop} {s:St} {a:Act} {w:World} {pl:Nat->Option Pl},Inv F0 G s a w pl->qz C w F0->(BS C ops.toList l s).run ah κ=some r->
   (∀ a' w',sS F0 G w κ r a' w'->Q .normal a' w')->wpOps C.P ops Q (l.map (·.2)) a w
 | [],hl,G,s,a,w,pl,i,ht,h,hQ=>hQ a w ⟨s,G,pl,h,i,Fr.refl _ _ _⟩
 | (o,j) :: l,hl,G,s,a,w,pl,i,ht,h,hQ=>by
  have ho:=hl o j (by simp)
  simp only [BS,T.run_bind] at h
  rw [List.map_cons,wpOps_cons]
  refine wpOp_mono (fun a' w' hn=>?_) (step_ok ho (hop o (Array.mem_of_getElem? ho)) i ht h)
  obtain ⟨s',G',kK,hk,i',fr⟩:=hn
  exact RN hop (fun o j h=>hl o j (by simp [h])) i' (ht.fr fr) hk (fun a'' w'' hn'=>hQ a'' w'' (hn'.trans fr))
theorem PZ {R:Type} {F0:jo} {G:Nat->Prop} {s:St} {a:Act} {w:World} {pl:Nat->Option Pl} {κ:St->Option R} {r:R} {Q:Exit->Act->World->Prop} {ops:Array Oper} {id:Nat} (hop:∀ o ∈ ops,kD C ah o)
  (i:Inv F0 G s a w pl) (ht:qz C w F0) (h:(BS C ops.toList ops.toList.zipIdx s).run ah κ=some r) (hQ:∀ a' w',sS F0 G w κ r a' w'->Q .normal a' w'):(Code.region id ops false).wp C.P Q a w:=by
 refine wp_region ?_
 have:=RN (Q:=Q) hop (l:=ops.toList.zipIdx) (fun o j hm=>by
  obtain ⟨h1,h2⟩:=List.mem_zipIdx' hm
  rw [<- Array.getElem?_toList,h2]
  exact List.getElem?_eq_getElem h1) i ht h hQ
 have hr:ops.toList.zipIdx.map (·.2)=List.range ops.size:=by
  rw [List.zipIdx_map_snd]
  simp [List.range_eq_range']
 rw [hr] at this
 exact this
end
end Go.Flat
