/- Operations that make memory. No condition. -/
import Derived.Test.YtmocpfgfjeaelaaGreatInv2
import Derived.Great.FillDense
import Derived.Great.BuildSlice
set_option linter.unusedVariables false
set_option linter.unusedSimpArgs false
namespace Go.Flat
theorem AA {M:Mem}:∀ T:Ty,ay M (zeroCells T) (iN T)
 | .bool=>ay.jD rfl rfl ay.nil
 | .int _=>ay.jD rfl rfl ay.nil
 | .str=>ay.jD rfl rfl ay.nil
 | .list _=>ay.jD rfl rfl ay.nil
 | .aG _=>ay.jD rfl rfl ay.nil
 | .unit=>ay.nil
 | .pair a b=>(AA a).append (AA b)
theorem yD {G:Nat->Prop} {h:Array Obj}:∀ {t:Ty} {F:Nat->Prop},Rd G h t F t.dflt (iN t)
 | .bool,_=>rfl
 | .int _,_=>rfl
 | .str,_=>rfl
 | .list _,_=>⟨none,0,rfl,Nat.le_refl _,fun h=>absurd rfl h⟩
 | .aG _,_=>⟨none,0,rfl,Nat.le_refl _,fun h=>absurd rfl h⟩
 | .unit,_=>rfl
 | .pair a b,_=>⟨_,_,rfl,yD,yD⟩
theorem fH:∀ T:Ty,(iN T).length=T.sz
 | .bool=>rfl
 | .int _=>rfl
 | .str=>rfl
 | .list _=>rfl
 | .aG _=>rfl
 | .unit=>rfl
 | .pair a b=>by simp [iN,Ty.sz,fH a,fH b]
theorem jr {R:Type} {ah:FuncId->(t:Ty)->List Arg->Option t.den} {s:St} {key:Nat} {E:Entry} {κ:St->Option R} {r:R} (h:(s.alloc key E).run ah κ=some r) :
  s.aj key=none/\κ { s with aj:=upd s.aj key (some E) }=some r:=by
 unfold St.alloc at h
 split at h
 ·rename_i hn;exact ⟨hn,h⟩
 ·simp at h
def push (w:World) (c:Array Value) (e:TypeId):World:={ w with heap:=w.heap.push (.cells c e) }
theorem qL (w:World) (c:Array Value) (e:TypeId):(push w c e).heap[w.heap.size]? = some (.cells c e (0,0)):=by
 show (w.heap.push _)[w.heap.size]? = _
 rw [Array.getElem?_push,if_pos rfl]
theorem nZ (w:World) (c:Array Value) (e:TypeId) (b:Nat) (h:b<w.heap.size):(push w c e).heap[b]? = w.heap[b]?:=by
 show (w.heap.push _)[b]? = _
 rw [Array.getElem?_push,if_neg (Nat.ne_of_lt h)]
theorem Inv.UR {F0:jo} {G:Nat->Prop} {s:St} {a:Act} {w w':World} {pl:Nat->Option Pl} (i:Inv F0 G s a w pl) {key:Nat} {E:Entry} {c:Array Value} {e:TypeId} (ii:List (List (Option Pl))) (hk:s.aj key=none)
  (hw:w'.heap=(push w c e).heap) (hii:∀ id e p,s.aj id=some e->pl id=some p->∀ b ∈ e.bs p,b ∉ (⟨w.heap.size,0,c.size,ii⟩:Pl).tT)
  (hE:Inv F0 G s a w' pl->fG (mem F0 G w'.heap s.aj pl) E (some ⟨w.heap.size,0,c.size,ii⟩)) (hstr:Str F0.mono w w':=by exact ⟨rfl,rfl,rfl,fun _=>Nat.le_refl _⟩) (Cg:∀ t l n,E ≠ .arr t l (.pinned n):=by intro _ _ _ h;cases h) (Az:∀ t l n,E ≠ .deep t l (some n):=by intro _ _ _ h;cases h) :
  Inv F0 G { s with aj:=upd s.aj key (some E) } a w' (upd pl key (some ⟨w.heap.size,0,c.size,ii⟩))/\Fr F0 G w G w':=by
 obtain ⟨i',fr⟩:=i.grow (w':=w') (G':=G) (by rw [hw];show _<=(w.heap.push _).size;rw [Array.size_push];exact Nat.le_succ _) hstr (fun b hb=>by rw [hw];exact nZ w c e b hb) (fun _ h=>h) (fun _ h=>.inl h)
 refine ⟨i'.add hk (hE i') (fun id e p q he hp hq=>?_) Cg Az,fr⟩
 cases hq
 intro b hb hbq
 have h1:b ≠ w.heap.size:=Nat.ne_of_lt (i.aj.jY he hp b hb)
 have h2:b=w.heap.size\/b ∈ (⟨w.heap.size,0,c.size,ii⟩:Pl).tT:=by
  cases E with
  | box _ _=>simp only [Entry.bs,List.mem_singleton] at hbq;exact .inl hbq
  | arr _ _ _=>simp only [Entry.bs,List.mem_singleton] at hbq;exact .inl hbq
  | deep _ _ _=>simpa only [Entry.bs,Pl.bs,List.mem_cons] using hbq
 exact h2.elim h1 (hii id e p he hp b hb)
theorem Inv.new {F0:jo} {G:Nat->Prop} {s:St} {a:Act} {w w':World} {pl:Nat->Option Pl} (i:Inv F0 G s a w pl) {key:Nat} {E:Entry} {c:Array Value} {e:TypeId} (hk:s.aj key=none)
  (hw:w'.heap=(push w c e).heap) (hE:Inv F0 G s a w' pl->fG (mem F0 G w'.heap s.aj pl) E (some ⟨w.heap.size,0,c.size,[]⟩)) (hstr:Str F0.mono w w':=by exact ⟨rfl,rfl,rfl,fun _=>Nat.le_refl _⟩) (Cg:∀ t l n,E ≠ .arr t l (.pinned n):=by intro _ _ _ h;cases h) (Az:∀ t l n,E ≠ .deep t l (some n):=by intro _ _ _ h;cases h) :
  Inv F0 G { s with aj:=upd s.aj key (some E) } a w' (upd pl key (some ⟨w.heap.size,0,c.size,[]⟩))/\Fr F0 G w G w':=
 i.UR [] hk hw (fun _ _ _ _ _ _ _ h=>by simp [Pl.tT] at h) hE hstr Cg Az
theorem Inv.PN {F0:jo} {G:Nat->Prop} {s:St} {a:Act} {w:World} {pl:Nat->Option Pl} (i:Inv F0 G s a w pl):¬ (F0 w.heap.size\/G w.heap.size):=
 fun h=>Nat.lt_irrefl _ (i.aj.lt _ h)
theorem nP {sz b n m:Nat} {ii:List (List (Option Pl))} (hn:n<=m):SliceAt sz (some ⟨b,0,m*sz,ii⟩) 0 n (.slice (some ⟨b,0,none⟩) n m):=
 ⟨⟨b,0,none⟩,m,rfl,hn,fun _=>by simp,by simp⟩
section
variable {C:aZ} {ah:FuncId->(t:Ty)->List Arg->Option t.den}
 {dst:Option Tmp} {type:TypeId} {pos:String} {after:Array Edge} {guard:Option (Nat × Bool)}
theorem lG {R:Type} {P:Program} {o:Oper} {F0:jo} {G G':Nat->Prop} {s:St} {a:Act} {w w':World} {pl:Nat->Option Pl} {v:Slot} {u:Value} {κ:St->Option R} {r:R} {Q:Exit->Act->World->Prop}
  (hx:(execOp a.eval o).run P w=.ok (.value u) w') (i:Inv F0 G' s a w' pl) (fr:Fr F0 G w G' w') (hv:eY (mem F0 G' w'.heap s.aj pl) v u) (h:(s.put o.dst v).run ah κ=some r) :
  o.wp P a w (sS F0 G w κ r) Q:=by
 unfold Oper.wp
 rw [hx]
 show sS F0 G w κ r (a.put o.dst u) w'
 obtain ⟨s',h1,h2,h3,h4⟩:=rA i hv h
 exact ⟨s',G',pl,h1,h2,fr⟩
theorem EO {R:Type} {P:Program} {o:Oper} {F0:jo} {G G':Nat->Prop} {s:St} {a:Act} {w w':World} {pl:Nat->Option Pl} {κ:St->Option R} {r:R} {Q:Exit->Act->World->Prop}
  (hx:(execOp a.eval o).run P w=.ok .skip w') (i:Inv F0 G' s a w' pl) (fr:Fr F0 G w G' w') (h:(s.put o.dst .undef).run ah κ=some r) :
  o.wp P a w (sS F0 G w κ r) Q:=by
 unfold Oper.wp
 rw [hx]
 show sS F0 G w κ r (a.put o.dst undef) w'
 obtain ⟨s',h1,h2,h3,h4⟩:=rA (v:=.undef) (u:=undef) i trivial h
 exact ⟨s',G',pl,h1,h2,fr⟩
theorem Lu {VN:Bool} (x:Operand):kD C ah ⟨dst,if VN then .assign x else .move x,type,pos,after,guard⟩:=by
 intro R F0 G s a w pl κ r Q i ht h
 have hx:=i.slot x
 have gq:(execOp a.eval ⟨dst,if VN then .assign x else .move x,type,pos,after,guard⟩).run C.P w=.ok (.value (a.eval x)) w:=by cases VN <;> rfl
 have h:(match s.ev x with
  | .one (.cell .nil)=>match C.Fb type with
   | some _=>s.put dst (.cell .nil)
   | none=>match (generalizing:=false) C.elem type,dst with
    | some (_,t),some d=>(s.alloc (ak d 0) (.arr t [] .open)).bind fun s=>s.put dst (.cell (.ref (ak d 0)))
    | _,_=>s.put dst (.cell .nil)
  | v=>s.put dst v).run ah κ=some r:=by cases VN <;> exact h
 split at h
 ·rename_i hs
  rw [hs] at hx
  have hx:a.eval x=.slice none 0 0:=hx
  split at h
  ·exact bM (v:=.cell .nil) i gq hx h
  split at h
  ·rename_i t d he hd
   rw [T.run_bind] at h
   obtain ⟨hk,h⟩:=jr h
   have i':=i.add (E:=.arr t [] .open) (π:=none) hk ⟨rfl,fun p hp=>by cases hp⟩ (fun _ _ _ _ _ _ hq=>by cases hq)
   refine lG (v:=.cell (.ref (ak d 0))) gq i' (Fr.refl _ _ _) ?_ h
   refine ⟨t,[],.open,upd_same _ _ _, ?_⟩
   show SliceAt _ (upd pl _ _ _) _ _ _
   rw [upd_same]
   exact ⟨rfl,hx⟩
  ·exact bM (v:=.cell .nil) i gq hx h
 ·exact bM i gq hx h
theorem Tq (x:Operand):kD C ah ⟨dst,.move x,type,pos,after,guard⟩:=Lu (VN:=false) x
theorem PO (x:Operand):kD C ah ⟨dst,.assign x,type,pos,after,guard⟩:=Lu (VN:=true) x
theorem Good.zero {C:aZ} (good:Good C) {t:TypeId} {T:Option Ty} (h:assoc C.tt t=some T):∃ i z,C.P.info? t=some i/\i.zero=some z/\sU C.P t T=true:=by
 have hr:=good.row h
 have hz:sU C.P t T=true:=by
  cases T with
  | none=>simp only [Fy,Bool.and_eq_true] at hr;exact hr.2
  | some T=>simp only [Fy,Bool.and_eq_true] at hr;exact hr.2
 have hz':=hz
 unfold sU at hz
 cases hi:C.P.info? t with
 | none=>rw [hi] at hz;cases T <;> simp at hz
 | some i=>
  cases hzz:i.zero with
  | none=>rw [hi] at hz;simp only [Option.bind_some,hzz] at hz;cases T <;> simp at hz
  | some z=>exact ⟨i,z,rfl,hzz,hz'⟩
theorem Rv (good:Good C) (t:TypeId):kD C ah ⟨dst,.alloc t,type,pos,after,guard⟩:=by
 intro R F0 G s a w pl κ r Q i ht h
 simp only [jT] at h
 split at h
 ·rename_i ty d hty
  rw [T.run_bind] at h
  obtain ⟨hk,h⟩:=jr h
  obtain ⟨inf,z,hi,hz,hok⟩:=good.zero hty
  have hrun:(execOp a.eval ⟨some d,.alloc t,type,pos,after,guard⟩).run C.P w=.ok (.value (.pointer (some ⟨w.heap.size,0,none⟩))) (push w z.cells t):=by
   simp only [execOp,Instr.alloc,zeroValue,Sem.run_bind,run_typeInfo hi,Result.andThen_ok,hz,Sem.run_pure,newVar,newRow,run_newObj]
   rfl
  have hrel:∀ M:Mem,ay M (yw ty) z.cells.toList:=by
   intro M
   unfold sU at hok
   rw [hi] at hok
   simp only [Option.bind_some,hz] at hok
   cases ty with
   | some T=>
    simp only [yw] at hok ⊢
    rw [uh hok]
    exact AA T
   | none=>
    simp only [yw] at hok ⊢
    have hcs:z.cells=#[z]:=by cases z <;> simp [one] at hok <;> rfl
    rw [hcs]
    exact ay.jD trivial hok ay.nil
  obtain ⟨i',fr⟩:=i.new (key:=ak d 0) (E:=.box ty (yw ty)) (c:=z.cells) (e:=t) (w':=push w z.cells t) hk rfl (fun _=>
   ⟨⟨w.heap.size,0,z.cells.size,[]⟩,z.cells,t,(0,0),rfl,rfl,qL w _ _,Free.zero _,rfl,by simpa using (hrel (mem F0 G w.heap s.aj pl)).1,fun u hu=>by
    subst hu
    have h1:=(hrel (mem F0 G w.heap s.aj pl)).1
    unfold sU at hok
    rw [hi] at hok
    simp only [Option.bind_some,hz] at hok
    have h2:=uh hok
    rw [<- h1,h2,fH],hrel _,i.PN⟩)
  refine lG (v:=.cell (.ptr (ak d 0) 0)) hrun i' fr ?_ h
  refine ⟨ty,_,⟨w.heap.size,0,z.cells.size,[]⟩,upd_same _ _ _,upd_same _ _ _,rfl,rfl⟩
 ·simp at h
theorem UU (t:TypeId) (x:Operand):kD C ah ⟨dst,.box t x,type,pos,after,guard⟩:=by
 intro R F0 G s a w pl κ r Q i ht h
 simp only [jT] at h
 have hx:=i.slot x
 split at h
 ·rename_i ty d v hty hs
  rw [hs] at hx
  split at h
  ·rename_i hl
   have hl:v.known=true/\v.cells.length=QZ ty:=by simpa using hl
   rw [T.run_bind] at h
   obtain ⟨hk,h⟩:=jr h
   have hrun:(execOp a.eval ⟨some d,.box t x,type,pos,after,guard⟩).run C.P w=.ok (.value (.pointer (some ⟨w.heap.size,0,none⟩))) (push w (a.eval x).cells t):=by
    simp only [execOp,Instr.box,newVar,newRow,Sem.run_bind,run_newObj,Result.andThen_ok,Sem.run_pure]
    rfl
   obtain ⟨i',fr⟩:=i.new (key:=ak d 0) (E:=.box ty v.cells) (c:=(a.eval x).cells) (e:=t) (w':=push w (a.eval x).cells t) hk rfl (fun i'=>by
    have hv:=i'.slot x
    rw [hs] at hv
    have hrel:=eZ hl.1 hv
    refine ⟨⟨w.heap.size,0,(a.eval x).cells.size,[]⟩,(a.eval x).cells,t,(0,0),rfl,rfl,qL w _ _,Free.zero _,rfl,by simpa using hrel.1,fun u hu=>?_,hrel,i.PN⟩
    subst hu
    exact hl.2)
   exact lG (v:=.cell (.ptr (ak d 0) 0)) hrun i' fr ⟨ty,_,⟨w.heap.size,0,(a.eval x).cells.size,[]⟩,upd_same _ _ _,upd_same _ _ _,rfl,rfl⟩ h
  ·simp at h
 ·simp at h
end
end Go.Flat
