/- Operations that change nothing but their slots. No condition. -/
import Derived.Test.YtmocpfgfjeaelaaGreatRun2
set_option linter.unusedVariables false
set_option linter.unusedSimpArgs false
namespace Go.Flat

theorem T.bind_assoc {α β γ : Type} (x : T α) (f : α → T β) (g : β → T γ) : (x.bind f).bind g = x.bind fun a => (f a).bind g := by
  induction x with
  | ret a => rfl
  | fail => rfl
  | br p d x y ihx ihy => simp only [T.bind, ihx, ihy]
  | call f t args k ih => simp only [T.bind]; congr 1; funext r; exact ih r

/-- What a value does to the state. -/
def commitT (dst : Option Tmp) (s : St) (x : Slot × List (Nat × Entry)) : T St := (allocAll s x.2).bind fun s => s.put dst x.1

theorem commit_one (dst : Option Tmp) (s : St) (v : Slot) : commitT dst s (v, []) = s.put dst v := rfl
theorem commit_new (dst : Option Tmp) (s : St) (v : Slot) (k : Nat) (e : Entry) : commitT dst s (v, [(k, e)]) = (s.alloc k e).bind fun s => s.put dst v := by
  unfold commitT
  simp only [allocAll, T.bind_assoc, T.bind_ret]

theorem buildElems_plain {s : St} {u : Ty} (hp : u.plain = true) : ∀ {parts : List (Nat × Operand)} {l l' : List u.den} {ids : List Nat}, buildElems s u parts l [] = some (l', ids) → ids = [] := by
  have key : ∀ {σ : Nat → Option Entry} {t : Ty} {cs : List Cell} {x : t.den} {rest : List Cell} {ids : List Nat}, t.plain = true → ofCells σ .keep t cs = some (x, rest, ids) → ids = [] := by
    intro σ t
    induction t with
    | list t _ => intro cs x rest ids hp; simp [Ty.plain] at hp
    | dlist t _ => intro cs x rest ids hp; simp [Ty.plain] at hp
    | pair a b iha ihb =>
      intro cs x rest ids hp h
      simp only [Ty.plain, Bool.and_eq_true] at hp
      rw [ofCells_pair] at h
      cases h1 : ofCells σ .keep a cs with
      | none => simp [h1] at h
      | some r1 =>
        obtain ⟨x1, rest1, ids1⟩ := r1
        simp only [h1] at h
        cases h2 : ofCells σ .keep b rest1 with
        | none => simp [h2] at h
        | some r2 =>
          obtain ⟨x2, rest2, ids2⟩ := r2
          simp [h2] at h
          obtain ⟨rfl, rfl, rfl⟩ := h
          rw [iha hp.1 h1, ihb hp.2 h2]
          rfl
    | bool =>
      intro cs x rest ids _ h
      cases cs with
      | nil => simp [ofCells] at h
      | cons c cs => cases c <;> simp [ofCells] at h <;> (obtain ⟨_, _, rfl⟩ := h; rfl)
    | int k =>
      intro cs x rest ids _ h
      cases cs with
      | nil => simp [ofCells] at h
      | cons c cs => cases c <;> simp [ofCells] at h; obtain ⟨_, _, _, rfl⟩ := h; rfl
    | str =>
      intro cs x rest ids _ h
      cases cs with
      | nil => simp [ofCells] at h
      | cons c cs => cases c <;> simp [ofCells] at h; obtain ⟨_, _, rfl⟩ := h; rfl
    | unit =>
      intro cs x rest ids _ h
      cases cs with
      | nil => simp [ofCells] at h; exact h.2
      | cons c cs => cases c <;> simp [ofCells] at h <;> exact h.2
  intro parts
  induction parts with
  | nil => intro l l' ids h; simp [buildElems] at h; exact h.2
  | cons p parts ih =>
    intro l l' ids h
    obtain ⟨i, x⟩ := p
    simp only [buildElems] at h
    split at h
    · split at h
      · rename_i y js hof
        split at h
        · have hjs : js = [] := by
            unfold ofCellsAll at hof
            split at hof
            · rename_i x' ids' he
              simp at hof
              obtain ⟨rfl, rfl⟩ := hof
              exact key hp he
            · cases hof
          subst hjs
          exact ih h
        · cases h
      · cases h
    · cases h

theorem mm_val {o : Oper} {g : Int → Int → Int} {k : IntKind} {s : St} : ∀ (r : List Slot) (a : Int), opT.mm o g k a r s = (mmV g k a r).bind (commitT o.dst s)
  | [], a => rfl
  | x :: r, a => by
    cases x with
    | tup _ => rfl
    | one c =>
      cases c with
      | agg _ => rfl
      | cell c =>
        cases c <;> try rfl
        case int k' b =>
          simp only [opT.mm, mmV]
          split
          · exact mm_val r _
          · rfl

theorem opT_val {C : Cfg} {o : Oper} {s : St} (h : quietOp C o = true) : opT C o s = (valT C o s).bind (commitT o.dst s) := by
  obtain ⟨dst, op, type, pos, after, guard⟩ := o
  simp only [quietOp, Bool.and_eq_true] at h
  obtain ⟨hd, h⟩ := h
  obtain ⟨d, rfl⟩ : ∃ d, dst = some d := Option.isSome_iff_exists.1 hd
  cases op <;> try (simp at h; done)
  case move x =>
    simp only [opT, valT]
    split
    · split
      · simp [commit_one]
      · split <;> simp [commit_new, commit_one]
    · simp [commit_one]
  case assign x =>
    simp only [opT, valT]
    split
    · split
      · simp [commit_one]
      · split <;> simp [commit_new, commit_one]
    · simp [commit_one]
  case pick c a b =>
    simp only [opT, valT]
    split <;> simp [commit_one, T.bind]
  case alloc t =>
    simp only [opT, valT]
    split <;> simp [commit_new]
  case box t x =>
    simp only [opT, valT]
    split
    · split <;> simp [commit_new]
    · rfl
  case build t parts =>
    simp only [opT, valT]
    split
    · split
      · split <;> simp [commit_one]
      · rfl
    · rfl
  case buildSlice t n parts =>
    cases hbr : C.brow (some d) t with
    | true =>
      simp only [opT, valT, hbr, cond_true, buildKept]
      split
      · rename_i e u d' he hd'
        cases hd'
        split
        · cases hb : buildElems s u parts.toList (List.replicate n u.dflt) [] with
          | none => rfl
          | some x =>
            obtain ⟨l, ids⟩ := x
            cases ids with
            | nil => simp [commit_one]
            | cons _ _ => rfl
        · rfl
      · rfl
    | false =>
    simp only [hbr, Bool.false_or, Bool.and_eq_true] at h
    obtain ⟨h1, h⟩ := h
    have hdn : C.dty t = none := Option.isNone_iff_eq_none.1 h1
    simp only [opT, valT, hdn, hbr, cond_false]
    split
    · rename_i e u d' he hd'
      have hp : u.plain = true := by simpa [he] using h
      split
      · cases hb : buildElems s u parts.toList (List.replicate n u.dflt) [] with
        | none => rfl
        | some x =>
          obtain ⟨l, ids⟩ := x
          have := buildElems_plain hp hb
          subst this
          simp [commit_new, freezeAll]
      · rfl
    · rfl
  case load t x =>
    have htk : C.take (some d) t = false := by simpa using h
    simp only [opT, valT, htk, cond_false]
    split
    · simp only [T.bind_assoc, T.bind_ret, commit_one]
    · rfl
  case nilCheck x =>
    simp only [opT, valT]
    split <;> simp [commit_one]
  case binOp op t x y t' =>
    simp only [opT, valT, T.bind_assoc, T.bind_ret, commit_one]
  case unOp op t x =>
    simp only [opT, valT, T.bind_assoc, T.bind_ret, commit_one]
  case convert src dt x =>
    simp only [opT, valT]
    split
    · simp [commit_one]
    · simp [commit_one]
    · split
      · simp only [T.bind_assoc, T.bind_ret, commit_one]
      · rfl
    · rfl
  case makeFunc fn first captured =>
    cases fn <;> try (simp at h; done)
    simp only [opT, valT]
    split
    · split <;> simp [commit_one]
    · rfl
  case makeSlice t l c =>
    have h : (C.dty t).isNone = true := by simpa using h
    have hdn : C.dty t = none := Option.isNone_iff_eq_none.1 h
    simp only [opT, valT, hdn, Option.isSome_none, cond_false]
    split
    · split
      · simp only [T.bind_assoc]
        congr 1
        funext x
        congr 1
        funext y
        simp only [T.test, T.bind, commit_new]
      · rfl
    · rfl
  case slice t x lo hi mx =>
    cases mx with
    | some _ => simp at h
    | none =>
      simp only [opT, valT]
      split
      · simp only [T.bind_assoc, T.bind_ret, commit_one]
      · split
        · simp only [T.bind_assoc, T.bind_ret, commit_one]
        · rfl
      · rfl
  case fieldAddr t x ix =>
    simp only [opT, valT]
    split <;> simp [commit_one]
  case field t x ix =>
    simp only [opT, valT]
    split
    · split
      · split <;> simp [commit_one]
      · rfl
    · rfl
  case indexAddr t x ix =>
    simp only [opT, valT, T.bind_assoc]
    congr 1
    funext y
    split
    · simp only [T.bind_assoc, T.bind_ret, commit_one]
    · rfl
  case index t x ix =>
    simp only [opT, valT, T.bind_assoc]
    congr 1
    funext y
    split
    · simp only [T.test, T.bind, commit_one]
    · rfl
  case extract x ix =>
    simp only [opT, valT]
    split
    · split <;> simp [commit_one]
    · rfl
  case call c =>
    obtain ⟨callee, args, argTypes⟩ := c
    cases callee with
    | invoke _ _ => simp at h
    | value g =>
      simp only [opT, valT]
      split
      · rename_i f caps vs hg hvs
        simp only [hg, hvs]
        unfold callOp callV
        cases hle : (C.sig f).lend with
        | some i1 =>
          cases g with
          | func f' =>
            simp only [St.ev, Slot.cell, Slot.one.injEq, Comp.cell.injEq, Cell.clo.injEq] at hg
            obtain ⟨rfl, _⟩ := hg
            simp [hle] at h
          | tmp z =>
            have hl : Oper.lends ⟨some d, .call ⟨.value (.tmp z), args, argTypes⟩, type, pos, after, guard⟩ C = false := by simpa using h
            simp only [hl, cond_false]
            cases hmk : (C.sig f).isMk with
            | true => cases caps <;> rfl
            | false =>
            simp only [cond_false]
            split <;> rfl
          | const z =>
            have hl : Oper.lends ⟨some d, .call ⟨.value (.const z), args, argTypes⟩, type, pos, after, guard⟩ C = false := by simpa using h
            simp only [hl, cond_false]
            cases hmk : (C.sig f).isMk with
            | true => cases caps <;> rfl
            | false =>
            simp only [cond_false]
            split <;> rfl
          | global z =>
            have hl : Oper.lends ⟨some d, .call ⟨.value (.global z), args, argTypes⟩, type, pos, after, guard⟩ C = false := by simpa using h
            simp only [hl, cond_false]
            cases hmk : (C.sig f).isMk with
            | true => cases caps <;> rfl
            | false =>
            simp only [cond_false]
            split <;> rfl
        | none =>
        simp only
        cases hio : (C.sig f).io with
        | cons i0 r0 =>
          cases g with
          | func f' =>
            simp only [St.ev, Slot.cell, Slot.one.injEq, Comp.cell.injEq, Cell.clo.injEq] at hg
            obtain ⟨rfl, _⟩ := hg
            simp [hio] at h
          | _ => rfl
        | nil =>
        simp only
        unfold callOld callVOld
        simp only
        cases hf : C.P.funcs[f]? with
        | none => rfl
        | some fn =>
          simp only
          split
          · split
            · rfl
            · simp only [T.bind, Option.getD_some]
              congr 1
          · rfl
      · rename_i hno
        split
        · rename_i f caps vs hg hvs
          exact (hno _ _ _ (by first | exact hg | exact hvs) (by first | exact hvs | exact hg)).elim
        · rfl
    | builtin b =>
      cases b <;> try (simp at h; done)
      case len =>
        simp only [opT, valT]
        split
        · split
          · simp only [T.bind_assoc, T.bind_ret, commit_one]
          · rfl
        · rfl
      case max =>
        simp only [opT, valT]
        split
        · exact mm_val _ _
        · rfl
      case min =>
        simp only [opT, valT]
        split
        · exact mm_val _ _
        · rfl

end Go.Flat
