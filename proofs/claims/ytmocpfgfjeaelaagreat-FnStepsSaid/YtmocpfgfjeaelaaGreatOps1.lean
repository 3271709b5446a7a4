/- The operations that leave memory. No condition. -/
import Derived.Test.YtmocpfgfjeaelaaGreatInv
import Derived.Laws.StructEq
import Derived.Laws.Cells
import Derived.Laws.Tables
set_option linter.unusedVariables false
set_option linter.unusedSimpArgs false
namespace Go.Flat
def uY : TypeDesc -> Bool
 | .struct _ | .array _ _ => true
 | _ => false
def oU (P : Program) (t : TypeId) (n : Nat) (agg : Bool) : Bool :=
 match P.info? t, P.underlying t with
 | some i, some d => i.size == n && uY d == agg
 | _, _ => false
def jK : Ty -> List Value
 | .bool => [.bool false]
 | .int k => [.int k 0]
 | .str => [.string ByteArray.empty]
 | .list _ => [.slice none 0 0]
 | .dh _ => [.slice none 0 0]
 | .unit => []
 | .pair a b => jK a ++ jK b
mutual
def kZ (P : Program) : Ty -> TypeId -> Bool
 | .bool, t => oU P t 1 false && (match P.underlying t with | some .bool => true | _ => false)
 | .int k, t => oU P t 1 false && (match P.underlying t with | some (.int k') => decide (k' = k) | _ => false)
 | .str, t => oU P t 1 false && (match P.underlying t with | some .string => true | _ => false)
 | .list a, t => oU P t 1 false && (match P.underlying t with | some (.slice e) => kZ P a e | _ => false)
 | .dh a, t => oU P t 1 false && (match P.underlying t with | some (.slice e) => kZ P a e | _ => false)
 | .unit, t => oU P t 0 true && (match P.underlying t with | some (.struct fs) => fs.size == 0 && !P.stoodInHeld t && !P.eqGuardType P.depth t | _ => false)
 | .pair a b, t => oU P t (a.sz + b.sz) true && (match P.underlying t with | some (.struct fs) => (match fs.toList with | f :: r => f.offset == 0 && f.name != "_" && kZ P a f.type && fI P b r a.sz | [] => false) && !P.stoodInHeld t && !P.eqGuardType P.depth t | _ => false)
def fI (P : Program) : Ty -> List Field -> Nat -> Bool
 | .unit, [], _ => true
 | .pair a b, f :: fs, off => f.offset == off && f.name != "_" && kZ P a f.type && fI P b fs (off + a.sz)
 | _, _, _ => false
end
def Uv : Value -> Value -> Bool
 | .bool a, .bool b => a == b
 | .int k a, .int k' b => decide (k = k') && decide (a = b)
 | .string a, .string b => decide (a.data.toList = b.data.toList)
 | .slice none 0 0, .slice none 0 0 => true
 | _, _ => false
def DN : List Value -> List Value -> Bool
 | [], [] => true
 | x :: xs, y :: ys => Uv x y && DN xs ys
 | _, _ => false
theorem Uw {x y : Value} (h : Uv x y = true) : x = y := by
 unfold Uv at h
 split at h
 ·simpa using h
 ·simp at h; rw [h.1, h.2]
 ·rename_i a b
  simp at h
  obtain ⟨⟨x⟩⟩ := a
  obtain ⟨⟨y⟩⟩ := b
  simp at h
  rw [h]
 ·rfl
 ·cases h
theorem xD : ∀ {xs ys : List Value}, DN xs ys = true -> xs = ys
 | [], [], _ => rfl
 | x :: xs, y :: ys, h => by
  simp only [DN, Bool.and_eq_true] at h
  rw [Uw h.1, xD h.2]
 | [], _ :: _, h => by simp [DN] at h
 | _ :: _, [], h => by simp [DN] at h
def wN (P : Program) (t : TypeId) (T : Option Ty) : Bool :=
 match (P.info? t).bind (·.zero), T with
 | some z, some T => DN z.cells.toList (jK T)
 | some z, none => one z
 | none, _ => false
def GL (P : Program) : Nat × Option Ty -> Bool
 | (t, some T) => kZ P T t && wN P t (some T)
 | (t, none) => oU P t 1 false && wN P t none
structure Good (C : dA) : Prop where
 rows : C.tt.all (GL C.P) = true
 names : (C.P.funcs.all fun f => f.name != "runtime.NumGoroutine") = true
 mixed : C.P.follows .mixedOrders = true
theorem Kw {α : Type} : ∀ {l : List (Nat × α)} {n : Nat} {v : α}, assoc l n = some v -> (n, v) ∈ l
 | (k, u) :: r, n, v, h => by
  simp only [assoc] at h
  cases hb : Nat.beq k n with
  | true =>
   simp [hb] at h
   subst h
   rw [Nat.eq_of_beq_eq_true hb]
   exact List.mem_cons_self
  | false =>
   simp [hb] at h
   exact List.mem_cons_of_mem _ (Kw h)
theorem nT {P : Program} {t : TypeId} {n : Nat} {agg : Bool} (h : oU P t n agg = true) :
  ∃ i d, P.info? t = some i /\ i.size = n /\ P.underlying t = some d /\ uY d = agg := by
 unfold oU at h
 split at h
 ·rename_i i d hi hd
  simp at h
  exact ⟨i, d, hi, h.1, hd, h.2⟩
 ·cases h
theorem nI {P : Program} {T : Ty} {t : TypeId} (h : kZ P T t = true) : oU P t T.sz T.isAgg = true := by
 cases T <;> simp only [kZ, Bool.and_eq_true] at h <;> exact h.1
section
variable {C : dA} (good : Good C)
include good
theorem Good.row {t : TypeId} {T : Option Ty} (h : assoc C.tt t = some T) : GL C.P (t, T) = true :=
 List.all_eq_true.1 good.rows _ (Kw h)
theorem Good.ty {t : TypeId} {T : Ty} (h : C.ty t = some T) : kZ C.P T t = true /\ wN C.P t (some T) = true := by
 unfold dA.ty at h
 cases ha : assoc C.tt t with
 | none => simp [ha] at h
 | some x =>
  simp [ha] at h
  subst h
  have := good.row ha
  simpa [GL] using this
theorem Good.shape {t : TypeId} {n : Nat} {agg : Bool} (h : C.shape t = some (n, agg)) :
  ∃ i d, C.P.info? t = some i /\ i.size = n /\ C.P.underlying t = some d /\ uY d = agg := by
 unfold dA.shape at h
 cases ha : assoc C.tt t with
 | none => simp [ha] at h
 | some x =>
  have hr := good.row ha
  cases x with
  | none =>
   simp [ha] at h
   obtain ⟨rfl, rfl⟩ := h
   simp only [GL, Bool.and_eq_true] at hr
   exact nT hr.1
  | some T =>
   simp [ha] at h
   obtain ⟨rfl, rfl⟩ := h
   simp only [GL, Bool.and_eq_true] at hr
   exact nT (nI hr.1)
end
theorem Am {P : Program} {t : TypeId} {d : TypeDesc} (h : P.underlying t = some d) (w : World) : (isAgg t).run P w = .ok (uY d) w := by
 unfold isAgg
 rw [Sem.run_bind, run_underlying h]
 cases d <;> rfl
theorem run_typeInfo {P : Program} {t : TypeId} {i : TypeInfo} (h : P.info? t = some i) (w : World) : (typeInfo t).run P w = .ok i w := by
 simp only [typeInfo, Sem.run_bind, run_program, Result.andThen_ok]
 rw [show P.info? t = some i from h]
 rfl
theorem run_sizeOf {P : Program} {t : TypeId} {i : TypeInfo} (h : P.info? t = some i) (w : World) : (sizeOf t).run P w = .ok i.size w := by
 simp only [sizeOf, Sem.run_bind, run_typeInfo h, Result.andThen_ok, Sem.run_pure]
theorem vw (b o n : Nat) : (⟨b, o, none⟩ : Addr).add n = ⟨b, o + n, none⟩ := by
 unfold Addr.add
 split
 ·rename_i h; rw [h, Nat.add_zero]
 ·rfl
theorem GN {C : dA} (good : Good C) {t : TypeId} {n : Nat} {agg : Bool} (hs : C.shape t = some (n, agg)) {w : World} {b o : Nat} {es : List Value} {v : Value}
  (hc : ∀ j u, es[j]? = some u -> hcell w.heap b (o + j) = some u) (hn : es.length = n) (hv : kM agg es v) :
  (Instr.loadAt t (.pointer (some ⟨b, o, none⟩))).run C.P w = .ok v w := by
 obtain ⟨i, d, hi, hsz, hd, hagg⟩ := good.shape hs
 unfold Instr.loadAt
 simp only [Instr.sureAddr, Sem.run_bind, Sem.run_pure, Result.andThen_ok]
 unfold loadVar
 rw [Sem.run_bind, Am hd, hagg]
 cases agg with
 | true =>
  have hl := run_loadCells_list (P := C.P) w ⟨b, o, none⟩ es (fun j u hu => by rw [vw, mX]; exact hc j u hu)
  simp only [kM, if_true] at hv
  simp only [Result.andThen_ok, if_true, Sem.run_bind, run_sizeOf hi, hsz, <- hn, hl, Sem.run_pure, hv]
 | false =>
  simp [kM] at hv
  subst hv
  have h0 := hc 0 v rfl
  simp only [Result.andThen_ok, Bool.false_eq_true, if_false, run_load]
  rw [mX]
  rw [Nat.add_zero] at h0
  rw [h0]
section
variable {R : Type} {C : dA} {ah : FuncId -> (t : Ty) -> List Arg -> Option t.den} {F0 : lH} {G : Nat -> Prop} {s : St} {a : Act} {w : World} {pl : Nat -> Option Pl} {κ : St -> Option R} {r : R} {Q : Exit -> Act -> World -> Prop}
 {dst : Option Tmp} {type : TypeId} {pos : String} {after : Array Edge} {guard : Option (Nat × Bool)}
def lQ (C : dA) (ah : FuncId -> (t : Ty) -> List Arg -> Option t.den) (o : Oper) : Prop :=
 ∀ ⦃R : Type⦄ ⦃F0 : lH⦄ ⦃G : Nat -> Prop⦄ ⦃s : St⦄ ⦃a : Act⦄ ⦃w : World⦄ ⦃pl : Nat -> Option Pl⦄ ⦃κ : St -> Option R⦄ ⦃r : R⦄ ⦃Q : Exit -> Act -> World -> Prop⦄,
  Inv F0 G s a w pl -> vY C w F0 -> (lN C o s).run ah κ = some r -> o.wp C.P a w (zu F0 G w κ r) Q
theorem Wx (op : UnOp) (t : TypeId) (x : Operand) : lQ C ah ⟨dst, .unOp op t x, type, pos, after, guard⟩ := by
 intro R F0 G s a w pl κ r Q i ht h
 simp only [lN, St.comp, T.run_bind] at h
 have hx := i.slot x
 cases hs : s.ev x with
 | Co cs => simp [hs] at h
 | one c =>
  simp only [hs, T.gu] at h
  rw [hs] at hx
  replace hx : eX _ c (a.eval x) := hx
  cases c with
  | agg cs => cases op <;> simp [unOp] at h
  | cell c =>
   replace hx : fE _ c (a.eval x) := hx
   have key : ∀ (c' : Cell) (u : Value), (Op.unary op (a.eval x)).run C.P w = .ok u w -> fE (mem F0 G w.heap s.ak pl) c' u -> (s.put dst (.cell c')).run ah κ = some r ->
     Oper.wp C.P ⟨dst, .unOp op t x, type, pos, after, guard⟩ a w (zu F0 G w κ r) Q := fun c' u h1 h2 h3 =>
    dL (v := .cell c') (u := u) i (by simp only [execOp, Sem.run_bind, h1, Result.andThen_ok, Sem.run_pure]) h2 h3
   cases op <;> cases c <;> simp [unOp] at h
   case neg.int k n =>
    refine key (.int k (k.wrap (-n))) (.int k (k.wrap (-n))) ?_ rfl h
    rw [show a.eval x = .int k n from hx]
    simp [Op.unary, Op.intArith]
   case not.bool b =>
    refine key (.bool (!b)) (.bool (!b)) ?_ rfl h
    rw [show a.eval x = .bool b from hx]
    simp [Op.unary]
   case not.prop p d =>
    refine key _ (.bool (!@decide p d)) ?_ ?_ h
    ·rw [show a.eval x = .bool (@decide p d) from hx]
     simp [Op.unary]
    ·show Value.bool _ = .bool _
     congr 1
     cases d with
     | isTrue h => rfl
     | isFalse h => rfl
theorem Wy (c x y : Operand) : lQ C ah ⟨dst, .pick c x y, type, pos, after, guard⟩ := by
 intro R F0 G s a w pl κ r Q i ht h
 simp only [lN] at h
 have hc := i.slot c
 have hx := i.slot x
 have hy := i.slot y
 have key : ∀ b : Bool, a.eval c = .bool b -> (s.put dst (if b then s.ev x else s.ev y)).run ah κ = some r -> Oper.wp C.P ⟨dst, .pick c x y, type, pos, after, guard⟩ a w (zu F0 G w κ r) Q := by
  intro b hb hk
  refine dL (v := if b then s.ev x else s.ev y) (u := if b then a.eval x else a.eval y) i ?_ ?_ hk
  ·simp [execOp, hb, asBool]
  ·cases b
   ·exact hy
   ·exact hx
 split at h
 ·rename_i hs; rw [hs] at hc; exact key true hc h
 ·rename_i hs; rw [hs] at hc; exact key false hc h
 ·rename_i p d hs
  rw [hs] at hc
  simp only [T.run] at h
  cases d with
  | isTrue hp => exact key true hc h
  | isFalse hp => exact key false hc h
 ·simp at h
theorem Pk (x : Operand) (ix : Nat) : lQ C ah ⟨dst, .extract x ix, type, pos, after, guard⟩ := by
 intro R F0 G s a w pl κ r Q i ht h
 simp only [lN] at h
 have hx := i.slot x
 split at h
 ·rename_i cs hs
  rw [hs] at hx
  obtain ⟨vs, hv, hl, hc⟩ := hx
  split at h
  ·rename_i c hci
   have hlt : ix < vs.length := by rw [hl]; exact (List.getElem?_eq_some_iff.1 hci).1
   refine dL (v := .one c) (u := vs[ix]) i ?_ (hc ix c _ hci (by simp [hlt])) h
   simp [execOp, Instr.extract, hv, hlt]
  ·simp at h
 ·simp at h
theorem MV (x : Operand) : lQ C ah ⟨dst, .nilCheck x, type, pos, after, guard⟩ := by
 intro R F0 G s a w pl κ r Q i ht h
 simp only [lN] at h
 have hx := i.slot x
 split at h
 ·rename_i id off hs
  rw [hs] at hx
  obtain ⟨t, cs, p, h1, h2, h3, hv⟩ := hx
  refine dL (v := .cell (.ptr id off)) (u := a.eval x) i ?_ ⟨t, cs, p, h1, h2, h3, hv⟩ h
  simp [execOp, hv]
 ·rename_i id j off hs
  rw [hs] at hx
  obtain ⟨t, l, o, p, h1, h2, h3, hv⟩ := hx
  refine dL (v := .cell (.lD id j off)) (u := a.eval x) i ?_ ⟨t, l, o, p, h1, h2, h3, hv⟩ h
  simp [execOp, hv]
 ·rename_i fr t y off hs
  rw [hs] at hx
  obtain ⟨b, o, es, hv, h1⟩ := hx
  refine dL (v := .cell (.pF fr t y off)) (u := a.eval x) i ?_ ⟨b, o, es, hv, h1⟩ h
  simp [execOp, hv]
 ·rename_i id j off hs
  rw [hs] at hx
  obtain ⟨t, l, o, p, h1, h2, h3, hv⟩ := hx
  refine dL (v := .cell (.ny id j off)) (u := a.eval x) i ?_ ⟨t, l, o, p, h1, h2, h3, hv⟩ h
  simp [execOp, hv]
 ·simp at h
theorem dA.xW {C : dA} {t : TypeId} {i off : Nat} {u : TypeId} (h : C.fieldAt t i = some (off, u)) :
  ∃ fs f, C.P.underlying t = some (.struct fs) /\ fs[i]? = some f /\ f.offset = off /\ f.type = u := by
 unfold dA.fieldAt at h
 split at h
 ·rename_i fs hfs
  rw [Option.map_eq_some_iff] at h
  obtain ⟨f, hf, he⟩ := h
  simp at he
  exact ⟨fs, f, hfs, hf, he.1, he.2⟩
 ·cases h
theorem Lr (good : Good C) (t : TypeId) (x : Operand) (ix : Nat) : lQ C ah ⟨dst, .fieldAddr t x ix, type, pos, after, guard⟩ := by
 intro R F0 G s a w pl κ r Q i ht h
 simp only [lN] at h
 have hx := i.slot x
 have key : ∀ {off b o : Nat}, C.placeOf t ix = some off -> a.eval x = .pointer (some ⟨b, o, none⟩) ->
   (execOp a.eval ⟨dst, .fieldAddr t x ix, type, pos, after, guard⟩).run C.P w = .ok (.value (.pointer (some ⟨b, o + off, none⟩))) w := by
  intro off b o hp hv
  unfold dA.placeOf at hp
  split at hp
  ·rename_i off' u hf
   split at hp
   ·rename_i n agg hsh
    obtain ⟨fs, f, hfs, hfi, ho, hu⟩ := dA.xW hf
    obtain ⟨inf, d, hi, hsz, hd, _⟩ := good.shape hsh
    simp at hp
    subst hp ho hu
    simp only [execOp, Instr.fieldAt, Sem.run_bind, run_underlying hfs, Result.andThen_ok, hfi, hv, Instr.sureAddr, Sem.run_pure, fieldPlace, run_sizeOf hi, hsz, Nat.add_one_ne_zero, if_false, vw]
   ·cases hp
  ·cases hp
 split at h
 ·rename_i off id o' hp hs
  rw [hs] at hx
  obtain ⟨t', cs, p, h1, h2, h3, hv⟩ := hx
  exact dL (v := .cell (.ptr id (o' + off))) i (key hp hv) ⟨t', cs, p, h1, h2, h3, rfl⟩ h
 ·rename_i off id j o' hp hs
  rw [hs] at hx
  obtain ⟨t', l, o, p, h1, h2, h3, hv⟩ := hx
  exact dL (v := .cell (.lD id j (o' + off))) i (key hp hv) ⟨t', l, o, p, h1, h2, h3, by rw [Nat.add_assoc]⟩ h
 ·rename_i off fr u y o' hp hs
  rw [hs] at hx
  obtain ⟨b, o, es, hv, h1⟩ := hx
  exact dL (v := .cell (.pF fr u y (o' + off))) i (key hp hv) ⟨b, o, es, by rw [Nat.add_assoc], h1⟩ h
 ·rename_i off id j o' hp hs
  rw [hs] at hx
  obtain ⟨t', l, o, p, h1, h2, h3, hv⟩ := hx
  exact dL (v := .cell (.ny id j (o' + off))) i (key hp hv) ⟨t', l, o, p, h1, h2, h3, by rw [Nat.add_assoc]⟩ h
 ·simp at h
theorem kM.take {agg : Bool} {vs : List Value} {off n : Nat} (hl : off + n <= vs.length) (h1 : agg = false -> n = 1) :
  ∃ v, kM agg ((vs.drop off).take n) v := by
 cases agg with
 | true => exact ⟨.agg ((vs.drop off).take n).toArray, by simp [kM]⟩
 | false =>
  obtain rfl := h1 rfl
  refine ⟨vs[off]'(by omega), ?_⟩
  simp only [kM, Bool.false_eq_true, if_false]
  rw [List.take_one]
  simp only [List.head?_drop]
  rw [List.getElem?_eq_getElem (by omega)]
  rfl
theorem dA.Ao {C : dA} {t : TypeId} {n : Nat} (h : C.shape t = some (n, false)) : n = 1 := by
 unfold dA.shape at h
 cases ha : assoc C.tt t with
 | none => simp [ha] at h
 | some x =>
  cases x with
  | none => simp [ha] at h; exact h.symm
  | some T =>
   simp [ha] at h
   obtain ⟨rfl, h⟩ := h
   cases T <;> first | rfl | simp [Ty.isAgg] at h
theorem Ux (good : Good C) (t : TypeId) (x : Operand) (ix : Nat) : lQ C ah ⟨dst, .field t x ix, type, pos, after, guard⟩ := by
 intro R F0 G s a w pl κ r Q i ht h
 simp only [lN] at h
 have hx := i.slot x
 split at h
 ·rename_i off u cs hf hs
  rw [hs] at hx
  obtain ⟨vs, hv, hc⟩ := hx
  split at h
  ·rename_i n agg hsh
   split at h
   ·rename_i hle
    obtain ⟨fs, f, hfs, hfi, ho, hu⟩ := dA.xW hf
    obtain ⟨inf, d, hi, hsz, hd, hagg⟩ := good.shape hsh
    have hle' : off + n <= vs.length := by rw [hc.1]; exact hle
    obtain ⟨v, Pm⟩ := kM.take (agg := agg) hle' (fun e => by subst e; exact dA.Ao hsh)
    refine dL (v := .one (bG agg ((cs.drop off).take n))) (u := v) i ?_ (kS ((hc.drop off).take n) Pm) h
    subst ho hu
    simp only [execOp, Instr.field, Sem.run_bind, run_underlying hfs, Result.andThen_ok, hfi, hv, asAgg, Sem.run_pure, part, Am hd, hagg]
    cases agg with
    | true =>
     simp only [kM, if_true] at Pm
     simp only [if_true, Sem.run_bind, run_sizeOf hi, hsz, Result.andThen_ok, Sem.run_pure, Pm]
     congr 3
     apply Array.ext'
     simp [Array.toList_extract, List.extract_eq_take_drop]
    | false =>
     obtain rfl := dA.Ao hsh
     simp [kM] at Pm
     have hq : vs[f.offset]? = some v := by
      rw [List.take_one] at Pm
      simp only [List.head?_drop] at Pm
      cases hq : vs[f.offset]? with
      | none => simp [hq] at Pm
      | some z => simp [hq] at Pm; rw [Pm]
     simp [hq]
   ·simp at h
  ·simp at h
 ·simp at h
end
end Go.Flat
