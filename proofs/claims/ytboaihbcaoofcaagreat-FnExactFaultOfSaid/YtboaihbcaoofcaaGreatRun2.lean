/- Whatever the evaluator answers, the program answers: the whole. No condition. -/
import Derived.Test.YtboaihbcaoofcaaGreatRun1
set_option linter.unusedVariables false
set_option linter.unusedSimpArgs false
namespace Go.Flat

theorem results_eq (fn : Func) (tmps : Array Value) : results fn tmps = (do let vs ← fn.results.mapM (readVar tmps); pure (if h : vs.size = 1 then vs[0] else .tuple vs)) := by
  unfold results
  congr 1

theorem parSlots_ok {A G : Nat → Prop} {h : Array Obj} : ∀ {as : List Arg} {us : List Value} (n : Nat), ArgsRel A G h as us → (∀ b ∈ as, b.isIo = false) → (parSlots n as).2 = [] ∧ (parSlots n as).1.length = us.length ∧
    ∀ (j : Nat) s u, (parSlots n as).1[j]? = some s → us[j]? = some u → SlotRel (emptyMem A G h) s u
  | [], us, n, hr, _ => by
    have : us = [] := List.eq_nil_of_length_eq_zero hr.1
    subst this
    exact ⟨rfl, rfl, fun j s u hj => by simp [parSlots] at hj⟩
  | a :: as, us, n, hr, hno => by
    cases us with
    | nil => have := hr.1; simp at this
    | cons u us =>
      have hr' : ArgsRel A G h as us := ⟨by have := hr.1; simpa using this, fun i a v hi hv => hr.2 (i + 1) a v (by simpa using hi) (by simpa using hv)⟩
      obtain ⟨k1, k2, k3⟩ := parSlots_ok (n + 1) hr' (fun b hb => hno b (List.mem_cons_of_mem _ hb))
      have h0 := hr.2 0 a u rfl rfl
      have hs : ∃ s, parSlot n a = (s, []) ∧ SlotRel (emptyMem A G h) s u := by
        cases a with
        | val t x =>
          obtain ⟨es, hes, hv⟩ := h0
          refine ⟨_, rfl, ?_⟩
          have := comp_of_cells (M := emptyMem A G h) (cells_rd (M := emptyMem A G h) false hes) hv
          have hc : compOf false t x = compOfCells t.isAgg (cellsOf false t x) := by
            unfold compOf compOfCells
            split <;> simp_all
          show CompRel _ (compOf false t x) u
          rw [hc]
          exact this
        | clo f caps => exact ⟨_, rfl, h0⟩
        | rp t x => exact ⟨_, rfl, h0⟩
        | ioArr _ _ => have := hno _ List.mem_cons_self; simp [Arg.isIo] at this
        | ioBox _ _ => exact h0.elim
      obtain ⟨s, hs, hsr⟩ := hs
      simp only [parSlots, hs]
      generalize hps : parSlots (n + 1) as = ps at *
      obtain ⟨vs, es⟩ := ps
      simp only at k1 k2 k3 ⊢
      refine ⟨by simp [k1], by simp [k2], fun j s' u' hj hu => ?_⟩
      cases j with
      | zero => simp at hj hu; subst hj hu; exact hsr
      | succ j => exact k3 j s' u' (by simpa using hj) (by simpa using hu)

/-- The parameters, a row that is given away among them. -/
theorem parSlots_io {A G : Nat → Prop} {h : Array Obj} (hGA : ∀ b, G b → A b) : ∀ {as : List Arg} {us : List Value} (n : Nat), ArgsRel A G h as us → IoOne as → (parSlots n as).1.length = us.length ∧ ∃ pl : Nat → Option Pl,
    (∀ (j : Nat) s u, (parSlots n as).1[j]? = some s → us[j]? = some u → SlotRel ⟨A, G, h, assoc (parSlots n as).2, pl⟩ s u) ∧
    (∀ id e, assoc (parSlots n as).2 id = some e → ∃ t l, e = .arr t l .open ∧ ArrAt G h t l (pl id) ∧ ∀ p, pl id = some p → ¬ A p.b) ∧
    (∀ x y ex ey, assoc (parSlots n as).2 x = some ex → assoc (parSlots n as).2 y = some ey → x = y)
  | [], us, n, hr, _ => by
    have : us = [] := List.eq_nil_of_length_eq_zero hr.1
    subst this
    exact ⟨rfl, fun _ => none, fun j s u hj => by simp [parSlots] at hj, fun id e he => by simp [parSlots, assoc] at he, fun x y ex ey hx => by simp [parSlots, assoc] at hx⟩
  | a :: as, us, n, hr, hone => by
    cases us with
    | nil => have := hr.1; simp at this
    | cons u us =>
      have hr' : ArgsRel A G h as us := ⟨by have := hr.1; simpa using this, fun i a v hi hv => hr.2 (i + 1) a v (by simpa using hi) (by simpa using hv)⟩
      have hone' : IoOne as := fun i j b c hi hj hb hc => by have := hone (i + 1) (j + 1) b c (by simpa using hi) (by simpa using hj) hb hc; omega
      have hgo : ∀ {sto : Nat → Option Entry} {pl : Nat → Option Pl}, Goes (fun _ => False) (emptyMem A G h) ⟨A, G, h, sto, pl⟩ := ⟨fun b hb => hb, fun b hb => hb, hGA, fun b hb => rfl, fun id e _ he => by simp [emptyMem] at he⟩
      cases hio : a.isIo with
      | true =>
        have hno : ∀ b ∈ as, b.isIo = false := by
          intro b hb
          obtain ⟨j, hj⟩ := List.getElem?_of_mem hb
          cases hbi : b.isIo with
          | false => rfl
          | true => have := hone 0 (j + 1) a b rfl (by simpa using hj) hio hbi; omega
        obtain ⟨k1, k2, k3⟩ := parSlots_ok (n + 1) hr' hno
        cases a with
        | ioArr t l =>
          obtain ⟨π, h1, h2, h3⟩ := hr.2 0 _ u rfl rfl
          simp only [parSlots, parSlot]
          generalize hps : parSlots (n + 1) as = ps at *
          obtain ⟨vs, es⟩ := ps
          simp only at k1 k2 k3 ⊢
          subst k1
          have hk : ∀ {x e}, assoc ([(parKey n 0, Entry.arr t l .open)] ++ []) x = some e → x = parKey n 0 ∧ e = .arr t l .open := by
            intro x e he
            simp only [List.append_nil, assoc] at he
            cases hb : Nat.beq (parKey n 0) x with
            | true => rw [hb] at he; simp at he; exact ⟨(Nat.eq_of_beq_eq_true hb).symm, he.symm⟩
            | false => rw [hb] at he; simp at he
          refine ⟨by simp [k2], fun _ => π, fun j s' u' hj hu => ?_, fun id e he => ?_, fun x y ex ey hx hy => (hk hx).1.trans (hk hy).1.symm⟩
          · cases j with
            | zero =>
              simp at hj hu
              subst hj hu
              exact ⟨t, l, .open, by show assoc ([(parKey n 0, Entry.arr t l .open)] ++ []) (parKey n 0) = _; simp [assoc], h1⟩
            | succ j => exact hgo.slot (fun _ _ h => h) (k3 j s' u' (by simpa using hj) (by simpa using hu))
          · obtain ⟨_, rfl⟩ := hk he
            exact ⟨t, l, rfl, h2, h3⟩
        | _ => simp [Arg.isIo] at hio
      | false =>
        obtain ⟨k1, pl, k2, k3, k4⟩ := parSlots_io hGA (n + 1) hr' hone'
        have hra : ArgsRel A G h [a] [u] := ⟨rfl, fun i b v hi hv => by
          cases i with
          | zero => simp at hi hv; subst hi hv; exact hr.2 0 _ _ rfl rfl
          | succ i => simp at hi⟩
        obtain ⟨m1, m2, m3⟩ := parSlots_ok n hra (fun b hb => by simp at hb; rw [hb]; exact hio)
        simp only [parSlots] at m1 m2 m3 ⊢
        generalize hp0 : parSlot n a = p0 at *
        obtain ⟨s0, e0⟩ := p0
        generalize hps : parSlots (n + 1) as = ps at *
        obtain ⟨vs, es⟩ := ps
        simp only [List.append_nil] at m1 m2 m3 k1 k2 k3 k4 ⊢
        subst m1
        simp only [List.nil_append]
        refine ⟨by simp [k1], pl, fun j s' u' hj hu => ?_, k3, k4⟩
        cases j with
        | zero => simp at hj hu; subst hj hu; exact hgo.slot (fun _ _ h => h) (m3 0 _ _ rfl rfl)
        | succ j => exact k2 j s' u' (by simpa using hj) (by simpa using hu)

theorem tupIs_of {M : Mem} : ∀ {t : Ty} {vs : List Comp} {us : List Value}, tupOk t vs = true → us.length = vs.length → (∀ (j : Nat) c u, vs[j]? = some c → us[j]? = some u → CompRel M c u) → (∀ c ∈ vs, c.known = true) →
    CellsRel M (vs.flatMap Comp.cells) (us.flatMap fun u => u.cells.toList) ∧ TupIs t (us.flatMap fun u => u.cells.toList) us
  | .unit, [], us, _, hl, _, _ => by
    have : us = [] := List.eq_nil_of_length_eq_zero hl
    subst this
    exact ⟨CellsRel.nil, rfl, rfl⟩
  | .pair a b, c :: vs, us, h, hl, hr, hk => by
    simp only [tupOk, Bool.and_eq_true] at h
    obtain ⟨⟨h1, h2⟩, h3⟩ := h
    cases us with
    | nil => simp at hl
    | cons u us =>
      have hc := hr 0 c u rfl rfl
      have hkc := hk c (by simp)
      obtain ⟨k1, k2⟩ := tupIs_of h3 (by simpa using hl) (fun j c u hj hu => hr (j + 1) c u (by simpa using hj) (by simpa using hu)) (fun c hc => hk c (by simp [hc]))
      have hcells := cells_of_comp hkc hc
      have hlen : u.cells.toList.length = a.sz := by rw [hcells.1]; exact Nat.eq_of_beq_eq_true h2
      refine ⟨by simp only [List.flatMap_cons]; exact hcells.append k1, u, us, rfl, ?_, ?_⟩
      · simp only [List.flatMap_cons]
        rw [List.take_left' hlen]
        exact valIs_of hkc h1 hc
      · simp only [List.flatMap_cons]
        rw [List.drop_left' hlen]
        exact k2
  | .unit, _ :: _, _, h, _, _, _ => by simp [tupOk] at h
  | .pair _ _, [], _, h, _, _, _ => by simp [tupOk] at h
  | .bool, _, _, h, _, _, _ => by simp [tupOk] at h
  | .int _, _, _, h, _, _, _ => by simp [tupOk] at h
  | .str, _, _, h, _, _, _ => by simp [tupOk] at h
  | .list _, _, _, h, _, _, _ => by simp [tupOk] at h

theorem resComps_len {C : Cfg} {s : St} : ∀ {rs : List ResultVar} {vs : List Comp}, resComps C s rs = some vs → vs.length = rs.length
  | [], vs, h => by simp [resComps] at h; subst h; rfl
  | .tmp t :: rs, vs, h => by
    simp only [resComps] at h
    split at h
    · rename_i c r hs hr; simp at h; subst h; simp [resComps_len hr]
    · cases h
  | .cell x t :: rs, vs, h => by
    simp only [resComps] at h
    split at h
    · rename_i n agg p r hsh hs hr
      split at h
      · simp at h; subst h; simp [resComps_len hr]
      · cases h
    · cases h

theorem nodup_spec : ∀ {l : List Nat}, nodup l = true → l.Nodup
  | [], _ => List.nodup_nil
  | x :: l, h => by
    simp only [nodup, Bool.and_eq_true] at h
    rw [List.nodup_cons]
    exact ⟨by simpa using h.1, nodup_spec h.2⟩

theorem blocks_nodup {M : Mem} (hM : StoRel M) : ∀ {ids : List Nat}, ids.Nodup → (∀ id ∈ ids, ∃ e, M.sto id = some e) → ((ids.filterMap M.pl).map Pl.b).Nodup
  | [], _, _ => List.nodup_nil
  | id :: ids, hn, hl => by
    rw [List.nodup_cons] at hn
    have ih := blocks_nodup hM hn.2 (fun j hj => hl j (by simp [hj]))
    cases hp : M.pl id with
    | none => simpa [List.filterMap_cons, hp] using ih
    | some p =>
      simp only [List.filterMap_cons, hp, List.map_cons, List.nodup_cons]
      refine ⟨fun hm => ?_, ih⟩
      obtain ⟨q, hq, hqb⟩ := List.mem_map.1 hm
      obtain ⟨j, hj, hjq⟩ := List.mem_filterMap.1 hq
      obtain ⟨e, he⟩ := hl id (by simp)
      obtain ⟨e', he'⟩ := hl j (by simp [hj])
      have hne : id ≠ j := fun e => hn.1 (e ▸ hj)
      exact hM.apart id j e e' p q he he' hne hp hjq hqb.symm

/-- What is owed of the functions whose answers are given. -/
def PrimOk (C : Cfg) : Prop := ∀ (f : FuncId) (p : (t : Ty) → List Arg → Option t.den), C.prim f = some p → CallOk C fun g t args => if g = f then p t args else none

theorem run_ok {C : Cfg} (good : Good C) (hdraw : ∀ callF, CallOk C callF → DrawOk C callF) (hprim : PrimOk C) : ∀ k, CallOk C (run C k) := by
  intro k
  induction k with
  | zero => intro f fn t args r hf h; simp [run] at h
  | succ k ih =>
    intro f fn t args r hf h
    simp only [run] at h
    cases hp : C.prim f with
    | some p =>
      rw [hp] at h
      exact hprim f p hp f fn t args r hf (by simpa using h)
    | none =>
      rw [hp] at h
      simp only [hf] at h
      cases hb : fn.body with
      | none => simp [hb] at h
      | some c =>
        simp only [hb] at h
        refine ⟨rfl, fun w A G vals hA hGA htab hone hargs => ?_⟩
        obtain ⟨k2, pl0, k3, k4, k5⟩ := parSlots_io hGA 0 hargs hone
        have hi : Inv A G (initSt fn args) { tmps := vals.toArray ++ Array.replicate (fn.ntmps - vals.toArray.size) undef, defers := [] } w pl0 := by
          unfold initSt
          generalize hps : parSlots 0 args = ps at *
          obtain ⟨vs, es⟩ := ps
          simp only at k2 k3 k4 k5 ⊢
          have hFm : ∀ b, (A b ∨ G b) → b < w.heap.size := fun b hb => hb.elim (hA b) (fun h => hA b (hGA b h))
          have g : Goes (fun _ => False) ⟨A, G, w.heap, assoc es, pl0⟩ (mem A G w.heap (assoc es) pl0) :=
              ⟨fun b hb => .inl hb, fun b hb => hb, hGA, fun b hb => rfl, fun id e _ he => ⟨e, he, e.like_refl, rfl⟩⟩
          refine ⟨by simp [hargs.1], fun t => ?_, ⟨fun b hb => .inr hb, hFm, fun id e he => ?_, fun x y ex ey p q hx hy hxy => absurd (k5 x y ex ey hx hy) hxy⟩, rfl⟩
          · show SlotRel _ ((vs[t]?).getD .undef) _
            cases hv : vs[t]? with
            | none => exact trivial
            | some s =>
              have hlt : t < vals.length := by rw [← k2]; exact (List.getElem?_eq_some_iff.1 hv).1
              have hu : (vals.toArray ++ Array.replicate (fn.ntmps - vals.toArray.size) undef).getD t undef = vals[t] := by
                rw [Array.getD_eq_getD_getElem?, Array.getElem?_append_left (by simpa using hlt)]
                simp [hlt]
              rw [hu]
              exact g.slot (fun _ _ h => h) (k3 t s vals[t] hv (List.getElem?_eq_getElem hlt))
          · obtain ⟨t, l, rfl, h1, h2⟩ := k4 id e he
            exact ⟨h1, fun p hp => ⟨fun ho => (by cases ho), fun _ hb => h2 p hp (hb.elim (fun h => h) (hGA _))⟩⟩
        have hcode := code_ok (fun o => op_ok good ih o) (hdraw _ ih) _ k c h hi htab
        refine calls_of_wp hf hb (wp_mono hcode fun e a' w' hpost => ?_)
        obtain ⟨x, s', G', pl', hx, hret, i', fr⟩ := hpost
        have fin : (e = .normal ∨ e = .ret) → bodyPost C.P fn (fun e w' => ∃ v G' ps, e = .returned v ∧ w.heap.size ≤ w'.heap.size ∧ Str w w' ∧ (∀ b, A b → w'.heap[b]? = w.heap[b]?) ∧ (∀ b, G b → G' b) ∧ (∀ b, G' b → G b ∨ (¬ A b ∧ b < w'.heap.size)) ∧
            ResIs (C.sig f).own (Nat.beq fn.resultTypes.size 1) t G' w'.heap r v ps ∧ (∀ p, some p ∈ ps → ¬ A p.b ∧ ¬ G' p.b) ∧ ((ps.filterMap id).map Pl.b).Nodup) .normal a' w' := by
          intro he
          have hret : (bif Nat.beq fn.results.size fn.resultTypes.size && !(args.map Arg.kind).any (!Nat.beq 0 ·) then
              (match resComps C s' fn.results.toList with
              | some vs => bif vs.all Comp.known && shapeOk (Nat.beq fn.resultTypes.size 1) t vs then
                  (match ofCellsAll s'.sto (bif (C.sig f).own then Mode.give else Mode.keep) t (vs.flatMap Comp.cells) with
                  | some (x, ids) => bif !(C.sig f).own || nodup ids then some x else none
                  | none => none) else none
              | none => none) else none) = some r := by
            rcases he with rfl | rfl
            · cases x <;> simp [ExIs] at hx; exact hret
            · cases x <;> simp [ExIs] at hx; exact hret
          cases hc1 : (Nat.beq fn.results.size fn.resultTypes.size && !(args.map Arg.kind).any (!Nat.beq 0 ·)) with
          | false => rw [hc1] at hret; cases hret
          | true =>
          rw [hc1] at hret
          simp only [cond_true] at hret
          cases hvs : resComps C s' fn.results.toList with
          | none => rw [hvs] at hret; cases hret
          | some vs =>
          rw [hvs] at hret
          simp only at hret
          cases hc2 : (vs.all Comp.known && shapeOk (Nat.beq fn.resultTypes.size 1) t vs) with
          | false => rw [hc2] at hret; cases hret
          | true =>
          rw [hc2] at hret
          simp only [cond_true] at hret
          cases hof : ofCellsAll s'.sto (bif (C.sig f).own then Mode.give else Mode.keep) t (vs.flatMap Comp.cells) with
          | none => rw [hof] at hret; cases hret
          | some y =>
          obtain ⟨y, ids⟩ := y
          rw [hof] at hret
          simp only at hret
          cases hc3 : (!(C.sig f).own || nodup ids) with
          | false => rw [hc3] at hret; cases hret
          | true =>
          rw [hc3] at hret
          simp only [cond_true, Option.some.injEq] at hret
          subst hret
          simp only [Bool.and_eq_true] at hc1 hc2
          obtain ⟨us, hrun, hul, hur⟩ := resComps_ok good i' hvs
          have hsize : fn.results.size = fn.resultTypes.size := Nat.eq_of_beq_eq_true hc1.1
          have hvl : vs.length = fn.resultTypes.size := by rw [resComps_len hvs]; simpa using hsize
          have hknown : ∀ c ∈ vs, c.known = true := List.all_eq_true.1 hc2.1
          refine ⟨i'.defers, (if h : us.toArray.size = 1 then us.toArray[0] else .tuple us.toArray), ?_, ?_⟩
          · rw [results_eq]
            rw [Array.mapM_eq_mapM_toList]
            simp only [Sem.run_bind, Sem.run_map, hrun, Result.andThen_ok, Sem.run_pure]
          have hcells : ∃ cs, CellsRel (mem A G' w'.heap s'.sto pl') (vs.flatMap Comp.cells) cs ∧
              (if Nat.beq fn.resultTypes.size 1 then ValIs t.isAgg cs (if h : us.toArray.size = 1 then us.toArray[0] else .tuple us.toArray) else ∃ ws : List Value, (if h : us.toArray.size = 1 then us.toArray[0] else .tuple us.toArray) = .tuple ws.toArray ∧ TupIs t cs ws) := by
            cases hone : Nat.beq fn.resultTypes.size 1 with
            | true =>
              have h1 : fn.resultTypes.size = 1 := Nat.eq_of_beq_eq_true hone
              rw [hone] at hc2
              have hsh := hc2.2
              unfold shapeOk at hsh
              simp only [if_true] at hsh
              split at hsh
              · rename_i c
                obtain ⟨u, rfl⟩ : ∃ u, us = [u] := List.length_eq_one_iff.1 (by rw [hul]; rfl)
                have hcr := hur 0 c u rfl rfl
                have hkc := hknown c (by simp)
                refine ⟨u.cells.toList, by simpa using cells_of_comp hkc hcr, ?_⟩
                simp only [if_true]
                exact valIs_of hkc hsh hcr
              · cases hsh
            | false =>
              rw [hone] at hc2
              have hsh := hc2.2
              unfold shapeOk at hsh
              simp only [Bool.false_eq_true, if_false] at hsh
              obtain ⟨k4, k5⟩ := tupIs_of hsh hul hur hknown
              refine ⟨_, k4, ?_⟩
              simp only [Bool.false_eq_true, if_false]
              have hne : ¬ us.toArray.size = 1 := by
                have : us.length = fn.resultTypes.size := by rw [hul, hvl]
                intro e
                have e1 : fn.resultTypes.size = 1 := by rw [← this]; simpa using e
                rw [e1] at hone
                simp at hone
              exact ⟨us, by rw [dif_neg hne], k5⟩
          obtain ⟨cs, hcr, hval⟩ := hcells
          have hFr := fr
          cases hown : (C.sig f).own with
          | true =>
            rw [hown] at hof hc3
            simp only [cond_true] at hof
            unfold ofCellsAll at hof
            split at hof
            · rename_i y' ids' he
              simp at hof
              obtain ⟨rfl, rfl⟩ := hof
              obtain ⟨ws, us', ps, rfl, h1, h2, h3⟩ := ofCells_own i'.sto he hcr
              have : us' = [] := by have := h2.1; simpa using this
              subst this
              rw [List.append_nil] at hval
              have hlive := ofCells_live he
              refine ⟨_, G', ps, rfl, fr.size, fr.str, fun b hb => fr.h b (.inl hb), fr.more, fun b hb => ?_, ⟨ws, h1, hval⟩, fun p hp => ?_, ?_⟩
              · by_cases hlt : A b
                · exact .inl (fr.new b hb hlt)
                · exact .inr ⟨hlt, i'.sto.lt b (.inr hb)⟩
              · have hpb : p.b ∈ (ps.filterMap id).map Pl.b := List.mem_map.2 ⟨p, List.mem_filterMap.2 ⟨some p, hp, rfl⟩, rfl⟩
                rw [h3] at hpb
                obtain ⟨q, hq, hqb⟩ := List.mem_map.1 hpb
                obtain ⟨j, hj, hjq⟩ := List.mem_filterMap.1 hq
                obtain ⟨u, l, o, hst, ho⟩ := hlive j hj
                have hnF := ((i'.sto.ent j _ hst).2 q hjq).2 (by rw [ho rfl]; simp)
                rw [← hqb]
                exact ⟨fun h => hnF (.inl h), fun h => hnF (.inr h)⟩
              · rw [h3]
                exact blocks_nodup i'.sto (nodup_spec (by simpa using hc3)) (fun j hj => by
                  obtain ⟨u, l, o, hst, _⟩ := hlive j hj
                  exact ⟨_, hst⟩)
            · cases hof
          | false =>
            rw [hown] at hof
            simp only [cond_false] at hof
            have hkeep := ofCellsAll_keep hof
            obtain ⟨G'', i'', fr', hGi, _⟩ := freezeAll_ok (ids := ids) i' (fun j hj t'' l'' he => by
              obtain ⟨u, l3, o3, h1, h2⟩ := hkeep j hj
              rw [h1] at he
              cases he
              exact h2 rfl)
            have hrd : Rd G'' w'.heap t G'' y cs := ofCellsAll_rd i'.sto (fun b hb => fr'.more b hb) (fun b hb => fr'.more b hb) (fun hm => by cases hm) hof hcr (fun j hj q hq => by
              obtain ⟨u, l3, o3, h1, h2⟩ := hkeep j hj
              exact hGi j hj u l3 o3 h1 q hq)
            have frr := fr.trans fr'
            refine ⟨_, G'', [], rfl, frr.size, frr.str, fun b hb => frr.h b (.inl hb), frr.more, fun b hb => ?_, ⟨cs, ownRd_false hrd, hval⟩, fun p hp => by simp at hp, by simp⟩
            by_cases hlt : A b
            · exact .inl (frr.new b hb hlt)
            · exact .inr ⟨hlt, i''.sto.lt b (.inr hb)⟩
        cases e with
        | normal => exact fin (.inl rfl)
        | ret => exact fin (.inr rfl)
        | exit j => cases x <;> simp [ExIs] at hx; simp [retK] at hret
        | goto j => cases x <;> simp [ExIs] at hx
        | panic ch => cases x <;> simp [ExIs] at hx
        | outgrown => cases x <;> simp [ExIs] at hx

end Go.Flat
