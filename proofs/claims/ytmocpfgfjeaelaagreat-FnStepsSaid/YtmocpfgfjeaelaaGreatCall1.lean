/- What a call is handed, and what it hands back. No condition. -/
import Derived.Test.YtmocpfgfjeaelaaGreatCode3
import Derived.Test.YtmocpfgfjeaelaaGreatDeep1
set_option linter.unusedVariables false
set_option linter.unusedSimpArgs false
namespace Go.Flat
def KI : Ty -> List Value -> List Value -> Prop
 | .unit, cs, vs => cs = [] /\ vs = []
 | .pair a b, cs, vs => ∃ v vs', vs = v :: vs' /\ kM a.isAgg (cs.take a.sz) v /\ KI b (cs.drop a.sz) vs'
 | _, _, _ => False
def xJ (own one : Bool) (t : Ty) (G : Nat -> Prop) (h : Array Obj) (r : t.den) (v : Value) (ps : List (Option Pl)) : Prop :=
 ∃ cs, dH own G h t r cs ps /\ (if one then kM t.isAgg cs v else ∃ vs : List Value, v = .tuple vs.toArray /\ KI t cs vs)
def zB (A G : Nat -> Prop) (h : Array Obj) : Mem := ⟨A, G, h, fun _ => none, fun _ => none, fun _ => none, fun _ => 0, fun _ _ _ => undef⟩
def ArgRel (A G : Nat -> Prop) (h : Array Obj) : Arg -> Value -> Prop
 | .val t x, v => ∃ es, Rd G h t (bif t.kept then G else A) x es /\ kM t.isAgg es v
 | .oq f caps, v => fE (zB A G h) (.oq f caps) v
 | .rp t x, v => fE (zB A G h) (.pF false t x 0) v
 | .Ug t x, v => ∃ es, Rd G h t G x es /\ kM t.isAgg es v
 | .give T x, v => ∃ cs ps, dH true G h T x cs ps /\ kM T.isAgg cs v /\ (∀ b ∈ blks ps, ¬ A b /\ b < h.size) /\ (blks ps).Nodup
 | _, _ => False
def gV (A G : Nat -> Prop) (h : Array Obj) (as : List Arg) (vs : List Value) : Prop :=
 vs.length = as.length /\ ∀ (i : Nat) a v, as[i]? = some a -> vs[i]? = some v -> ArgRel A G h a v
theorem ArgRel.solid {A G : Nat -> Prop} {h : Array Obj} (hAG : ∀ b, A b -> G b) {a : Arg} {v : Value} (H : ArgRel A G h a v) : ArgRel A G h a.solid v := by
 cases a with
 | val t x =>
  obtain ⟨es, h1, h2⟩ := H
  refine ⟨es, Rd.move (fun _ h => h) (fun _ _ => rfl) (fun b hb => ?_) (fun _ _ => rfl) h1, h2⟩
  cases hk : t.kept with
  | true => rw [hk] at hb; exact hb
  | false => rw [hk] at hb; exact hAG b hb
 | _ => exact H
theorem gV.solid {A G : Nat -> Prop} {h : Array Obj} (hAG : ∀ b, A b -> G b) {as : List Arg} {vs : List Value} (H : gV A G h as vs) : gV A G h (as.map Arg.solid) vs := by
 refine ⟨by rw [List.length_map]; exact H.1, fun i a v ha hv => ?_⟩
 rw [List.getElem?_map] at ha
 obtain ⟨a', h1, rfl⟩ := Option.map_eq_some_iff.1 ha
 exact (H.2 i a' v h1 hv).solid hAG
def Arg.sV : Arg -> Bool
 | .give _ _ => true
 | _ => false
def Hr (as : List Arg) : Prop := ∀ (i j : Nat) a b, as[i]? = some a -> as[j]? = some b -> a.sV = true -> b.sV = true -> i = j
def BH (C : dA) (ah : FuncId -> (t : Ty) -> List Arg -> Option t.den) : Prop :=
 ∀ (f : FuncId) (fn : Func) (t : Ty) (args : List Arg) (r : t.den), C.P.funcs[f]? = some fn -> ah f t args = some r -> (C.sig f).xU = false -> fn.body.isSome = true /\
  ∀ (w : World) (A G : Nat -> Prop) (vals : List Value), (∀ b, A b -> b < w.heap.size) -> (∀ b, G b -> A b) -> Tab C w A -> Hr args -> gV A G w.heap args vals ->
   Calls C.P f vals.toArray w fun e w' => ∃ v G' ps, e = .returned v /\ w.heap.size <= w'.heap.size /\ Str C.mono w w' /\ (∀ b, A b -> w'.heap[b]? = w.heap[b]?) /\ (∀ b, G b -> G' b) /\ (∀ b, G' b -> G b \/ (¬ A b /\ b < w'.heap.size)) /\
    xJ (C.sig f).own (Nat.beq fn.resultTypes.size 1) t G' w'.heap r v ps /\ (∀ b ∈ blks ps, ¬ A b /\ ¬ G' b /\ b < w'.heap.size) /\ (blks ps).Nodup
def QO (A G : Nat -> Prop) (h : Array Obj) (T : Ty) (x : T.den) (v : Value) (cs : List Value) (ps : List (Option Pl)) : Prop :=
 dH true G h T x cs ps /\ kM T.isAgg cs v /\ (∀ b ∈ blks ps, ¬ A b /\ b < h.size) /\ (blks ps).Nodup
def Ht (G : Nat -> Prop) (h0 h : Array Obj) : (T : Ty) -> T.den -> T.rows.den -> List (Option Pl) -> Prop
 | .list t, l, l', ps => ∃ π, ps = [π] /\ oJ G h t l' π /\ l'.length = l.length
 | .dh t, l, l', ps => ∃ π, ps = [π] /\ oF G h t l' π /\ l'.length = l.length /\ ∀ p, π = some p -> ∀ i off, i < l.length -> (oD t)[off]? = some true -> hcell h p.b (p.o + i * t.sz + off) = hcell h0 p.b (p.o + i * t.sz + off)
 | .pair a b, x, z, ps => ∃ p q, ps = p ++ q /\ Ht G h0 h a x.1 z.1 p /\ Ht G h0 h b x.2 z.2 q
 | .bool, _, _, ps => ps = []
 | .int _, _, _, ps => ps = []
 | .str, _, _, ps => ps = []
 | .unit, _, _, ps => ps = []
def UQ (C : dA) (ah : FuncId -> (t : Ty) -> List Arg -> Option t.den) : Prop :=
 ∀ (f : FuncId) (fn : Func) (rt T : Ty) (x : T.den) (i : Nat) (args : List Arg) (r : rt.den × T.rows.den), C.P.funcs[f]? = some fn -> ah f (.pair rt T.rows) args = some r -> args[i]? = some (.lend T x) -> fn.body.isSome = true /\
  ∀ (w : World) (A G : Nat -> Prop) (vals : List Value) (v0 : Value) (cs : List Value) (ps : List (Option Pl)), (∀ b, A b -> b < w.heap.size) -> (∀ b, G b -> A b) -> Tab C w A -> vals.length = args.length -> vals[i]? = some v0 -> QO A G w.heap T x v0 cs ps ->
   (∀ (j : Nat) a v, j ≠ i -> args[j]? = some a -> vals[j]? = some v -> a.sV = false /\ ArgRel A G w.heap a v) ->
   Calls C.P f vals.toArray w fun e w' => ∃ v G' qs, e = .returned v /\ w.heap.size <= w'.heap.size /\ Str C.mono w w' /\ (∀ b, A b -> w'.heap[b]? = w.heap[b]?) /\ (∀ b, G b -> G' b) /\ (∀ b, G' b -> G b \/ (¬ A b /\ b < w'.heap.size)) /\
    xJ (C.sig f).own (Nat.beq fn.resultTypes.size 1) rt G' w'.heap r.1 v qs /\ (∀ b ∈ blks qs, ¬ A b /\ ¬ G' b /\ b < w'.heap.size) /\ (blks qs).Nodup /\
    Ht G' w.heap w'.heap T x r.2 ps /\ ∀ b ∈ blks ps, ¬ G' b /\ b ∉ blks qs
def UR (A G : Nat -> Prop) (h : Array Obj) (T : Ty) (x : T.den) (pb : Nat) (ps : List (Option Pl)) : Prop :=
 (∃ c e fz, h[pb]? = some (.cells c e fz) /\ Free fz c.size /\ c.size = T.sz /\ dH T.ob G h T x c.toList ps) /\ (∀ b ∈ pb :: blks ps, ¬ A b /\ b < h.size) /\ (pb :: blks ps).Nodup
def UU (C : dA) (ah : FuncId -> (t : Ty) -> List Arg -> Option t.den) : Prop :=
 ∀ (f : FuncId) (fn : Func) (rt T : Ty) (x : T.den) (i : Nat) (args : List Arg) (r : rt.den × T.den), C.P.funcs[f]? = some fn -> ah f (.pair rt T) args = some r -> args[i]? = some (.gJ T x) -> fn.body.isSome = true /\
  ∀ (w : World) (A G : Nat -> Prop) (vals : List Value) (pb : Nat) (ps : List (Option Pl)), (∀ b, A b -> b < w.heap.size) -> (∀ b, G b -> A b) -> Tab C w A -> vals.length = args.length -> vals[i]? = some (.pointer (some ⟨pb, 0, none⟩)) -> UR A G w.heap T x pb ps ->
   (∀ (j : Nat) a v, j ≠ i -> args[j]? = some a -> vals[j]? = some v -> a.sV = false /\ ArgRel A G w.heap a v) ->
   Calls C.P f vals.toArray w fun e w' => ∃ v G' qs ps', e = .returned v /\ w.heap.size <= w'.heap.size /\ Str C.mono w w' /\ (∀ b, A b -> w'.heap[b]? = w.heap[b]?) /\ (∀ b, G b -> G' b) /\ (∀ b, G' b -> G b \/ (¬ A b /\ b < w'.heap.size)) /\
    xJ true (Nat.beq fn.resultTypes.size 1) rt G' w'.heap r.1 v qs /\ (∃ c e fz, w'.heap[pb]? = some (.cells c e fz) /\ Free fz c.size /\ c.size = T.sz /\ dH T.ob G' w'.heap T r.2 c.toList ps') /\
    (∀ b ∈ blks qs ++ blks ps', ¬ A b /\ ¬ G' b /\ b < w'.heap.size /\ b ≠ pb) /\ (blks qs ++ blks ps').Nodup /\ ¬ G' pb
def aau (C : dA) (ah : FuncId -> (t : Ty) -> List Arg -> Option t.den) : Prop :=
 ∀ (f : FuncId) (fn : Func) (t : Ty) (args : List Arg) (r : t.den), C.P.funcs[f]? = some fn -> ah f t args = some r -> (C.sig f).xU = true -> fn.body.isSome = true /\
  ∀ (w : World) (A G : Nat -> Prop) (vals : List Value), (∀ b, A b -> b < w.heap.size) -> (∀ b, G b -> A b) -> Tab C w A -> Hr args -> gV A G w.heap args vals ->
   Calls C.P f vals.toArray w fun e w' => ∃ pb G', e = .returned (.pointer (some ⟨pb, 0, none⟩)) /\ w.heap.size <= w'.heap.size /\ Str C.mono w w' /\ (∀ b, A b -> w'.heap[b]? = w.heap[b]?) /\ (∀ b, G b -> G' b) /\ (∀ b, G' b -> G b \/ (¬ A b /\ b < w'.heap.size)) /\
    (∃ c e fz, w'.heap[pb]? = some (.cells c e fz) /\ Free fz c.size /\ c.size = t.sz /\ dH false G' w'.heap t r c.toList []) /\ ¬ A pb /\ ¬ G' pb
def Gm (C : dA) (ah : FuncId -> (t : Ty) -> List Arg -> Option t.den) : Prop := BH C ah /\ UQ C ah /\ UU C ah /\ aau C ah
theorem vD {M : Mem} {c : aH} {v : Value} {u : Ty} (hk : c.known = true) (ha : EK u c = true) (h : eX M c v) : kM u.isAgg v.cells.toList v := by
 unfold kM
 cases c with
 | agg cs =>
  obtain ⟨vs, rfl, _⟩ := h
  have : u.isAgg = true := ha
  rw [this]
  simp [Value.cells]
 | cell c =>
  have hf : u.isAgg = false := by simpa [EK] using ha
  rw [hf]
  have h1 : one v = true := MS hk h
  simp only [Bool.false_eq_true, if_false]
  cases v <;> simp [one] at h1 <;> rfl
theorem Nl {C : dA} {s : St} {t : TypeId} {c : aH} {x : Arg} (h : nA C s t c = some x) : x.sV = false := by
 unfold nA at h
 split at h
 ·rename_i u hu
  cases hb : (c.known && EK u c) with
  | false => rw [hb] at h; cases h
  | true =>
   rw [hb] at h
   simp only [cond_true] at h
   cases hkt : C.Uh.contains t with
   | true =>
    rw [hkt] at h
    simp only [cond_true] at h
    split at h
    ·simp at h; subst h; rfl
    ·cases h
   | false =>
   rw [hkt] at h
   simp only [cond_false] at h
   cases hk : u.kept with
   | true =>
    rw [hk] at h
    simp only [cond_true] at h
    split at h
    ·simp at h; subst h; rfl
    ·cases h
   | false =>
    rw [hk] at h
    obtain ⟨_, _, rfl⟩ := Option.map_eq_some_iff.1 h
    rfl
 ·split at h
  ·obtain ⟨_, _, rfl⟩ := Option.map_eq_some_iff.1 h; rfl
  ·split at h
   ·simp at h; subst h; rfl
   ·cases h
  ·simp at h; subst h; rfl
  ·cases h
theorem SN {c : Cap} {x : Arg} (h : tT c = some x) : x.sV = false := by
 cases c <;> simp [tT] at h
 subst h; rfl
theorem Nn {σ : Nat -> Option Entry} {m : Mode} : ∀ {t : Ty} {cs : List Cell} {x : t.den} {rest : List Cell} {ids : List Nat}, aG σ m t cs = some (x, rest, ids) -> (∀ c ∈ rest, c ∈ cs) /\ ∀ id ∈ ids, (∃ u l o, σ id = some (.arr u l o)) \/ Cell.nk id ∈ cs := by
 intro t
 induction t with
 | list t _ =>
  intro cs x rest ids h
  cases cs with
  | nil => simp [aG] at h
  | cons c cs =>
   have h : (iZ σ m t c).map (fun (l, ids) => (l, cs, ids)) = some (x, rest, ids) := by cases c <;> simpa [aG] using h
   rw [Option.map_eq_some_iff] at h
   obtain ⟨⟨l, js⟩, hl, he⟩ := h
   simp at he
   obtain ⟨rfl, rfl, rfl⟩ := he
   refine ⟨fun c hc => List.mem_cons_of_mem _ hc, fun id hid => .inl ?_⟩
   obtain ⟨u, l', o, h, _⟩ := EP hl id hid
   exact ⟨u, l', o, h⟩
 | dh t _ =>
  intro cs x rest ids h
  cases cs with
  | nil => simp [aG] at h
  | cons c cs =>
   have h : (kI σ m t c).map (fun (l, ids) => (l, cs, ids)) = some (x, rest, ids) := by cases c <;> simpa [aG] using h
   rw [Option.map_eq_some_iff] at h
   obtain ⟨⟨l, js⟩, hl, he⟩ := h
   simp at he
   obtain ⟨rfl, rfl, rfl⟩ := he
   refine ⟨fun c hc => List.mem_cons_of_mem _ hc, fun id hid => .inr ?_⟩
   clear h
   cases c <;> simp only [kI] at hl <;> try (cases hl; done)
   case nil => simp at hl; rw [hl.2] at hid; simp at hid
   case list fr u l' =>
    cases m <;> cases fr <;> simp at hl
    all_goals
     obtain ⟨x, hx, rfl, rfl⟩ := hl
     simp at hid
   case nk id' =>
    cases hs : σ id' with
    | none => simp [hs] at hl
    | some e =>
     cases e with
     | box _ _ => simp [hs] at hl
     | arr _ _ _ => simp [hs] at hl
     | deep u l' n =>
      cases m <;> cases n <;> simp [hs] at hl
      all_goals
       obtain ⟨x, hx, rfl, rfl⟩ := hl
       simp at hid
       subst hid
       simp
 | pair a b iha ihb =>
  intro cs x rest ids h
  rw [jQ] at h
  cases h1 : aG σ m a cs with
  | none => simp [h1] at h
  | some r1 =>
   obtain ⟨x1, xC, MQ⟩ := r1
   simp only [h1] at h
   cases h2 : aG σ m b xC with
   | none => simp [h2] at h
   | some r2 =>
    obtain ⟨x2, Kv, MR⟩ := r2
    simp [h2] at h
    obtain ⟨rfl, rfl, rfl⟩ := h
    obtain ⟨k1, k2⟩ := iha h1
    obtain ⟨k3, k4⟩ := ihb h2
    refine ⟨fun c hc => k1 c (k3 c hc), fun id hid => ?_⟩
    rcases List.mem_append.1 hid with hid | hid
    ·exact k2 id hid
    ·exact (k4 id hid).imp_right (k1 _)
 | bool =>
  intro cs x rest ids h
  cases cs with
  | nil => simp [aG] at h
  | cons c cs => cases c <;> simp [aG] at h <;> (obtain ⟨_, rfl, rfl⟩ := h; exact ⟨fun c hc => List.mem_cons_of_mem _ hc, fun id hid => (by simp at hid)⟩)
 | int k =>
  intro cs x rest ids h
  cases cs with
  | nil => simp [aG] at h
  | cons c cs => cases c <;> simp [aG] at h; obtain ⟨_, _, rfl, rfl⟩ := h; exact ⟨fun c hc => List.mem_cons_of_mem _ hc, fun id hid => (by simp at hid)⟩
 | str =>
  intro cs x rest ids h
  cases cs with
  | nil => simp [aG] at h
  | cons c cs => cases c <;> simp [aG] at h; obtain ⟨_, rfl, rfl⟩ := h; exact ⟨fun c hc => List.mem_cons_of_mem _ hc, fun id hid => (by simp at hid)⟩
 | unit =>
  intro cs x rest ids h
  have h : rest = cs /\ ids = [] := by
   cases cs with
   | nil => simp [aG] at h; exact ⟨h.1, h.2⟩
   | cons c cs => cases c <;> simp [aG] at h <;> exact ⟨h.1.symm, h.2⟩
  obtain ⟨rfl, rfl⟩ := h
  exact ⟨fun c hc => hc, fun id hid => by simp at hid⟩
def DW (s : St) (pl : Nat -> Option Pl) (G : Nat -> Prop) : Prop := ∀ id t l n p, s.ak id = some (.deep t l n) -> pl id = some p -> ∀ b ∈ p.EN, G b
theorem yO {s : St} {m : Mode} {t : Ty} {cs : List Cell} {x : t.den} {ids : List Nat} (h : bH s.ak m t cs = some (x, ids)) : ∀ id ∈ ids, ∀ u l n, s.ak id = some (.deep u l n) -> Cell.nk id ∈ cs := by
 unfold bH at h
 split at h
 ·rename_i x' rD he
  simp at h
  obtain ⟨rfl, rfl⟩ := h
  intro id hid u l n hs
  rcases (Nn he).2 id hid with ⟨_, _, _, h⟩ | h
  ·rw [hs] at h; cases h
  ·exact h
 ·cases h
theorem Np {F0 : lH} {A G Gc : Nat -> Prop} {s : St} {a : Act} {w : World} {pl : Nat -> Option Pl} (i : Inv F0 G s a w pl) (JD : ∀ b, G b -> Gc b) (qZ : ∀ b, F0 b \/ G b -> A b) (yU : ∀ id e p, s.ak id = some e -> pl id = some p -> ∀ b ∈ e.bs p, A b) {cp cp' : Cap} {u : Value} (hu : oG (mem F0 G w.heap s.ak pl) cp u) (hcp : xu s cp = some cp') (hD : kJ s cp = true -> DW s pl Gc) :
  oG (zB A Gc w.heap) cp' u := by
  have sW : ∀ b, G b -> A b := fun b hb => qZ b (.inr hb)
  cases cp with
  | ro t y =>
   simp [xu] at hcp
   subst hcp
   obtain ⟨b, o, es, h1, h2, h3, h4⟩ := hu
   exact ⟨b, o, es, h1, qZ b h2, Rd.move JD (fun _ _ => rfl) qZ (fun _ _ => rfl) h3, h4⟩
  | ptr id =>
   obtain ⟨t', cs, p, hs, hp, ho, hv⟩ := hu
   obtain ⟨p', c, e, fz, h1, h2, h3, h4, h5, h6, h7, h8, h9⟩ := i.ak.ent id _ hs
   obtain rfl : p = p' := Option.some.inj (hp.symm.trans h1)
   simp only [xu, show s.ak id = some (.box t' cs) from hs] at hcp
   cases t' with
   | none => simp at hcp
   | some t' =>
    simp only at hcp
    obtain ⟨⟨y, ids⟩, hof, rfl⟩ := Option.map_eq_some_iff.1 hcp
    have hh : w.heap[p.b]? = some (.cells c e fz) := h3
    have hb : A p.b := yU id _ p hs hp _ (Entry.oI _ p)
    have hr : Rd Gc w.heap t' A y c.toList := jm i.ak JD sW (fun _ => qZ) hof h8 (fun j hj q hq => by
     obtain ⟨_, he⟩ := (mo hof j hj).ent
     exact yU j _ q he hq _ (Entry.oI _ q)) (fun j hj t l n q hs' hq => hD (by
      simp only [kJ, show s.ak id = some (.box (some t') cs) from hs, List.any_eq_true]
      exact ⟨.nk j, yO hof j hj t l n hs', rfl⟩) j t l n q hs' hq)
    refine ⟨p.b, 0, c.toList, hv, hb, hr, fun j u hj => ?_⟩
    unfold hcell
    show (match w.heap[p.b]? with | some (.cells c _ _) => c[0 + j]? | _ => none) = _
    rw [hh]
    simpa using hj
theorem DX {F0 : lH} {A G Gc : Nat -> Prop} {s : St} {a : Act} {w : World} {pl : Nat -> Option Pl} (i : Inv F0 G s a w pl) (JD : ∀ b, G b -> Gc b) (qZ : ∀ b, F0 b \/ G b -> A b) (yU : ∀ id e p, s.ak id = some e -> pl id = some p -> ∀ b ∈ e.bs p, A b) : ∀ {caps zw : List Cap} {vs : List Value}, kF s caps = some zw -> vs.length = caps.length ->
  (∀ (i : Nat) c u, caps[i]? = some c -> vs[i]? = some u -> oG (mem F0 G w.heap s.ak pl) c u) ->
  (caps.any (kJ s) = true -> DW s pl Gc) -> vs.length = zw.length /\ ∀ (i : Nat) c u, zw[i]? = some c -> vs[i]? = some u -> oG (zB A Gc w.heap) c u := by
 intro caps
 induction caps with
 | nil => intro zw vs h hl _ _; simp [kF] at h; subst h; exact ⟨hl, fun i c u hi => by simp at hi⟩
 | cons c0 caps ih =>
  intro zw vs h hl hcs hD
  simp only [kF] at h
  split at h
  ·rename_i c1 r1 hc1 hr1
   simp at h
   subst h
   cases vs with
   | nil => simp at hl
   | cons v vs =>
    obtain ⟨k1, k2⟩ := ih hr1 (by simpa using hl) (fun i c u hi hu => hcs (i + 1) c u (by simpa using hi) (by simpa using hu)) (fun h => hD (by rw [List.any_cons, h, Bool.or_true]))
    refine ⟨by simp [k1], fun j c u hi hu => ?_⟩
    cases j with
    | zero => simp at hi hu; subst hi hu; exact Np i JD qZ yU (hcs 0 c0 v rfl rfl) hc1 (fun h => hD (by rw [List.any_cons, h, Bool.true_or]))
    | succ j => exact k2 j c u (by simpa using hi) (by simpa using hu)
  ·cases h
theorem Nq {C : dA} {F0 : lH} {A G Gc : Nat -> Prop} {s : St} {a : Act} {w : World} {pl : Nat -> Option Pl} (i : Inv F0 G s a w pl) (JD : ∀ b, G b -> Gc b) (qZ : ∀ b, F0 b \/ G b -> A b) (yU : ∀ id e p, s.ak id = some e -> pl id = some p -> ∀ b ∈ e.bs p, A b) {t : TypeId} {c : aH} {v : Value} {x : Arg} (hc : eX (mem F0 G w.heap s.ak pl) c v)
  (h : nA C s t c = some x) (aei : ∀ b, Gc b -> A b) (hD : c.cells.any (kK s) = true -> DW s pl Gc) : ArgRel A Gc w.heap x v := by
 have sW : ∀ b, G b -> A b := fun b hb => qZ b (.inr hb)
 unfold nA at h
 ·split at h
  ·rename_i u hu
   cases hb : (c.known && EK u c) with
   | false => rw [hb] at h; cases h
   | true =>
    rw [hb] at h
    simp only [cond_true] at h
    simp only [Bool.and_eq_true] at hb
    cases hkt : C.Uh.contains t with
    | true =>
    rw [hkt] at h
    simp only [cond_true] at h
    split at h
    ·rename_i y hof
     simp at h
     subst h
     exact ⟨v.cells.toList, jm i.ak JD JD (fun h => by cases h) hof (iw hb.1 hc) (fun j hj => by simp at hj) (fun j hj => by simp at hj), vD hb.1 hb.2 hc⟩
    ·cases h
    | false =>
    rw [hkt] at h
    simp only [cond_false] at h
    cases hk : u.kept with
    | true =>
    rw [hk] at h
    simp only [cond_true] at h
    split at h
    ·rename_i y hof
     simp at h
     subst h
     exact ⟨v.cells.toList, by rw [hk]; exact jm i.ak JD JD (fun h => by cases h) hof (iw hb.1 hc) (fun j hj => by simp at hj) (fun j hj => by simp at hj), vD hb.1 hb.2 hc⟩
    ·cases h
    | false =>
    rw [hk] at h
    simp only [cond_false] at h
    obtain ⟨⟨y, ids⟩, hof, rfl⟩ := Option.map_eq_some_iff.1 h
    exact ⟨v.cells.toList, by rw [hk]; exact jm i.ak JD sW (fun _ => qZ) hof (iw hb.1 hc) (fun j hj q hq => by
     obtain ⟨_, he⟩ := (mo hof j hj).ent
     exact yU j _ q he hq _ (Entry.oI _ q)) (fun j hj t l n q hs' hq => hD (by
      simp only [List.any_eq_true]
      exact ⟨.nk j, yO hof j hj t l n hs', rfl⟩) j t l n q hs' hq), vD hb.1 hb.2 hc⟩
  ·split at h
   ·rename_i f caps
    obtain ⟨zw, aav, rfl⟩ := Option.map_eq_some_iff.1 h
    obtain ⟨vs, hv, hl, hcs⟩ := hc
    obtain ⟨k1, k2⟩ := DX i JD qZ yU aav hl hcs (fun h => hD (by simpa [aH.cells, kK] using h))
    exact ⟨vs, hv, k1, k2⟩
   ·rename_i id
    split at h
    ·rename_i t' y hcp
     simp at h
     subst h
     obtain ⟨b, o, es, h1, h2, h3, h4⟩ := Np i JD qZ yU (cp := .ptr id) hc hcp (fun h => hD (by simpa [aH.cells, kK] using h))
     exact ⟨b, o, es, by rw [Nat.add_zero]; exact h1, h2, h3, h4⟩
    ·cases h
   ·rename_i fr t' y
    simp at h
    subst h
    obtain ⟨b, o, es, h1, h2, h3, h4⟩ := hc
    refine ⟨b, o, es, h1, qZ b h2, ?_, h4⟩
    show Rd Gc w.heap t' A y es
    cases fr with
    | false => exact Rd.move JD (fun _ _ => rfl) qZ (fun _ _ => rfl) h3
    | true => exact Rd.move JD (fun _ _ => rfl) sW (fun _ _ => rfl) h3
   ·cases h
end Go.Flat
