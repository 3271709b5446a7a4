/- Tools for walks: a call of a function value that lies in a slot, as one step. No condition. -/
import Derived.Test.YtidegbeadeoaeaaWLast
import Derived.Test.YtidegbeadeoaeaaWMore
import Derived.Test.YtidegbeadeoaeaaWKept
import Derived.Test.YtidegbeadeoaeaaWZeros
namespace Go.Proofs.Ytidegbeadeoaeaa.Fnw
open Go.RowKit Go.Proofs.YtidegbeadeoaeaaW.PrintWords Go.Proofs.YtidegbeadeoaeaaW.PrintLast Go.Proofs.YtidegbeadeoaeaaW.PrintMore
section
variable {P : Program} {ops : Array Oper} {rest : List Oper} {o : Oper} {a : Act} {W : World} {Q : Exit → Act → World → Prop}
/-- The operation is a call of what lies in this slot. -/
theorem gate_slot {t : Tmp} {as : Array Operand} {ts : Array TypeId} (_ho : o.op = .call { callee := .value (.tmp t), args := as, argTypes := ts }) (h : wpList P ops Q (o :: rest) a W) : wpList P ops Q (o :: rest) a W := h
theorem goesV_ {oi : Oper} {w : World} (N : Option Tmp) (hd : oi.dst = N) (hg : oi.guard = none) {f : FuncId} {fn : Func} {t : Tmp} {as : Array Operand} {ts : Array TypeId} (hf : P.funcs[f]? = some fn) (hname : (fn.name == "runtime.NumGoroutine") = false) (hb : fn.body.isSome = true) (args : Array Value)
    (hop : oi.op = .call { callee := .value (.tmp t), args := as, argTypes := ts }) {cap : Array Value} (hv : a.eval (.tmp t) = .func (.func f) #[] cap) (hargs : as.map a.eval ++ cap = args)
    (h : Calls P f args w fun e w' => ∃ v, e = .returned v ∧ wpList P ops Q rest (a.put N v) w') : wpList P ops Q (oi :: rest) a w := by
  refine wpList_plain hg fun K hK => ?_
  have he := enters_ hf hname hb args w
  have hrun : (execOp a.eval oi).run P w = .ok (.enter f args) w := by
    unfold execOp
    simp [hop, resolve, Deferred.ofValue, invoke, hv, hargs, he]
  unfold Oper.wp
  rw [hrun, Oper.upon_enter]
  refine h.mono fun e w'' hh => ?_
  obtain ⟨v, rfl, hk⟩ := hh
  subst hd
  exact hK _ _ hk
theorem goesW_ {oi : Oper} {N : Option Tmp} {w : World} {K : Act → World → Prop} {f : FuncId} {fn : Func} {t : Tmp} {as : Array Operand} {ts : Array TypeId} (hf : P.funcs[f]? = some fn) (hname : (fn.name == "runtime.NumGoroutine") = false) (hb : fn.body.isSome = true) (args : Array Value)
    (hw : Region.wanted oi (yielded ops a.tmps) = true) (hN : oi.dst = N) (hop : oi.op = .call { callee := .value (.tmp t), args := as, argTypes := ts }) {cap : Array Value} (hv : a.eval (.tmp t) = .func (.func f) #[] cap) (hargs : as.map a.eval ++ cap = args)
    (h : Calls P f args w fun e w' => ∃ v, e = .returned v ∧ K (a.put N v) w') : if Region.wanted oi (yielded ops a.tmps) = true then Oper.wp P oi a w K Q else K (a.put N undef) w := by
  refine call_ f args hw hN ?_ h
  have he := enters_ hf hname hb args w
  unfold execOp
  simp [hop, resolve, Deferred.ofValue, invoke, hv, hargs, he]
end
/-- A variable in memory, as a row of one element that is read. -/
theorem C_box {α : Type} {d : Kd α} {w : World} {g T : Nat} {cs : Array Value} {x : α} (hb : w.heap[g]? = some (.cells cs T (0, 0))) (hK : d.K w x cs.toList) : d.C w (some ⟨g, 0, none⟩) 1 [x] := by
  refine ⟨rfl, by omega, fun _ => ⟨⟨g, 0, none⟩, rfl, fun j p hp => ?_⟩⟩
  obtain ⟨rfl, rfl⟩ : j = 0 ∧ p = x := by
    cases j with
    | zero => simpa [eq_comm] using hp
    | succ j => simp at hp
  refine ⟨cs.toList, d.K_len hK, hK, fun i u hu => ?_⟩
  have hc := blk_cell hb i
  rw [Nat.zero_mul, Nat.zero_add]
  have ha : (⟨g, 0, none⟩ : Addr).add i = ⟨g, i, none⟩ := by
    unfold Addr.add
    by_cases h : i = 0
    · subst h; rfl
    · rw [if_neg h]; simp
  rw [ha, hc]
  simpa using hu
theorem C_kept_box {α : Type} {d : Kd α} {w : World} {g T : Nat} {cs : Array Value} {x : α} {S : Nat → Prop} (hb : w.heap[g]? = some (.cells cs T (0, 0))) (hK : ∀ W, d.K W x cs.toList) (hS : ∀ k, S k → k = g → False) : ∀ W', Kept w W' S → d.C W' (some ⟨g, 0, none⟩) 1 [x] := fun W' hk =>
  C_box ((hk.2 g (Array.getElem?_eq_some_iff.1 hb).1 (fun h => hS g h rfl)).trans hb) (hK W')
section
variable {P : Program} {α : Type}
/-- 'clear(out[k:])' on a row of one's own: zeros from k on. -/
theorem R_clear_run (d : Kd α) {W : World} (base : Nat) (t ty e : TypeId) (z : Value) (bytes : Nat) (ht : P.underlying t = some (.slice e)) (hinfo : (P.info? e).map (fun i => (i.zero, i.size, i.bytes)) = some (some z, d.sz, bytes)) (hz : z.cells.size = d.sz) (hs0 : 0 < d.sz)
    (z0 : α) (hzero : d.M W base (fun _ => False) z0 z.cells.toList) {A0 : Option Addr} {n c k : Nat} {xs : List α} {ok : Nat → Prop} (HO : d.R e W base ok (.slice A0 n c) xs) (hk : k ≤ n) {A : Option Addr} (hA : A = if c = k then A0 else A0.map (·.add (k * d.sz))) (c2 : Nat) :
    ∃ w1, (Builtin.clear_ #[t] ty #[.slice A (n - k) c2]).run P W = .ok (.tuple #[]) w1 ∧ d.R e w1 base ok (.slice A0 n c) (xs.take k ++ List.replicate (xs.length - k) z0) ∧ W.grownBy w1 (Value.slice A0 n c).ownBlock := by
  obtain ⟨hn, hnc, _⟩ := Kd.R_reads' HO
  by_cases h0 : n - k = 0
  · refine ⟨W, ?_, ?_, World.grownBy.refl W _⟩
    · rw [h0]
      cases A <;> simp [Builtin.clear_, run_underlying ht]
    · rw [show xs.length - k = 0 by omega, List.replicate_zero, List.append_nil, List.take_of_length_le (by omega)]
      exact HO
  obtain ⟨i0, hi, hzz⟩ := Option.map_eq_some_iff.1 hinfo
  simp only [Prod.mk.injEq] at hzz
  obtain ⟨hz0, hz1, hz2⟩ := hzz
  obtain ⟨hok, inner, hown, hr⟩ := HO
  have hin : inner.length = n * d.sz := by rw [hr.1, hn]
  rcases hown.2 with ⟨hv, _⟩ | ⟨g, cap', cur, hv, hb, hh, _, hcm, hcs, htake⟩
  · injection hv with _ hv2 _
    omega
  injection hv with ha _ hc
  subst hc
  subst ha
  rw [← hn] at htake
  rw [if_neg (by omega), Option.map_some, add_at, Nat.zero_add] at hA
  subst hA
  have hnM : Reps (d.M W base (fun _ => False)) d.sz (List.replicate (n - k) z0) (Builtin.zeroCells z.cells (n - k)).toList := Kd.reps_zeros hz hs0 hzero (n - k)
  obtain ⟨news, hnews⟩ : ∃ news, news = (Builtin.zeroCells z.cells (n - k)).toList := ⟨_, rfl⟩
  have hnl : news.length = (n - k) * d.sz := by rw [hnews, Array.length_toList, size_zeroCells, hz]
  have hone : ∀ u ∈ news, u.oneCell' = true := by rw [hnews]; exact Kd.reps_one hnM hs0 (fun _ _ hp => d.K_one (d.K_of_M hp))
  have hle : k * d.sz ≤ n * d.sz := Nat.mul_le_mul_right _ hk
  have hnc' : n * d.sz ≤ c * d.sz := Nat.mul_le_mul_right _ hnc
  have hsub : (n - k) * d.sz = n * d.sz - k * d.sz := Nat.sub_mul _ _ _
  have hfit : k * d.sz + news.length ≤ cur.size := by omega
  have hst := run_storeCells_cells (P := P) g (k * d.sz) news 0 W (fun j hj => by rw [cell_of_row W g _ cur e (0, 0) hh]; simp; omega) (fun j _ => blk_frozen hh _) hone
  rw [Nat.add_zero] at hst
  have hrun : (Builtin.clear_ #[t] ty #[.slice (some ⟨g, k * d.sz, none⟩) (n - k) c2]).run P W = .ok (.tuple #[]) (W.setCells g (k * d.sz) news) := by
    obtain ⟨m, hm⟩ : ∃ m, n - k = m + 1 := ⟨n - k - 1, by omega⟩
    rw [hm] at hnews ⊢
    rw [hnews] at hst ⊢
    simp [Builtin.clear_, run_underlying ht, zeroValue, typeInfo, hi, hz0, hst]
  obtain ⟨cur', h3, h4, h5⟩ := setCells_row news (k * d.sz) W cur hh hfit
  obtain ⟨s1, s2, s3, s4⟩ := setCells_same g news (k * d.sz) W
  have hfar : ∀ k', k' ≠ g → (W.setCells g (k * d.sz) news).heap[k']? = W.heap[k']? := fun k' hk' => setCells_far news _ k' hk'
  have hgo : some g = (Value.slice (some ⟨g, 0, none⟩) n c).ownBlock := by simp [Value.ownBlock]
  have hel : (xs.take k ++ List.replicate (xs.length - k) z0).length = n := by rw [List.length_append, List.length_take, List.length_replicate]; omega
  have hnr : n = n ∧ n * d.sz = k * d.sz + (n - k) * d.sz := ⟨rfl, by omega⟩
  refine ⟨_, hrun, ⟨hok, inner.take (k * d.sz) ++ news, ⟨?_, .inr ⟨g, c, cur', by rw [hel], hb, h3, by rw [hel]; exact hnc, hcm, by rw [h4, hcs], ?_⟩⟩, ?_⟩, ⟨s1, s2, s3, by rw [s4]; exact Nat.le_refl _, fun k' _ hk' => hfar k' (fun he => hk' (by rw [he, hgo]))⟩⟩
  · rw [List.length_append, List.length_take, hnl, hel]
    omega
  · rw [hel, h5]
    have h7 : cur.toList.take (k * d.sz) = inner.take (k * d.sz) := by
      rw [← htake, List.take_take, Nat.min_eq_left (by omega)]
    rw [h7]
    exact List.take_left' (by rw [List.length_append, List.length_take, hnl]; omega)
  · have hmv : ∀ p q, d.M W base (fun k' => ok k' ∧ some k' ≠ (Value.slice (some ⟨g, 0, none⟩) n c).ownBlock) p q → d.M (W.setCells g (k * d.sz) news) base (fun k' => ok k' ∧ some k' ≠ (Value.slice (some ⟨g, 0, none⟩) n c).ownBlock) p q := fun p q hp =>
      d.M_move (fun k' hk' => hfar k' (fun he => hk'.2 (by rw [← hgo, he]))) hp
    have hmz : ∀ p q, d.M W base (fun _ => False) p q → d.M (W.setCells g (k * d.sz) news) base (fun k' => ok k' ∧ some k' ≠ (Value.slice (some ⟨g, 0, none⟩) n c).ownBlock) p q := fun p q hp =>
      d.M_mono (fun _ hk' => hk'.elim) (d.M_move (fun k' hk' => hk'.elim) hp)
    rw [show xs.length - k = n - k by rw [hn]]
    subst hnews
    exact Kd.reps_append ((Kd.reps_take hr (by omega)).imp_ hmv) (hnM.imp_ hmz)
end
section
variable {P : Program} {ops : Array Oper} {rest : List Oper} {o : Oper} {a : Act} {Q : Exit → Act → World → Prop} {α : Type}
theorem R_clear (d : Kd α) {w0 W : World} (base : Nat) (hgd : o.guard = none) (x : Operand) (t e : TypeId) (ho : o.op = .call { callee := .builtin .clear, args := #[x], argTypes := #[t] })
    (ht : P.underlying t = some (.slice e)) (z : Value) (bytes : Nat) (hinfo : (P.info? e).map (fun i => (i.zero, i.size, i.bytes)) = some (some z, d.sz, bytes)) (hz : z.cells.size = d.sz) (hs0 : 0 < d.sz) (z0 : α)
    {n c k m c2 : Nat} {A0 A : Option Addr} {xs : List α} {ok : Nat → Prop} (hx : a.eval x = .slice A m c2) (hA : A = if c = k then A0 else A0.map (·.add (k * d.sz))) (hm : m = n - k)
    (HO : d.R e W base ok (.slice A0 n c) xs) (hk : k ≤ n) (hzero : d.M W base (fun _ => False) z0 z.cells.toList) (HB : Below base w0 W) (hbase : base ≤ W.heap.size)
    (h : ∀ w1, d.R e w1 base ok (.slice A0 n c) (xs.take k ++ List.replicate (xs.length - k) z0) → Below base w0 w1 → W.grownBy w1 (Value.slice A0 n c).ownBlock → wpList P ops Q rest (a.put o.dst (.tuple #[])) w1) : wpList P ops Q (o :: rest) a W := by
  subst hm
  obtain ⟨w1, hr, h1, h2⟩ := R_clear_run (P := P) d base t o.type e z bytes ht hinfo hz hs0 z0 hzero HO hk hA c2
  refine wpList_plain hgd fun K hK => ?_
  unfold Oper.wp execOp
  simp only [ho, resolve, invoke, builtin, Sem.run_bind, Sem.run_pure, Result.andThen_ok, List.map_toArray, List.map_cons, List.map_nil, hx, hr]
  exact hK _ _ (h w1 h1 (HB.grown h2 hbase (Kd.R_base HO)) h2)
end
end Go.Proofs.Ytidegbeadeoaeaa.Fnw
