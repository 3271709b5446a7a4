/- slices.SortFunc at rows of events, laid. No condition. -/
import Derived.Test.YtpllllapbjkkbaaPureCmp
import Derived.Test.YtpllllapbjkkbaaSortF
import Derived.Test.YtpllllapbjkkbaaDraw4
import Derived.Shelf.SlSortCmp.NoneTotal
import Derived.Shelf.Lay
import Derived.Ground.SlsfProg
import Derived.WalkKit
import Derived.ProofKit
set_option linter.unusedVariables false
namespace Go.Proofs
open Go.Shelf Go.RowKit Go.Lib Go.Sort Go.Flat
shelf_lay_g SlLaysF0.n6 Slsf 6 at Try 89 as Try.sortF
theorem Try.cmp_good : Go.Flat.Good Go.QCmp.C := ⟨by kernel_rfl, by kernel_rfl, by kernel_rfl⟩
theorem Try.cmp_walk (x y : evT.den) (w : World) : Calls Try.prog 85 #[.agg (cv evT x).toArray, .agg (cv evT y).toArray] w fun e w' => e = .returned (.int .i64 (evCmp x y)) ∧ ∃ q os, w' = grow (w.drewN q) os := by
  obtain ⟨k, hk⟩ := Go.QCmp.cmp_holds x y
  exact cmp_lays (C := Go.QCmp.C) (T := evT) rfl rfl rfl rfl (calls_ok Try.cmp_good (fun f p h => by cases h) k) Try.func85 (by kernel_rfl) hk w
theorem Try.sort89_none (a : Option Addr) (c : Nat) (fv : Value) (w : World) : Calls Try.prog 89 #[.slice a 0 c, fv] w fun e w' => e = .returned (.tuple #[]) ∧ w' = w :=
  AnyF.slices_SortFunc_none Try.sortF a c fv w
theorem Try.sort89_eq (bk o c : Nat) (xs : List evT.den) (w : World) (hH : HoldsK (cv evT) evT.sz w bk o xs.toArray) (hb : bk < w.heap.size) (hl : xs.length < 4611686018427387904) : Calls Try.prog 89 #[.slice (some ⟨bk, o, none⟩) xs.length c, .func (.func 85) #[] #[]] w fun e w' =>
    e = .returned (.tuple #[]) ∧ ∃ n os, w' = sortWorldK (cv evT) evT.sz w bk o n (Go.Flat.sortF evT evCmp xs).toArray os := by
  have h := AnyQ.slices_SortFunc_eq Try.sortF evT.sz Try.isAgg101 Try.sizeOf101 (cv evT) (fun x => cv_len rfl) (fun x => cv_one rfl) evCmp evCmp_swo 85 #[] bk o c xs.toArray w (enters_of Try.func85 (by kernel_rfl) rfl) (fun m os dk _ x y => Try.cmp_walk x y _) hH hb hl
  exact h
theorem Try.sort89_len (l : List evT.den) : (Go.Flat.sortF evT evCmp l).length = l.length := Go.Flat.sortF_len evCmp_swo l
end Go.Proofs
