/- What the law FnExactOrderCost is to say over numbers and lists alone, and that what reads as its arguments are such. No condition. -/
import Derived.Test.YtidegbeadeoaeaaPFnExactOrderCostx6
import Derived.Test.YtidegbeadeoaeaaFit
import Derived.KernelRfl
namespace Go.Proofs.Ytidegbeadeoaeaa.PFnExactOrderCost
open Go.RowKit Go.Proofs.Ytidegbeadeoaeaa Go.Proofs.YtidegbeadeoaeaaW.PrintWords Go.Proofs.YtidegbeadeoaeaaW.PrintLast
def W33 : S33 → Prop := Fit.Wiso (Fit.Wpair (Fit.Wint .i64) (Fit.Wsl (Fit.Wint .i64))) (fun x : S33 => (x.f0, x.f1))
theorem fit33 : Fit.Fits Try.prog 33 k33 W33 := Fit.fits_struct (fun x : S33 => (x.f0, x.f1)) (fun x => (⟨x.1, x.2⟩ : S33)) (fun _ => rfl) Try.underlying33 (by kernel_rfl) (Fit.fitsF_cons rfl rfl (by kernel_rfl) (Fit.fits_int Try.underlying3) (Fit.fitsF_last rfl (by kernel_rfl) (Fit.fits_slice Try.underlying31 (by kernel_rfl) (Fit.fits_int Try.underlying3))))
def laws_FnExactOrderCost.Pure : Prop := ∀ (l0 : List (S33)) (l1 : List Int), (Fit.Wsl W33) l0 → (Fit.Wsl (Fit.Wint .i64)) l1 → ∃ k, laws_FnExactOrderCost.f k l0 l1 = some true
end Go.Proofs.Ytidegbeadeoaeaa.PFnExactOrderCost
