/- What the law FnExactRestShare is to say over numbers and lists alone, and that what reads as its arguments are such. No condition. -/
import Derived.Test.YtidegbeadeoaeaaPFnExactRestSharex2
import Derived.Test.YtidegbeadeoaeaaFit
import Derived.KernelRfl
namespace Go.Proofs.Ytidegbeadeoaeaa.PFnExactRestShare
open Go.RowKit Go.Proofs.Ytidegbeadeoaeaa Go.Proofs.YtidegbeadeoaeaaW.PrintWords Go.Proofs.YtidegbeadeoaeaaW.PrintLast
def W100 : S100 → Prop := Fit.Wiso (Fit.Wpair (Fit.Wint .i64) (Fit.Wpair (Fit.Wint .i64) (Fit.Wint .i64))) (fun x : S100 => (x.f0, x.f1, x.f2))
theorem fit100 : Fit.Fits Try.prog 100 k100 W100 := Fit.fits_struct (fun x : S100 => (x.f0, x.f1, x.f2)) (fun x => (⟨x.1, x.2.1, x.2.2⟩ : S100)) (fun _ => rfl) Try.underlying100 (by kernel_rfl) (Fit.fitsF_cons rfl rfl (by kernel_rfl) (Fit.fits_int Try.underlying3) (Fit.fitsF_cons rfl rfl (by kernel_rfl) (Fit.fits_int Try.underlying3) (Fit.fitsF_last rfl (by kernel_rfl) (Fit.fits_int Try.underlying3))))
def laws_FnExactRestShare.Pure : Prop := ∀ (l0 : List (S100)), (Fit.Wsl W100) l0 → ∃ k, laws_FnExactRestShare.f k l0 = some true
end Go.Proofs.Ytidegbeadeoaeaa.PFnExactRestShare
