/- What the law FnExactStepsAndLeaps is to say over numbers and lists alone, and that what reads as its arguments are such. No condition. -/
import Derived.Test.YtidegbeadeoaeaaPFnExactStepsAndLeapsx3
import Derived.Test.YtidegbeadeoaeaaFit
import Derived.KernelRfl
namespace Go.Proofs.Ytidegbeadeoaeaa.PFnExactStepsAndLeaps
open Go.RowKit Go.Proofs.Ytidegbeadeoaeaa Go.Proofs.YtidegbeadeoaeaaW.PrintWords Go.Proofs.YtidegbeadeoaeaaW.PrintLast
def W88 : S88 → Prop := Fit.Wiso (Fit.Wpair (Fit.Wint .i64) (Fit.Wpair (Fit.Wint .i64) (Fit.Wpair (Fit.Wint .i64) (Fit.Wint .i64)))) (fun x : S88 => (x.f0, x.f1, x.f2, x.f3))
theorem fit88 : Fit.Fits Try.prog 88 k88 W88 := Fit.fits_struct (fun x : S88 => (x.f0, x.f1, x.f2, x.f3)) (fun x => (⟨x.1, x.2.1, x.2.2.1, x.2.2.2⟩ : S88)) (fun _ => rfl) Try.underlying88 (by kernel_rfl) (Fit.fitsF_cons rfl rfl (by kernel_rfl) (Fit.fits_int Try.underlying3) (Fit.fitsF_cons rfl rfl (by kernel_rfl) (Fit.fits_int Try.underlying3) (Fit.fitsF_cons rfl rfl (by kernel_rfl) (Fit.fits_int Try.underlying3) (Fit.fitsF_last rfl (by kernel_rfl) (Fit.fits_int Try.underlying3)))))
def laws_FnExactStepsAndLeaps.Pure : Prop := ∀ (l0 : List (S88)) (a1 : Int), (Fit.Wsl W88) l0 → (Fit.Wint .i64) a1 → ∃ k, laws_FnExactStepsAndLeaps.f k l0 a1 = some true
end Go.Proofs.Ytidegbeadeoaeaa.PFnExactStepsAndLeaps
