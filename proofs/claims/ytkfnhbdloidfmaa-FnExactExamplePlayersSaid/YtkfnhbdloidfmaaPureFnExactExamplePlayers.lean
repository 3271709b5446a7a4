/- The plain half of FnExactExamplePlayers: all is given, so it is reckoned out. No condition. -/
import Derived.Test.YtkfnhbdloidfmaaQFnExactExamplePlayers
import Derived.KernelRfl
open Go Go.Flat
namespace Go.QFnExactExamplePlayers
theorem pure : ∃ k, laws_FnExactExamplePlayers k = some true := ⟨12, by kernel_rfl⟩
end Go.QFnExactExamplePlayers
