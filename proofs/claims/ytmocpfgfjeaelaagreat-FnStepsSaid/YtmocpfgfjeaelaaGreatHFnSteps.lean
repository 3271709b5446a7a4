/- The law's helpers. No condition. -/
import Derived.Test.YtmocpfgfjeaelaaGreatQFnSteps
import Derived.Test.YtmocpfgfjeaelaaGreatPur
set_option linter.unusedVariables false
set_option linter.unusedSimpArgs false
open Go Go.Flat
namespace Go.jy
end Go.jy
