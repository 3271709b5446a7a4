/- The law's helpers. No condition. -/
import Derived.Test.YtmocpfgfjeaelaaGreatQFnAudited
import Derived.Test.YtmocpfgfjeaelaaGreatPur
set_option linter.unusedVariables false
set_option linter.unusedSimpArgs false
open Go Go.Flat
namespace Go.QFnAudited

end Go.QFnAudited
