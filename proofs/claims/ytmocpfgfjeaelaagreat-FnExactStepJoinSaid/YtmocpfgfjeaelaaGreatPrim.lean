/- Functions of Go's library whose answers are told by their contracts. No condition. -/
import Derived.Test.YtmocpfgfjeaelaaGreatDraw4
import Derived.Lib.Join
import Derived.Lib.ItoaNum
import Derived.Lib.Repeat
import Derived.Lib.LaidTab
import Derived.Sort.Grow
import Derived.Deep.Draws
import Derived.Below
set_option linter.unusedVariables false
set_option linter.unusedSimpArgs false
namespace Go.Flat
open Go.RowKit
section
variable {C:aZ} {f:FuncId} {fn:Func}
end
end Go.Flat
