/- The law's helpers. No condition. -/
import Derived.Test.YtboaihbcaoofcaaDoorQFnExactFormatEvent
import Derived.Test.YtboaihbcaoofcaaDoorPur
set_option linter.unusedVariables false
set_option linter.unusedSimpArgs false
open Go Go.Flat
namespace Go.QFnExactFormatEvent
theorem laws_toEvent_id (x : DT34) (h : Bk T34 x) : Ev (fun k => laws_toEvent k x) x := Ev.eq (fun k => laws_toEvent_eq k x) Ev.ret
end Go.QFnExactFormatEvent
