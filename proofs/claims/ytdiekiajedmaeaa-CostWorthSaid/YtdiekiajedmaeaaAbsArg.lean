/- The arguments of laws as typed values. -/
import Derived.Test.YtdiekiajedmaeaaAbsLink
import Derived.Test.YtdiekiajedmaeaaAbsVal
set_option linter.all false
namespace Go.Abs
open Go
variable [Inhabited Glob] [Lps]

end Go.Abs
