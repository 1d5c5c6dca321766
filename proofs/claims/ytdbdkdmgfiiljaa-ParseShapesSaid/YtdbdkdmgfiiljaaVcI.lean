/- The conditions of Go code: a library of this claim. -/
import Derived.Test.YtdbdkdmgfiiljaaVcH
import Derived.LoopNIn
namespace Go.Vc
open Go.RowKit (Below)
end Go.Vc
