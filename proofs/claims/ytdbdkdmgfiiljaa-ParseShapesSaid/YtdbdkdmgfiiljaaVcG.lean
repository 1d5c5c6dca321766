/- The conditions of Go code: a library of this claim. -/
import Derived.Test.YtdbdkdmgfiiljaaVcF
import Derived.RangeFuncNested
import Derived.RangeFuncLeaves
import Derived.RangeFuncCalls
import Derived.OrdersIn
namespace Go.Vc
open Go.RowKit (Below)
end Go.Vc
