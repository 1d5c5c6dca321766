/- Maps that were only added to, with keys of any plain kind. -/
import Derived.Test.YtcakelelfklhdaaGreatDoorMemE
import Derived.MapKept
namespace Go.Vc
open Go.RowKit (Below)
variable {κ:Type} [BEq κ]
end Go.Vc
