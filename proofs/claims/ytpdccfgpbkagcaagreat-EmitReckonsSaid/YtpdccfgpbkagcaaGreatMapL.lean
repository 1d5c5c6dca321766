/- Maps that a call owns. -/
import Derived.Test.YtpdccfgpbkagcaaGreatLv
import Derived.Test.YtpdccfgpbkagcaaGreatMapG
namespace Go.Lv
open Go.Vc
variable {n0:Nat} {rs m0:List Nat} {fr:List (List Nat×Nat×World)} {ds:List Nat} {w w':World} {ps:List Pc} {κ:Type} [BEq κ]
end Go.Lv
