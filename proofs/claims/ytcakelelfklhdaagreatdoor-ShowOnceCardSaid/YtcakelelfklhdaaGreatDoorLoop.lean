/- Loops over the places of a list. -/
import Derived.Test.YtcakelelfklhdaaGreatDoorLv
namespace Go.Lv
open Go.Vc
def At (len:Nat) (P:Nat->Prop) (i:Int) (n:Nat):Prop:=∃k:Nat,i=k/\k<=len/\n=len-k/\P k
end Go.Lv
