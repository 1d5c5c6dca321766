/- Blocks that the seat's contracts hold: laid variables (none here). -/
import Derived.Test.YthkbhlmijkegiaaGreatVcI
namespace Go.Lv
structure Bb4 where
 bs:List Nat
 T:World->Prop
 Bm1:∀w w',(∀b∈bs,w'.heap[b]? =w.heap[b]?)->T w->T w'
 lt:∀w,T w->∀b∈bs,b<w.heap.size
def sized:Bool:=false
def held:Bb4:=⟨[],fun _=>True,fun _ _ _ _=>trivial,fun _ _ _ h=>(by cases h)⟩
end Go.Lv
