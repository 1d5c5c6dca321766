/- Blocks that the seat's contracts hold: laid variables (none here). -/
import Derived.Test.YtcakelelfklhdaaGreatDoorProg
import Derived.Shelf.Strconv.Itoa3
import Derived.Test.YtcakelelfklhdaaGreatDoorVcI
namespace Go.Lv
open Go.Proofs
structure Avr where
 bs:List Nat
 T:World->Prop
 Bdm:∀w w',(∀b∈bs,w'.heap[b]? =w.heap[b]?)->T w->T w'
 lt:∀w,T w->∀b∈bs,b<w.heap.size
theorem Amx:Tryz.prog.globalNamed "internal/strconv.uint64pow10" =some 0:=by kernel_rfl
def held:Avr where
 bs:=[0]
 T:=fun w=>Lib.TabIs Tryz.prog w "internal/strconv.uint64pow10" .u64 Lib.pow10Tab
 Bdm:=fun w w' h ht=>by
  have hg:=h 0 (by simp)
  unfold Lib.TabIs World.var? at ht⊢
  rw [Amx,Option.bind_some]at ht⊢
  rw [hg];exact ht
 lt:=fun w ht b hb=>by
  obtain rfl:b=0:=by simpa using hb
  unfold Lib.TabIs World.var? at ht
  rw [Amx,Option.bind_some]at ht
  by_cases hc:0<w.heap.size
  ·exact hc
  ·rw [Array.getElem?_eq_none (by omega)]at ht;cases ht
end Go.Lv
