/- Blocks that the seat's contracts hold: laid variables (none here). -/
import Derived.Test.YtknpbkajonmaoaaDoorProg
import Derived.Shelf.Strconv.Itoa3
import Derived.Test.YtknpbkajonmaoaaDoorVcI
namespace Go.Lv
open Go.Proofs
/-- blocks of laid variables, what they hold, and that nothing else matters to it -/
structure Held where
  bs : List Nat
  T : World → Prop
  stable : ∀ w w', (∀ b ∈ bs, w'.heap[b]? = w.heap[b]?) → T w → T w'
  lt : ∀ w, T w → ∀ b ∈ bs, b < w.heap.size
/-- is the input of a size that can be reached? (of tied cards it is) -/
def sized : Bool := true
theorem held_g : Tryd.prog.globalNamed "internal/strconv.uint64pow10" = some 3 := by kernel_rfl
/-- the variable internal/strconv.uint64pow10 -/
def held : Held where
  bs := [3]
  T := fun w => Lib.TabIs Tryd.prog w "internal/strconv.uint64pow10" .u64 Lib.pow10Tab
  stable := fun w w' h ht => by
    have hg := h 3 (by simp)
    unfold Lib.TabIs World.var? at ht ⊢
    rw [held_g, Option.bind_some] at ht ⊢
    rw [hg]; exact ht
  lt := fun w ht b hb => by
    obtain rfl : b = 3 := by simpa using hb
    unfold Lib.TabIs World.var? at ht
    rw [held_g, Option.bind_some] at ht
    by_cases hc : 3 < w.heap.size
    · exact hc
    · rw [Array.getElem?_eq_none (by omega)] at ht; cases ht
end Go.Lv
