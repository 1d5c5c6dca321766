/- Blocks that the seat's contracts hold: laid variables (none here). -/
import Derived.Test.YtfcemnnlmlggoaaGreatVcI
namespace Go.Lv
/-- blocks of laid variables, what they hold, and that nothing else matters to it -/
structure Held where
  bs : List Nat
  T : World → Prop
  stable : ∀ w w', (∀ b ∈ bs, w'.heap[b]? = w.heap[b]?) → T w → T w'
  lt : ∀ w, T w → ∀ b ∈ bs, b < w.heap.size
/-- is the input of a size that can be reached? (of tied cards it is) -/
def sized : Bool := false
/-- no variable -/
def held : Held := ⟨[], fun _ => True, fun _ _ _ _ => trivial, fun _ _ _ h => (by cases h)⟩
end Go.Lv
