/- Blocks that the seat's contracts hold: laid variables (none here). -/
import Derived.Test.YtdbdkdmgfiiljaaVcI
namespace Go.Lv
structure Held where
  bs : List Nat
  T : World → Prop
  stable : ∀ w w', (∀ b ∈ bs, w'.heap[b]? = w.heap[b]?) → T w → T w'
  lt : ∀ w, T w → ∀ b ∈ bs, b < w.heap.size
def held : Held := ⟨[], fun _ => True, fun _ _ _ _ => trivial, fun _ _ _ h => (by cases h)⟩
end Go.Lv
