/- The conditions of Go code: a library of this claim. -/
import Derived.Test.YtdbdkdmgfiiljaaVcH
import Derived.LoopNIn
namespace Go.Vc
open Go.RowKit (Below)
structure FrT (wr : List Nat) (a a' : Act) : Prop where
  size : a'.tmps.size = a.tmps.size
  same : ∀ i, i ∉ wr → a'.tmps[i]? = a.tmps[i]?
theorem FrT.refl (wr : List Nat) (a : Act) : FrT wr a a := ⟨rfl, fun _ _ => rfl⟩
theorem FrT.fr {wr : List Nat} {a a' : Act} (h : FrT wr a a') : Fr wr { a with defers := a'.defers } a' := ⟨h.size, rfl, h.same⟩
end Go.Vc
