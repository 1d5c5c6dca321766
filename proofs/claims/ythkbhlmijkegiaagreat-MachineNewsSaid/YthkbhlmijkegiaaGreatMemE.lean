/- The boxes of a call that also writes one box of its caller's. -/
import Derived.Test.YthkbhlmijkegiaaGreatMemD
namespace Go.Vc
open Go.RowKit (Below)
theorem L9 {w w':World} {b i:Nat} {v:Value} (e:w'=w.setCell ⟨b,i,none⟩ v):w.grownBy w' (some b):=by
 subst e;refine⟨rfl,rfl,rfl,by simp [World.setCell],fun k _ hr=> ?_⟩;rw [heap_setCell,if_neg (fun h=>hr (by rw [h]))]
end Go.Vc
