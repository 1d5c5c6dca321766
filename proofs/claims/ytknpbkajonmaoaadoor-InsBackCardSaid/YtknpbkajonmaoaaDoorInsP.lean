/- The law InsPuts, as a call. -/
import Derived.Test.YtknpbkajonmaoaaDoorInsI
import Derived.Test.YtknpbkajonmaoaaDoorOpnN
namespace Go.Proofs.YtknpbkajonmaoaaDoor
open Go.Vc Go.Lv Go.Ty Go.Iv
theorem j64_of {n : Int} (h : IntKind.i64.min ≤ n ∧ n ≤ IntKind.i64.max) : J64 n := ⟨Int.le_trans (by decide) h.1, Int.le_trans h.2 (by decide)⟩
theorem jins_of {x : GIns} (h : okGIns x) : JIns x := ⟨j64_of h.2.1, j64_of h.2.2⟩
theorem InsPuts_spec (l : List GIns) (hj : ∀ x ∈ l, okGIns x) (A : Option Addr) (C : Nat) (hc : l.length ≤ C) (w : World) (hh : Go.Lv.held.T w) (h1 : SlR cGIns [] w A l) :
    Calls Tryd.prog 6 #[.slice A l.length C] w (Ret fun v w' => v = .bool true ∧ Ext w w') := by
  refine call_then (InsPuts_v l (fun x hx => jins_of (hj x hx)) (· = true) rfl [] w (MOk.nil hh) A C hc h1) ?_
  rintro _ _ ⟨_, rfl, rfl, k⟩
  exact ⟨rfl, k.ext⟩
end Go.Proofs.YtknpbkajonmaoaaDoor
