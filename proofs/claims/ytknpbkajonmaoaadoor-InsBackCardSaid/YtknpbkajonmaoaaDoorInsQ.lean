/- The laws InsGets and InsBack, as calls. -/
import Derived.Test.YtknpbkajonmaoaaDoorInsH
import Derived.Test.YtknpbkajonmaoaaDoorInsP
namespace Go.Proofs.YtknpbkajonmaoaaDoor
open Go.Vc Go.Lv Go.Ty Go.Iv
theorem InsGets_spec (a : ByteArray) (w : World) (hh : Go.Lv.held.T w) : Calls Tryd.prog 7 #[.string a] w (Ret fun v w' => v = .bool true ∧ Ext w w') := by
  refine call_then (InsGets_v (sl a) (· = true) rfl [] w (MOk.nil hh)) ?_
  rintro _ _ ⟨_, rfl, rfl, k⟩
  exact ⟨rfl, k.ext⟩
theorem InsBack_spec (l : List GIns) (hj : ∀ x ∈ l, okGIns x) (A : Option Addr) (C : Nat) (hc : l.length ≤ C) (w : World) (hh : Go.Lv.held.T w) (h1 : SlR cGIns [] w A l) :
    Calls Tryd.prog 8 #[.slice A l.length C] w (Ret fun v w' => v = .bool true ∧ Ext w w') := by
  refine call_then (InsBack_v l (fun x hx => jins_of (hj x hx)) (· = true) rfl [] w (MOk.nil hh) A C hc h1) ?_
  rintro _ _ ⟨_, rfl, rfl, k⟩
  exact ⟨rfl, k.ext⟩
end Go.Proofs.YtknpbkajonmaoaaDoor
