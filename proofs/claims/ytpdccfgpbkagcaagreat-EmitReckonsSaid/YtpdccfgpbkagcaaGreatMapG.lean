/- Maps that were only added to, with keys of any plain kind. -/
import Derived.Test.YtpdccfgpbkagcaaGreatMemE
import Derived.MapKept
namespace Go.Vc
open Go.RowKit (Below)
structure Mo (κ:Type) [BEq κ] where
 enc:κ->Value
 kd:TypeDesc
 same:∀a b,Instr.sameNow kd (enc a) (enc b)=some (b==a)
 key:∀a,MapKept.IsKey kd (enc a)
def zC:Mo (List UInt8) where
 enc:=fun s=> .string (aI s)
 kd:= .string
 same:=fun a b=>by
  have h:(aI a==aI b)=(b==a):=by
   have h2:(aI a==aI b)=((aI a).data==(aI b).data):=by rfl
   rw [h2,Bool.eq_iff_iff];simp [aI];exact⟨fun h=>h.symm,fun h=>h.symm⟩
  simp only [Instr.sameNow,h]
 key:=fun a=>by simp [MapKept.IsKey]
variable {κ:Type} [BEq κ]
def Hb {α:Type} (bF:List (κ×α)) (s:κ):Option α:=(bF.find? (·.1==s)).map (·.2)
end Go.Vc
