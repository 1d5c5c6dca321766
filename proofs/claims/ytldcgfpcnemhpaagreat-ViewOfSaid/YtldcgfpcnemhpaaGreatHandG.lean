/- Contracts by hand, and what they come to. -/
import Derived.Test.YtldcgfpcnemhpaaGreatTreeC
import Derived.Test.YtldcgfpcnemhpaaGreatTreeB
import Derived.Test.YtldcgfpcnemhpaaGreatEx
namespace Go.Proofs.YtldcgfpcnemhpaaGreat
open Go.Vc Go.Lv Go.Ty
def It_tree_Kids_1_ex (_ : Nat) (i : Int) (l : List GNode) : Option (List Int) := if l.length ≤ 100000 then some (kidsZ l i) else none
theorem It_tree_Kids_1_exok {n : Nat} {i : Int} {l : List GNode} {xs : List Int} (h : It_tree_Kids_1_ex n i l = some xs) : It_tree_Kids_1 i l xs := by
  unfold It_tree_Kids_1_ex at h
  split at h
  · rename_i hl
    cases h
    exact kids_it l i hl
  · cases h
def slices_Repeat_Slbyte_byte_ex (_ : Nat) (x : List Int) (n : Int) : Option (List Int) := match x with
  | [a] => if 0 ≤ n ∧ n < 4294967296 then some (List.replicate n.toNat a) else none
  | _ => none
theorem slices_Repeat_Slbyte_byte_exok {fu : Nat} {x : List Int} {n : Int} {r : List Int} (h : slices_Repeat_Slbyte_byte_ex fu x n = some r) (K : List Int → Prop) (hK : K r) : V_slices_Repeat_Slbyte_byte x n K := by
  unfold slices_Repeat_Slbyte_byte_ex at h
  split at h
  · split at h
    · rename_i hn
      cases h
      exact repeat_v _ n hn.1 hn.2 K hK
    · cases h
  · cases h
end Go.Proofs.YtldcgfpcnemhpaaGreat
