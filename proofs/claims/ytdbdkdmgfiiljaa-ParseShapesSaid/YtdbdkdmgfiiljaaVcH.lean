/- The conditions of Go code: a library of this claim. -/
import Derived.Test.YtdbdkdmgfiiljaaVcG
namespace Go.Vc
open Go.RowKit (Below)
def plainO : Obj → Bool
  | .deferred _ => false
  | .loop _ => false
  | _ => true
structure Keep (m : List Nat) (w w' : World) : Prop where
  os : w'.os = w.os
  tape : w'.tape = w.tape
  output : w'.output = w.output
  size : w.heap.size ≤ w'.heap.size
  block : ∀ k, k < w.heap.size → k ∉ m → w'.heap[k]? = w.heap[k]?
structure KpM (M : List Nat) (B : Nat) (w w' : World) : Prop where
  os : w'.os = w.os
  tape : w'.tape = w.tape
  output : w'.output = w.output
  size : w.heap.size ≤ w'.heap.size
  block : ∀ k, k < B → k ∉ M → w'.heap[k]? = w.heap[k]?
structure KeepR (M : List Nat) (B : Nat) (w w' : World) : Prop where
  kp : KpM M B w w'
  rest : ∀ k o, B ≤ k → w.heap[k]? = some o → plainO o = false → w'.heap[k]? = some o
theorem KeepR.refl (M : List Nat) (B : Nat) (w : World) : KeepR M B w w := ⟨⟨rfl, rfl, rfl, Nat.le_refl _, fun _ _ _ => rfl⟩, fun _ _ _ h _ => h⟩
def mk (D : Nat) : Deferred := { target := .collected D, args := #[] }
def MarksOk (ds : List Nat) (w : World) : Prop := ds.Nodup ∧ ∀ D ∈ ds, w.heap[D]? = some (.deferred (some []))
end Go.Vc
