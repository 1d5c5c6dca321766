/- Loops over the places of a list. -/
import Derived.Test.YtdbdkdmgfiiljaaLv
namespace Go.Lv
open Go.Vc
def At (len : Nat) (P : Nat → Prop) (i : Int) (n : Nat) : Prop := ∃ k : Nat, i = k ∧ k ≤ len ∧ n = len - k ∧ P k
theorem At.start {len : Nat} {P : Nat → Prop} (h : P 0) : At len P 0 len := ⟨0, rfl, Nat.zero_le _, rfl, h⟩
theorem At.next {len k : Nat} {P : Nat → Prop} (hl : len < 4611686018427387904) (hk : k < len) (h : P (k + 1)) : ∃ n1, n1 < len - k ∧ At len P (IntKind.i64.wrap ((k : Int) + 1)) n1 :=
  ⟨len - (k + 1), by omega, k + 1, by rw [wrap_in (by omega) (by omega)]; omega, by omega, rfl, h⟩
theorem At.cond {len k : Nat} {A B : Prop} (hk : k ≤ len) (ha : k < len → A) (hb : k = len → B) : cond (decide ((k : Int) < (len : Int))) A B :=
  cond_intro (fun hc => ha (by simpa using hc)) fun hc => hb (by simp at hc; omega)
end Go.Lv
