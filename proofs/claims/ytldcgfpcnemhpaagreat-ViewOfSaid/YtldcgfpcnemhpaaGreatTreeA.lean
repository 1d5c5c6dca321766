/- Pieces of a list of nodes, told by the numbers of their kids: plain. -/
import Derived.Test.YtldcgfpcnemhpaaGreatLv
namespace Go.Tr
def eat : Nat → List Int → List Int
  | 0, l => l
  | _ + 1, [] => []
  | n + 1, k :: l => eat (n + k.toNat) l
  termination_by _ l => l.length
theorem eat_zero (l : List Int) : eat 0 l = l := by rw [eat]
theorem eat_nil (n : Nat) : eat n [] = [] := by cases n <;> rw [eat]
theorem eat_cons (n : Nat) (k : Int) (l : List Int) : eat (n + 1) (k :: l) = eat (n + k.toNat) l := by rw [eat]
theorem eat_suf : ∀ (l : List Int) (n : Nat), eat n l <:+ l
  | [], n => by rw [eat_nil]; exact List.suffix_refl _
  | k :: l, 0 => by rw [eat_zero]; exact List.suffix_refl _
  | k :: l, n + 1 => by rw [eat_cons]; exact (eat_suf l _).trans (List.suffix_cons k l)
theorem eat_le (l : List Int) (n : Nat) : (eat n l).length ≤ l.length := (eat_suf l n).length_le
theorem eat_lt (l : List Int) (n : Nat) (h : l ≠ []) (hn : 0 < n) : (eat n l).length < l.length := by
  cases l with
  | nil => exact absurd rfl h
  | cons k l =>
    cases n with
    | zero => omega
    | succ n => rw [eat_cons, List.length_cons]; have := eat_le l (n + k.toNat); omega
theorem eat_all : ∀ (l : List Int) (n : Nat), l.length ≤ n → eat n l = []
  | [], n, _ => eat_nil n
  | k :: l, 0, h => by simp at h
  | k :: l, n + 1, h => by rw [eat_cons]; exact eat_all l _ (by simp at h; omega)
def endF (l : List Int) (i : Nat) : Nat := l.length - (eat 1 (l.drop i)).length
theorem endF_le (l : List Int) (i : Nat) : endF l i ≤ l.length := by unfold endF; omega
theorem endF_gt (l : List Int) (i : Nat) (h : i < l.length) : i < endF l i := by
  have h1 := eat_lt (l.drop i) 1 (by intro e; have := congrArg List.length e; simp at this; omega) (by omega)
  rw [List.length_drop] at h1
  unfold endF; omega
def Kid (l : List Int) (k j i : Nat) : Prop := k < l.length ∧ j < (l.getD k 0).toNat ∧ eat j (l.drop (k + 1)) = l.drop i ∧ i < l.length
theorem drop_cons' {l : List Int} {k : Nat} (h : k < l.length) : l.drop k = l.getD k 0 :: l.drop (k + 1) := by
  rw [List.drop_eq_getElem_cons h]; simp [List.getD, h]
theorem Kid.ahead {l : List Int} {k j i : Nat} (h : Kid l k j i) : k < i := by
  obtain ⟨hk, hj, he, hi⟩ := h
  have h1 := eat_le (l.drop (k + 1)) j
  rw [he] at h1
  simp at h1; omega
def kidsF (l : List Int) : Nat → Nat → List Int
  | 0, _ => []
  | n + 1, at_ => if at_ < l.length then (at_ : Int) :: kidsF l n (endF l at_) else []
def kidsOf (l : List Int) (k : Nat) : List Int := if k < l.length then kidsF l (l.getD k 0).toNat (k + 1) else []
def exact : Nat → List Int → Prop
  | 0, l => l = []
  | _ + 1, [] => False
  | n + 1, k :: l => 0 ≤ k ∧ exact (n + k.toNat) l
  termination_by _ l => l.length
end Go.Tr
