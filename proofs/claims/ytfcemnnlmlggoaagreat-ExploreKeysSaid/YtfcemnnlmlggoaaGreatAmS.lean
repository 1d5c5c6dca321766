/- Numbers by intervals: each lies in one of some that lie side by side. -/
import Derived.Test.YtfcemnnlmlggoaaGreatAmI
namespace Go.Am
open Go.Vc

abbrev Iv : Type := Int × Int
def contig : Int → List Iv → Int → Bool
  | lo, [], hi => decide (hi < lo)
  | lo, I :: l, hi => decide (I.1 = lo) && contig (I.2 + 1) l hi
theorem cover : ∀ {l : List Iv} {lo hi n : Int}, contig lo l hi = true → lo ≤ n → n ≤ hi → ∃ I ∈ l, I.1 ≤ n ∧ n ≤ I.2
  | [], lo, hi, n, h, h1, h2 => by
    have := of_decide_eq_true h
    omega
  | I :: l, lo, hi, n, h, h1, h2 => by
    simp only [contig, Bool.and_eq_true, decide_eq_true_eq] at h
    by_cases hn : n ≤ I.2
    · exact ⟨I, by simp, by omega, hn⟩
    · obtain ⟨J, h3, h4⟩ := cover h.2 (by omega : I.2 + 1 ≤ n) h2
      exact ⟨J, by simp [h3], h4⟩
/-- what the machine is told of a number in an interval -/
def avI (k : IntKind) (I : Iv) : AV := cond (decide (I.1 = I.2)) (.lit (.int k I.1)) (.ival k I.1 I.2)
def avS (i : Nat) (k : IntKind) (I : Iv) : AV := cond (decide (I.1 = I.2)) (.lit (.int k I.1)) (.same i k I.1 I.2)
theorem avI_rep {k : IntKind} {I : Iv} {n : Int} (h1 : I.1 ≤ n) (h2 : n ≤ I.2) (e : Env) : (avI k I).rep e (.int k n) := by
  unfold avI
  cases hd : decide (I.1 = I.2) with
  | true =>
    have := of_decide_eq_true hd
    simp only [cond_true, AV.rep]
    congr 1; omega
  | false => simp only [cond_false, AV.rep]; exact ⟨n, rfl, h1, h2⟩
theorem avS_rep {s : Nat → Int} {k0 i : Nat} {k : IntKind} {I : Iv} (hi : i < k0) (h1 : I.1 ≤ s i) (h2 : s i ≤ I.2) : (avS i k I).rep (symE s k0) (.int k (s i)) := by
  unfold avS
  cases hd : decide (I.1 = I.2) with
  | true =>
    have := of_decide_eq_true hd
    simp only [cond_true, AV.rep]
    congr 1; omega
  | false => exact same_rep hi h1 h2
/-- does a run come to true? -/
def trueB (x : Option AV) : Bool := match x with
  | some (.lit (.bool b)) => b
  | _ => false
theorem trueB_eq {x : Option AV} (h : trueB x = true) : x = some (.lit (.bool true)) := by
  unfold trueB at h
  split at h
  · rw [h]
  · cases h
end Go.Am
