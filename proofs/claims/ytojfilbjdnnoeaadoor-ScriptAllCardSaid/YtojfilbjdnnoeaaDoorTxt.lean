/- Texts: cut at blanks; numerals, and back: plain. -/
import Derived.Lib.Split
import Derived.Lib.ItoaMem
import Derived.Lib.AtoiAllCases
import Derived.Lib.IndexBytes
namespace Go.Tx
open Go.Lib

/-- a text cut at each byte c -/
def sp (c : UInt8) : List UInt8 → List (List UInt8)
  | [] => [[]]
  | b :: s => if b = c then [] :: sp c s else match sp c s with
    | [] => [[b]]
    | x :: xs => (b :: x) :: xs
theorem sp_ne (c : UInt8) : ∀ s, sp c s ≠ []
  | [] => by simp [sp]
  | b :: s => by
    simp only [sp]
    split
    · simp
    · split <;> simp
theorem sp_no {c : UInt8} : ∀ {s : List UInt8}, c ∉ s → sp c s = [s]
  | [], _ => rfl
  | b :: s, h => by
    simp only [List.mem_cons, not_or] at h
    simp only [sp]
    rw [if_neg (fun e => h.1 e.symm), sp_no h.2]
theorem sp_app {c : UInt8} (y : List UInt8) : ∀ {x : List UInt8}, c ∉ x → sp c (x ++ c :: y) = x :: sp c y
  | [], _ => by simp [sp]
  | b :: x, h => by
    simp only [List.mem_cons, not_or] at h
    simp only [List.cons_append, sp]
    rw [if_neg (fun e => h.1 e.symm), sp_app y h.2]
theorem ib_cases (c : UInt8) : ∀ s : List UInt8, (indexByte s c = -1 ∧ c ∉ s) ∨ ∃ x y, s = x ++ c :: y ∧ c ∉ x ∧ indexByte s c = (x.length : Int)
  | [] => .inl ⟨rfl, by simp⟩
  | b :: s => by
    by_cases hb : b = c
    · subst hb
      exact .inr ⟨[], s, rfl, by simp, by simp [indexByte]⟩
    · have hb' : (b == c) = false := by simpa using hb
      rcases ib_cases c s with ⟨h1, h2⟩ | ⟨x, y, h1, h2, h3⟩
      · refine .inl ⟨by simp [indexByte, hb', h1], ?_⟩
        simp only [List.mem_cons, not_or]
        exact ⟨fun e => hb e.symm, h2⟩
      · refine .inr ⟨b :: x, y, by rw [h1]; rfl, ?_, ?_⟩
        · simp only [List.mem_cons, not_or]
          exact ⟨fun e => hb e.symm, h2⟩
        · have hne : (indexByte s c == -1) = false := by rw [h3]; simp
          simp only [indexByte, hb', hne, h3, List.length_cons]
          simp
theorem split_sp (c : UInt8) : ∀ (n : Nat) (s : List UInt8), s.length ≤ n → split s [c] = sp c s := by
  intro n
  induction n with
  | zero =>
    intro s hs
    have : s = [] := List.eq_nil_of_length_eq_zero (by omega)
    subst this
    unfold split
    rw [count_miss (by rw [index_one]; rfl)]; rfl
  | succ n ih =>
    intro s hs
    unfold split
    rcases ib_cases c s with ⟨h1, h2⟩ | ⟨x, y, rfl, h2, h3⟩
    · rw [count_miss (by rw [index_one]; exact h1), sp_no h2]; rfl
    · have hi : index (x ++ c :: y) [c] = (x.length : Int) := by rw [index_one]; exact h3
      have hd : (x ++ c :: y).drop (x.length + [c].length) = y := by
        rw [List.length_singleton, ← List.drop_drop, List.drop_left]; rfl
      rw [count_hit (by simp) hi, hd, Nat.add_comm, splitK]
      have hm : ¬ (index (x ++ c :: y) [c] == -1) = true := by rw [hi]; simp
      rw [if_neg hm, hi, Int.toNat_natCast, Nat.add_zero, List.take_left, hd, sp_app y h2]
      congr 1
      exact ih y (by simp at hs; omega)

/-! ## numerals -/
theorem dig_range {d : Nat} (h : d < 10) : (UInt8.ofNat (48 + d)).toNat = 48 + d := by simp; omega
theorem dec_mem (u : Nat) : ∀ b ∈ decDigits u, 48 ≤ b.toNat ∧ b.toNat ≤ 57 := by
  induction u using Nat.strongRecOn with
  | _ u ih =>
    unfold decDigits
    split
    · rename_i h
      intro b hb
      rw [List.mem_singleton.1 hb, dig_range h]; omega
    · intro b hb
      rcases List.mem_append.1 hb with hb | hb
      · exact ih _ (by omega) b hb
      · rw [List.mem_singleton.1 hb, dig_range (Nat.mod_lt _ (by omega))]; omega
theorem dec_ne (u : Nat) : decDigits u ≠ [] := by
  unfold decDigits
  split <;> simp
theorem itoa_mem (n : Int) : ∀ b ∈ itoa n, b.toNat = 45 ∨ (48 ≤ b.toNat ∧ b.toNat ≤ 57) := by
  unfold itoa
  split
  · intro b hb
    rcases List.mem_cons.1 hb with rfl | hb
    · exact .inl rfl
    · exact .inr (dec_mem _ b hb)
  · exact fun b hb => .inr (dec_mem _ b hb)
theorem itoa_no {c : UInt8} (h : c.toNat < 45) (n : Int) : c ∉ itoa n := fun hc => by
  have := itoa_mem n c hc
  omega
theorem itoa_ne (n : Int) : itoa n ≠ [] := by
  unfold itoa
  split
  · simp
  · exact dec_ne _
theorem parse_app : ∀ (l m : List UInt8) (acc : Nat), parseUint10 acc (l ++ m) = match parseUint10 acc l with
    | .ok v => parseUint10 v m
    | x => x
  | [], m, acc => rfl
  | c :: l, m, acc => by
    simp only [List.cons_append, parseUint10]
    split
    · split
      · rfl
      · split
        · rfl
        · exact parse_app l m _
    · rfl
theorem parse_dec (u : Nat) (hu : u < 18446744073709551616) : parseUint10 0 (decDigits u) = .ok u := by
  induction u using Nat.strongRecOn with
  | _ u ih =>
    unfold decDigits
    split
    · rename_i h
      simp only [parseUint10]
      rw [dig_range h, if_pos (by omega), if_neg (by omega), if_neg (by omega)]
      congr 1; omega
    · rename_i h
      rw [parse_app, ih (u / 10) (by omega) (by omega)]
      simp only [parseUint10]
      rw [dig_range (Nat.mod_lt _ (by omega)), if_pos (by omega), if_neg (by omega), if_neg (by omega)]
      congr 1; omega
theorem atoi_itoa {n : Int} (h1 : -9223372036854775808 ≤ n) (h2 : n ≤ 9223372036854775807) : atoiAll (itoa n) = .ok n := by
  unfold itoa
  split
  · rename_i hn
    rw [atoiAll_minus, parseMag, if_neg (dec_ne _), parse_dec _ (by omega)]
    simp only [signed]
    rw [if_neg (by omega)]
    congr 1; omega
  · rename_i hn
    cases hd : decDigits n.toNat with
    | nil => exact absurd hd (dec_ne _)
    | cons c r =>
      have hc := dec_mem n.toNat c (by rw [hd]; simp)
      rw [atoiAll_plain c r (by omega) (by omega), ← hd, parseMag, if_neg (dec_ne _), parse_dec _ (by omega)]
      simp only [signless]
      rw [if_neg (by omega)]
      congr 1; omega
theorem dec_len : ∀ (k u : Nat), u < 10 ^ (k + 1) → (decDigits u).length ≤ k + 1
  | 0, u, h => by unfold decDigits; rw [dif_pos (by simpa using h)]; simp
  | k + 1, u, h => by
    unfold decDigits
    split
    · simp
    · have := dec_len k (u / 10) (by rw [Nat.pow_succ] at h; omega)
      simp only [List.length_append, List.length_singleton]; omega
theorem itoa_len {n : Int} (h1 : -9223372036854775808 ≤ n) (h2 : n ≤ 9223372036854775807) : (itoa n).length ≤ 20 := by
  unfold itoa
  split
  · have := dec_len 18 n.natAbs (by omega)
    simp only [List.length_cons]; omega
  · have := dec_len 18 n.toNat (by omega)
    omega
end Go.Tx
