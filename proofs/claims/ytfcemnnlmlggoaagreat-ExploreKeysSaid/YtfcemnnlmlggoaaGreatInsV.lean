/- Numbers in bytes, and back: plain. -/
import Derived.Test.YtfcemnnlmlggoaaGreatLoop
namespace Go.Iv
open Go.Vc Go.Lv

/-! ## folding -/
def zigN (n : Int) : Nat := if n < 0 then (-(n + 1)).toNat * 2 + 1 else n.toNat * 2
def zagN (u : Nat) : Int := if u % 2 = 1 then -((u / 2 : Nat) : Int) - 1 else ((u / 2 : Nat) : Int)
def J64 (n : Int) : Prop := -9223372036854775808 ≤ n ∧ n ≤ 9223372036854775807
theorem zig_lt {n : Int} (h : J64 n) : zigN n < 18446744073709551616 := by
  unfold zigN; obtain ⟨h1, h2⟩ := h
  split <;> omega
theorem zag_zig {n : Int} : zagN (zigN n) = n := by unfold zagN zigN; split <;> split <;> omega
theorem zig_zag {u : Nat} : zigN (zagN u) = u := by unfold zigN zagN; split <;> split <;> omega
theorem zag_j64 {u : Nat} (h : u < 18446744073709551616) : J64 (zagN u) := by
  unfold zagN J64; split <;> omega
theorem xor0 (a : Nat) (h : a < 18446744073709551616) : bitsXor .u64 (a : Int) 0 = a := by
  show IntKind.u64.wrap ((BitVec.ofInt 64 (a : Int) ^^^ BitVec.ofInt 64 0).toNat) = a
  rw [BitVec.ofInt_natCast, show BitVec.ofInt 64 0 = 0#64 by decide, BitVec.xor_zero, BitVec.toNat_ofNat, IntKind.wrap_u64]
  omega
theorem xor1 (a : Nat) (h : a < 18446744073709551616) : bitsXor .u64 (a : Int) 18446744073709551615 = 18446744073709551615 - (a : Int) := by
  show IntKind.u64.wrap ((BitVec.ofInt 64 (a : Int) ^^^ BitVec.ofInt 64 18446744073709551615).toNat) = _
  rw [BitVec.ofInt_natCast, show BitVec.ofInt 64 18446744073709551615 = BitVec.allOnes 64 by decide, BitVec.xor_allOnes, BitVec.toNat_not, BitVec.toNat_ofNat, IntKind.wrap_u64]
  omega
theorem xor0i (a : Nat) (h : a < 9223372036854775808) : bitsXor .i64 (a : Int) 0 = a := by
  show IntKind.i64.wrap ((BitVec.ofInt 64 (a : Int) ^^^ BitVec.ofInt 64 0).toNat) = a
  rw [BitVec.ofInt_natCast, show BitVec.ofInt 64 0 = 0#64 by decide, BitVec.xor_zero, BitVec.toNat_ofNat, IntKind.wrap_i64]
  omega
theorem xor1i (a : Nat) (h : a < 9223372036854775808) : bitsXor .i64 (a : Int) (-1) = -(a : Int) - 1 := by
  show IntKind.i64.wrap ((BitVec.ofInt 64 (a : Int) ^^^ BitVec.ofInt 64 (-1)).toNat) = _
  rw [BitVec.ofInt_natCast, show BitVec.ofInt 64 (-1) = BitVec.allOnes 64 by decide, BitVec.xor_allOnes, BitVec.toNat_not, BitVec.toNat_ofNat, IntKind.wrap_i64]
  omega
theorem and1 (a : Nat) (h : a < 18446744073709551616) : bitsAnd .u64 (a : Int) 1 = ((a % 2 : Nat) : Int) := by
  show IntKind.u64.wrap ((BitVec.ofInt 64 (a : Int) &&& BitVec.ofInt 64 1).toNat) = _
  rw [BitVec.ofInt_natCast, show BitVec.ofInt 64 1 = 1#64 by decide, BitVec.toNat_and, BitVec.toNat_ofNat, show (1#64).toNat = 1 by decide, Nat.and_one_is_mod, IntKind.wrap_u64]
  omega
theorem fdiv_nat (a b : Nat) : ((a : Int)).fdiv (b : Int) = ((a / b : Nat) : Int) := by
  rw [Int.fdiv_eq_ediv_of_nonneg _ (by omega)]; omega
theorem zig_eq {n : Int} (h : J64 n) : bitsXor .u64 (IntKind.u64.wrap ((IntKind.u64.wrap n) * 2 ^ (min 1 IntKind.u64.bits))) (IntKind.u64.wrap (n.fdiv (2 ^ (min 63 IntKind.i64.bits)))) = (zigN n : Int) := by
  obtain ⟨h1, h2⟩ := h
  rw [show (2 : Int) ^ (min 1 IntKind.u64.bits) = 2 from rfl, show (2 : Int) ^ (min 63 IntKind.i64.bits) = 9223372036854775808 from rfl, Int.fdiv_eq_ediv_of_nonneg _ (by omega)]
  by_cases hn : n < 0
  · have e1 : IntKind.u64.wrap (n / 9223372036854775808) = 18446744073709551615 := by rw [IntKind.wrap_u64]; omega
    have e2 : IntKind.u64.wrap ((IntKind.u64.wrap n) * 2) = ((18446744073709551616 + 2 * n).toNat : Nat) := by rw [IntKind.wrap_u64, IntKind.wrap_u64]; omega
    rw [e1, e2, xor1 _ (by omega)]
    unfold zigN; rw [if_pos hn]; omega
  · have e1 : IntKind.u64.wrap (n / 9223372036854775808) = 0 := by rw [IntKind.wrap_u64]; omega
    have e2 : IntKind.u64.wrap ((IntKind.u64.wrap n) * 2) = ((2 * n).toNat : Nat) := by rw [IntKind.wrap_u64, IntKind.wrap_u64]; omega
    rw [e1, e2, xor0 _ (by omega)]
    unfold zigN; rw [if_neg hn]; omega
theorem zag_eq {u : Nat} (h : u < 18446744073709551616) : bitsXor .i64 (IntKind.i64.wrap ((u : Int).fdiv (2 ^ (min 1 IntKind.u64.bits)))) (IntKind.i64.wrap (0 - (IntKind.i64.wrap (bitsAnd .u64 u 1)))) = zagN u := by
  rw [show (2 : Int) ^ (min 1 IntKind.u64.bits) = ((2 : Nat) : Int) from rfl, fdiv_nat, and1 _ h, wrap_in (n := ((u / 2 : Nat) : Int)) (by omega) (by omega)]
  unfold zagN
  by_cases ho : u % 2 = 1
  · rw [if_pos ho, ho, show IntKind.i64.wrap (0 - (IntKind.i64.wrap ((1 : Nat) : Int))) = -1 by decide, xor1i _ (by omega)]
  · rw [if_neg ho, show u % 2 = 0 by omega, show IntKind.i64.wrap (0 - (IntKind.i64.wrap ((0 : Nat) : Int))) = 0 by decide, xor0i _ (by omega)]

/-! ## a number's bytes -/
def numF (u : Nat) : List UInt8 := if u < 128 then [UInt8.ofNat u] else UInt8.ofNat (u % 128 + 128) :: numF (u / 128)
  termination_by u
theorem numF_lt {u : Nat} (h : u < 128) : numF u = [UInt8.ofNat u] := by rw [numF, if_pos h]
theorem numF_ge {u : Nat} (h : ¬ u < 128) : numF u = UInt8.ofNat (u % 128 + 128) :: numF (u / 128) := by rw [numF, if_neg h]
theorem numF_len : ∀ (k u : Nat), u < 128 ^ (k + 1) → (numF u).length ≤ k + 1
  | 0, u, h => by rw [numF_lt (by simpa using h)]; simp
  | k + 1, u, h => by
    by_cases hu : u < 128
    · rw [numF_lt hu]; simp
    · rw [numF_ge hu, List.length_cons]
      have := numF_len k (u / 128) (by rw [Nat.pow_succ] at h; exact Nat.div_lt_of_lt_mul (by rw [Nat.mul_comm]; exact h))
      omega
theorem numF_len10 {u : Nat} (h : u < 18446744073709551616) : (numF u).length ≤ 10 := numF_len 9 u (Nat.lt_trans h (by decide))
theorem numF_pos (u : Nat) : 0 < (numF u).length := by
  by_cases h : u < 128
  · rw [numF_lt h]; simp
  · rw [numF_ge h]; simp
/-- a number read from bytes: the number and what is left, or what is wrong; k bytes were read, u is what they are -/
def dec : Nat → Nat → List UInt8 → Except Int (Nat × List UInt8)
  | _, _, [] => .error 2
  | k, u, c :: s => if (k = 9 ∧ 1 < c.toNat) ∨ (c.toNat = 0 ∧ 0 < k) then .error 3 else
    if c.toNat < 128 then .ok (u + c.toNat * 128 ^ k, s) else dec (k + 1) (u + c.toNat % 128 * 128 ^ k) s
theorem ofNat_toNat {n : Nat} (h : n < 256) : (UInt8.ofNat n).toNat = n := by simp; omega
theorem dec_num (t : List UInt8) : ∀ (j k u v : Nat), j + k = 9 → v < 128 ^ (j + 1) → v * 128 ^ k < 18446744073709551616 → (0 < k → 0 < v) → dec k u (numF v ++ t) = .ok (u + v * 128 ^ k, t) := by
  intro j
  induction j with
  | zero =>
    intro k u v hk hv hlt hp
    have hk9 : k = 9 := by omega
    subst hk9
    have hv1 : v < 2 := by
      have : v * 9223372036854775808 < 18446744073709551616 := hlt
      omega
    have hvp : 0 < v := hp (by omega)
    have : v = 1 := by omega
    subst this
    rw [numF_lt (by omega)]
    simp [dec]
  | succ j ih =>
    intro k u v hk hv hlt hp
    have hk9 : k ≠ 9 := by omega
    by_cases hv0 : v < 128
    · rw [numF_lt hv0]
      simp only [List.cons_append, List.nil_append, dec]
      rw [ofNat_toNat (by omega), if_neg (by omega), if_pos hv0]
    · rw [numF_ge hv0]
      simp only [List.cons_append, dec]
      rw [ofNat_toNat (by omega), if_neg (by omega), if_neg (by omega), ih (k + 1) _ (v / 128) (by omega) (Nat.div_lt_of_lt_mul (by rw [Nat.mul_comm, ← Nat.pow_succ]; exact hv)) ?_ (by omega)]
      · congr 2
        have e : v = 128 * (v / 128) + v % 128 := (Nat.div_add_mod v 128).symm
        have e2 : (v % 128 + 128) % 128 = v % 128 := by omega
        rw [e2, Nat.pow_succ]
        conv => rhs; rw [e]
        rw [Nat.add_mul, Nat.add_assoc, Nat.add_comm (v % 128 * 128 ^ k)]
        congr 1
        rw [Nat.mul_comm (128 ^ k) 128, ← Nat.mul_assoc, Nat.mul_comm (v / 128) 128]
      · refine Nat.lt_of_le_of_lt ?_ hlt
        rw [Nat.pow_succ, Nat.mul_comm (128 ^ k) 128, ← Nat.mul_assoc]
        exact Nat.mul_le_mul_right _ (Nat.div_mul_le_self v 128)
theorem dec_num0 {v : Nat} (h : v < 18446744073709551616) (t : List UInt8) : dec 0 0 (numF v ++ t) = .ok (v, t) := by
  have := dec_num t 9 0 0 v rfl (Nat.lt_trans h (by decide)) (by simpa using h) (by omega)
  simpa using this
/-- what is read was so written -/
theorem dec_back : ∀ (s : List UInt8) (k u v : Nat) (t : List UInt8), u < 128 ^ k → k ≤ 9 → dec k u s = .ok (v, t) → ∃ m, v = u + m * 128 ^ k ∧ s = numF m ++ t ∧ v < 18446744073709551616 ∧ (0 < k → 0 < m)
  | [], k, u, v, t, _, _, h => by simp [dec] at h
  | c :: s, k, u, v, t, hu, hk, h => by
    have hc := c.toNat_lt
    have hcc : UInt8.ofNat c.toNat = c := by simp
    simp only [dec] at h
    split at h
    · cases h
    · rename_i hno
      have hpw : 128 ^ k ≤ 128 ^ 9 := Nat.pow_le_pow_right (by omega) hk
      split at h
      · rename_i hc1
        cases h
        refine ⟨c.toNat, rfl, by rw [numF_lt hc1, hcc]; rfl, ?_, by omega⟩
        by_cases hk9 : k = 9
        · subst hk9
          have h1 : u < 9223372036854775808 := hu
          have h2 : c.toNat ≤ 1 := by omega
          have : c.toNat * 128 ^ 9 ≤ 1 * 128 ^ 9 := Nat.mul_le_mul_right _ h2
          have e : (128 : Nat) ^ 9 = 9223372036854775808 := rfl
          rw [e] at this ⊢
          omega
        · have hp8 : 128 ^ k ≤ 128 ^ 8 := Nat.pow_le_pow_right (by omega) (by omega)
          have e : (128 : Nat) ^ 8 = 72057594037927936 := rfl
          have : c.toNat * 128 ^ k ≤ 127 * 128 ^ k := Nat.mul_le_mul_right _ (by omega)
          omega
      · rename_i hc1
        have hk9 : k ≠ 9 := by omega
        have hb : c.toNat % 128 * 128 ^ k ≤ 127 * 128 ^ k := Nat.mul_le_mul_right _ (by omega)
        obtain ⟨m, h1, h2, h3, h4⟩ := dec_back s (k + 1) _ v t (by rw [Nat.pow_succ]; omega) (by omega) h
        have hm := h4 (by omega)
        refine ⟨c.toNat % 128 + 128 * m, ?_, ?_, h3, by omega⟩
        · rw [h1, Nat.add_assoc, Nat.pow_succ, Nat.add_mul, Nat.mul_comm (128 ^ k) 128, ← Nat.mul_assoc, Nat.mul_comm m 128]
        · rw [numF_ge (by omega), h2]
          have e1 : (c.toNat % 128 + 128 * m) % 128 + 128 = c.toNat := by omega
          have e2 : (c.toNat % 128 + 128 * m) / 128 = m := by omega
          rw [e1, e2, hcc]; rfl
theorem dec_back0 {s t : List UInt8} {v : Nat} (h : dec 0 0 s = .ok (v, t)) : s = numF v ++ t ∧ v < 18446744073709551616 := by
  obtain ⟨m, h1, h2, h3, _⟩ := dec_back s 0 0 v t (by simp) (by omega) h
  have : v = m := by simpa using h1
  subst this
  exact ⟨h2, h3⟩
theorem dec_len : ∀ (s : List UInt8) (k u v : Nat) (t : List UInt8), dec k u s = .ok (v, t) → t.length < s.length
  | [], k, u, v, t, h => by simp [dec] at h
  | c :: s, k, u, v, t, h => by
    simp only [dec] at h
    split at h
    · cases h
    · split at h
      · cases h; simp
      · have := dec_len s _ _ _ _ h
        rw [List.length_cons]; omega
theorem strOf_one (n : Int) : strOf [n] = [UInt8.ofNat n.toNat] := rfl
theorem strOf_app (a b : List Int) : strOf (a ++ b) = strOf a ++ strOf b := by simp [strOf]
theorem strOf_nums (x : List UInt8) : strOf (nums x) = x := by
  induction x with
  | nil => rfl
  | cons c x ih => simp only [nums, strOf, List.map_cons] at ih ⊢; rw [ih]; simp
end Go.Iv
