/- Numbers as they are written: plain. -/
import Derived.Lib.ItoaMem
import Derived.Lib.AtoiAllCases
import Derived.Test.YtojfilbjdnnoeaaDoorTxt
namespace Go.Sc
open Go Go.Lib Go.Tx

def isDg (b : UInt8) : Bool := decide (48 ≤ b.toNat) && decide (b.toNat ≤ 57)
theorem isDg_iff {b : UInt8} : isDg b = true ↔ 48 ≤ b.toNat ∧ b.toNat ≤ 57 := by simp [isDg]
def dgs (t : List UInt8) : Nat := t.foldl (fun a b => a * 10 + (b.toNat - 48)) 0
theorem dgs_snoc (t : List UInt8) (d : UInt8) : dgs (t ++ [d]) = dgs t * 10 + (d.toNat - 48) := by simp [dgs]
theorem dgs_lt : ∀ (k : Nat) (t : List UInt8), t.length = k → (∀ b ∈ t, isDg b = true) → dgs t < 10 ^ k
  | 0, t, h, _ => by
    obtain rfl := List.eq_nil_of_length_eq_zero h
    decide
  | k + 1, t, h, hd => by
    rcases List.eq_nil_or_concat t with rfl | ⟨t', d, rfl⟩
    · simp at h
    · rw [List.concat_eq_append] at hd h ⊢
      have ih := dgs_lt k t' (by simpa using h) (fun b hb => hd b (by simp [hb]))
      have h1 := isDg_iff.1 (hd d (by simp))
      rw [dgs_snoc, Nat.pow_succ]; omega
theorem ofNat_dig {d : UInt8} (h : 48 ≤ d.toNat) : UInt8.ofNat (48 + (d.toNat - 48)) = d := by
  rw [show 48 + (d.toNat - 48) = d.toNat by omega]; simp
theorem dec_dgs : ∀ (k : Nat) (t : List UInt8) (d : UInt8), t.length = k → (∀ b ∈ t ++ [d], isDg b = true) → ((t ++ [d]).getD 0 0 = 48 → t = []) → decDigits (dgs (t ++ [d])) = t ++ [d]
  | 0, t, d, h, hd, _ => by
    obtain rfl := List.eq_nil_of_length_eq_zero h
    have h1 := isDg_iff.1 (hd d (by simp))
    have e : dgs ([] ++ [d]) = d.toNat - 48 := by simp [dgs]
    rw [e]
    unfold decDigits
    rw [dif_pos (by omega), ofNat_dig h1.1]; rfl
  | k + 1, t, d, h, hd, hz => by
    rcases List.eq_nil_or_concat t with rfl | ⟨t', d', rfl⟩
    · simp at h
    · rw [List.concat_eq_append] at hd h hz ⊢
      have hh : ((t' ++ [d']) ++ [d]).getD 0 0 = (t' ++ [d']).getD 0 0 := by
        cases t' <;> simp
      have ih := dec_dgs k t' d' (by simpa using h) (fun b hb => hd b (List.mem_append_left _ hb)) (fun h0 => by
        have := hz (by rw [hh]; exact h0)
        simp at this)
      have h1 := isDg_iff.1 (hd d (by simp))
      have hpos : 1 ≤ dgs (t' ++ [d']) := by
        rcases Nat.eq_zero_or_pos (dgs (t' ++ [d'])) with h0 | h0
        · exfalso
          rw [h0] at ih
          have h48 : decDigits 0 = [48] := by unfold decDigits; rfl
          rw [h48] at ih
          have := hz (by rw [hh, ← ih]; rfl)
          simp at this
        · exact h0
      rw [dgs_snoc]
      unfold decDigits
      rw [dif_neg (by omega), show (dgs (t' ++ [d']) * 10 + (d.toNat - 48)) / 10 = dgs (t' ++ [d']) by omega, show (dgs (t' ++ [d']) * 10 + (d.toNat - 48)) % 10 = d.toNat - 48 by omega, ih, ofNat_dig h1.1]
theorem dgs_dec (u : Nat) : dgs (decDigits u) = u := by
  induction u using Nat.strongRecOn with
  | _ u ih =>
    unfold decDigits
    split
    · rename_i h
      simp only [dgs, List.foldl_cons, List.foldl_nil]
      rw [dig_range h]; omega
    · rename_i h
      rw [dgs_snoc, ih (u / 10) (by omega), dig_range (Nat.mod_lt _ (by omega))]; omega
theorem dec_head {u : Nat} (hu : 0 < u) : (decDigits u).getD 0 0 ≠ 48 := by
  induction u using Nat.strongRecOn with
  | _ u ih =>
    unfold decDigits
    split
    · rename_i h
      intro h48
      have := congrArg UInt8.toNat h48
      simp only [List.getD_cons_zero] at this
      rw [dig_range h] at this
      have h2 : (48 : UInt8).toNat = 48 := rfl
      omega
    · rename_i h
      have := ih (u / 10) (by omega) (by omega)
      cases hd : decDigits (u / 10) with
      | nil => exact absurd hd (dec_ne _)
      | cons a l => rw [hd] at this; simpa using this
def bad (neg : Bool) (t : List UInt8) : Bool := (decide (t.length = 0) || (decide (19 < t.length) || (t.getD 0 0 == 48 && (decide (1 < t.length) || neg))))
def negB (s : List UInt8) : Bool := decide (0 < s.length) && s.getD 0 0 == 45
def tailT (s : List UInt8) : List UInt8 := if negB s then s.drop 1 else s
/-- the number that a text is, as it is written -/
def numF (s : List UInt8) : Option Int :=
  if bad (negB s) (tailT s) then none
  else if (tailT s).all isDg then
    (if negB s then (if dgs (tailT s) ≤ 9223372036854775808 then some (-(dgs (tailT s) : Int)) else none) else (if dgs (tailT s) < 9223372036854775808 then some (dgs (tailT s) : Int) else none))
  else none
theorem dec_bad {u : Nat} (hu : u < 10000000000000000000) (neg : Bool) (hn : neg = true → 0 < u) : bad neg (decDigits u) = false := by
  have hl := dec_len 18 u (by omega)
  have hne : 0 < (decDigits u).length := List.length_pos_iff.2 (dec_ne u)
  unfold bad
  rw [decide_eq_false (by omega), decide_eq_false (by omega), Bool.false_or, Bool.false_or]
  rcases Nat.eq_zero_or_pos u with rfl | h0
  · have h48 : decDigits 0 = [48] := by unfold decDigits; rfl
    cases neg with
    | true => exact absurd (hn rfl) (by omega)
    | false => rw [h48]; rfl
  · have := dec_head h0
    rw [show ((decDigits u).getD 0 0 == 48) = false by simpa using this]; rfl
theorem dec_all (u : Nat) : (decDigits u).all isDg = true := List.all_eq_true.2 fun b hb => isDg_iff.2 (dec_mem u b hb)
theorem numF_itoa {n : Int} (h1 : -9223372036854775808 ≤ n) (h2 : n ≤ 9223372036854775807) : numF (itoa n) = some n := by
  unfold itoa
  split
  · rename_i hn
    have hb : negB (45 :: decDigits n.natAbs) = true := by simp [negB]
    have ht : tailT (45 :: decDigits n.natAbs) = decDigits n.natAbs := by simp [tailT, hb]
    unfold numF
    rw [hb, ht, dec_bad (by omega) true (fun _ => by omega), dec_all, dgs_dec]
    simp only [Bool.false_eq_true, if_false, if_true]
    rw [if_pos (by omega)]
    congr 1; omega
  · rename_i hn
    have hb : negB (decDigits n.toNat) = false := by
      unfold negB
      cases hd : decDigits n.toNat with
      | nil => rfl
      | cons c r =>
        have hc := dec_mem n.toNat c (by rw [hd]; simp)
        have : (c == 45) = false := by
          apply beq_false_of_ne
          rintro rfl
          have h45 : (45 : UInt8).toNat = 45 := rfl
          omega
        simp [this]
    have ht : tailT (decDigits n.toNat) = decDigits n.toNat := by simp [tailT, hb]
    unfold numF
    rw [hb, ht, dec_bad (by omega) false (fun h => by cases h), dec_all, dgs_dec]
    simp only [Bool.false_eq_true, if_false, if_true]
    rw [if_pos (by omega)]
    congr 1; omega
theorem bad_dec {neg : Bool} {t : List UInt8} (h : bad neg t = false) (ha : t.all isDg = true) : decDigits (dgs t) = t ∧ t.length ≤ 19 ∧ (neg = true → 1 ≤ dgs t) := by
  unfold bad at h
  simp only [Bool.or_eq_false_iff, decide_eq_false_iff_not, Bool.and_eq_false_iff] at h
  obtain ⟨h1, h2, h3⟩ := h
  have hd := List.all_eq_true.1 ha
  have e : decDigits (dgs t) = t := by
    rcases List.eq_nil_or_concat t with rfl | ⟨t', d, rfl⟩
    · simp at h1
    · rw [List.concat_eq_append] at hd h3 ⊢
      refine dec_dgs t'.length t' d rfl hd (fun h0 => ?_)
      rcases h3 with h3 | h3
      · rw [h0] at h3; simp at h3
      · have := h3.1
        simp at this
        exact this
  refine ⟨e, by omega, fun hn => ?_⟩
  rcases Nat.eq_zero_or_pos (dgs t) with h0 | h0
  · exfalso
    rw [h0, show decDigits 0 = [48] by unfold decDigits; rfl] at e
    rw [← e, hn] at h3
    simp at h3
  · exact h0
theorem itoa_numF {s : List UInt8} {v : Int} (h : numF s = some v) : itoa v = s ∧ -9223372036854775808 ≤ v ∧ v ≤ 9223372036854775807 := by
  unfold numF at h
  cases hb : bad (negB s) (tailT s) with
  | true => rw [hb] at h; simp at h
  | false =>
    rw [hb] at h
    simp only [Bool.false_eq_true, if_false] at h
    cases ha : (tailT s).all isDg with
    | false => rw [ha] at h; simp at h
    | true =>
      rw [ha] at h
      simp only [if_true] at h
      obtain ⟨e, _, hp⟩ := bad_dec hb ha
      cases hn : negB s with
      | true =>
        rw [hn] at h
        simp only [if_true] at h
        have hp := hp hn
        split at h
        · cases h
          have hs : s = 45 :: tailT s := by
            unfold tailT
            rw [hn, if_pos rfl]
            unfold negB at hn
            cases s with
            | nil => simp at hn
            | cons a l => simp at hn; rw [hn]; rfl
          refine ⟨?_, by omega, by omega⟩
          unfold itoa
          rw [if_pos (by omega), Int.natAbs_neg, Int.natAbs_natCast, e]
          exact hs.symm
        · cases h
      | false =>
        rw [hn] at h
        simp only [Bool.false_eq_true, if_false] at h
        have hs : tailT s = s := by unfold tailT; rw [hn]; simp
        split at h
        · cases h
          refine ⟨?_, by omega, by omega⟩
          unfold itoa
          rw [if_neg (by omega), Int.toNat_natCast, e, hs]
        · cases h
end Go.Sc
