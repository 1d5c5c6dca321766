/- Contracts: numbers in bytes, and the reader and the writer of bytes. -/
import Derived.Test.YtknpbkajonmaoaaDoorLtN
import Derived.Test.YtknpbkajonmaoaaDoorInsV
namespace Go.Proofs.YtknpbkajonmaoaaDoor
open Go.Vc Go.Lv Go.Ty Go.Iv

theorem keq {α : Type} {K : α → Prop} {x y : α} (h : K y) (e : x = y) : K x := e ▸ h
theorem zig_v (n : Int) (hn : J64 n) (K : Int → Prop) (h : K (zigN n)) : V_vint_Zig n K := by
  refine vint_Zig_lift _ _ ⟨by decide, by decide, ?_⟩
  rw [zig_eq hn]; exact h
theorem zag_v (u : Nat) (hu : u < 18446744073709551616) (K : Int → Prop) (h : K (zagN u)) : V_vint_Zag u K := by
  refine vint_Zag_lift _ _ ⟨by decide, ?_⟩
  rw [zag_eq hu]; exact h
theorem rzig_v (n : Int) (hn : J64 n) (K : Int → Prop) (h : K (zigN n)) : V_R01_Zig n K := by
  obtain ⟨h1, h2⟩ := hn
  refine R01_Zig_lift _ _ (cond_intro (fun hc => keq h ?_) fun hc => keq h ?_)
  · have hc : n < 0 := of_decide_eq_true hc
    unfold zigN; rw [if_pos hc]; simp only [IntKind.wrap_u64, IntKind.wrap_i64]; omega
  · have hc : ¬ n < 0 := of_decide_eq_false hc
    unfold zigN; rw [if_neg hc]; simp only [IntKind.wrap_u64]; omega
theorem rzag_v (u : Nat) (hu : u < 18446744073709551616) (K : Int → Prop) (h : K (zagN u)) : V_R01_Zag u K := by
  have e1 : (u : Int).tmod 2 = ((u % 2 : Nat) : Int) := rfl
  have e2 : (u : Int).tdiv 2 = ((u / 2 : Nat) : Int) := rfl
  refine R01_Zag_lift _ _ ⟨by decide, ?_⟩
  rw [e1, e2]
  refine cond_intro (fun hc => ⟨by decide, keq h ?_⟩) fun hc => ⟨by decide, keq h ?_⟩
  · have hc : u % 2 = 1 := by have := eq_of_beq hc; omega
    unfold zagN; rw [if_pos hc]; simp only [IntKind.wrap_u64, IntKind.wrap_i64]; omega
  · have hc : ¬ u % 2 = 1 := by intro e; rw [e] at hc; exact absurd hc (by decide)
    unfold zagN; rw [if_neg hc]; simp only [IntKind.wrap_u64, IntKind.wrap_i64]; omega
theorem pow_lt10 {k : Nat} (h : 128 ^ k < 18446744073709551616) : k ≤ 9 := by
  rcases Nat.lt_or_ge 9 k with h1 | h1
  · have : 128 ^ 10 ≤ 128 ^ k := Nat.pow_le_pow_right (by omega) h1
    have e : (128 : Nat) ^ 10 = 1180591620717411303424 := rfl
    omega
  · exact h1
theorem div_pow {a k : Nat} : a / 128 * 128 ^ (k + 1) ≤ a * 128 ^ k := by
  rw [Nat.pow_succ, Nat.mul_comm (128 ^ k) 128, ← Nat.mul_assoc]
  exact Nat.mul_le_mul_right _ (Nat.div_mul_le_self a 128)
theorem size_v (u : Nat) (hu : u < 18446744073709551616) (K : Int → Prop) (h : ∀ n : Nat, 1 ≤ n → n ≤ 10 → K n) : V_vint_Size u K := by
  refine vint_Size_lift _ _ ⟨fun u1 n m => ∃ a k : Nat, u1 = a ∧ n = ((k + 1 : Nat) : Int) ∧ a = m ∧ a * 128 ^ k < 18446744073709551616 ∧ k ≤ 9, ⟨u, u, 0, rfl, rfl, rfl, by simpa using hu, by omega⟩, ?_⟩
  rintro _ _ _ ⟨a, k, rfl, rfl, rfl, hk, hk9⟩
  refine cond_intro (fun hc => ⟨by decide, ?_⟩) fun hc => h (k + 1) (by omega) (by omega)
  have ha : 128 ≤ a := by have := of_decide_eq_true hc; omega
  have h1 : a / 128 * 128 ^ (k + 1) < 18446744073709551616 := Nat.lt_of_le_of_lt div_pow hk
  have h2 : 128 ^ (k + 1) ≤ a / 128 * 128 ^ (k + 1) := Nat.le_mul_of_pos_left _ (by omega)
  refine ⟨a / 128, by omega, a / 128, k + 1, ?_, ?_, rfl, h1, pow_lt10 (by omega)⟩
  · show (a : Int).fdiv ((128 : Nat) : Int) = _
    rw [fdiv_nat]
  · rw [wrap_in (by omega) (by omega)]; omega
theorem or128 (a : Nat) : bitsOr .u8 (IntKind.u8.wrap (a : Int)) 128 = ((a % 128 + 128 : Nat) : Int) := by
  have key : ∀ b : Fin 256, bitsOr .u8 ((b.val : Nat) : Int) 128 = ((b.val % 128 + 128 : Nat) : Int) := by decide +kernel
  have := key ⟨a % 256, by omega⟩
  rw [show IntKind.u8.wrap (a : Int) = ((a % 256 : Nat) : Int) by rw [IntKind.wrap_u8]; omega, this]
  have : a % 256 % 128 = a % 128 := by omega
  simp only [this]
theorem u8_wrap {a : Nat} (h : a < 256) : IntKind.u8.wrap (a : Int) = (a : Int) := by rw [IntKind.wrap_u8]; omega
theorem strOf_len (l : List Int) : (strOf l).length = l.length := by simp [strOf]
theorem put_v (s : List UInt8) (u : Nat) (hs : s.length < 1073741824) (hu : u < 18446744073709551616) (K : List UInt8 → Prop) (h : K (s ++ numF u)) : V_vint_Put s u K := by
  refine vint_Put_lift _ _ _ (size_v u hu _ fun n h1 h2 => ?_)
  have hw : IntKind.i64.wrap ((s.length : Int) + (n : Int)) = ((s.length + n : Nat) : Int) := by rw [wrap_in (by omega) (by omega)]; omega
  rw [hw]
  refine ⟨by omega, by omega, fun u1 out m => ∃ a : Nat, u1 = a ∧ a = m ∧ a < 18446744073709551616 ∧ strOf out ++ numF a = s ++ numF u, ⟨u, u, rfl, rfl, hu, by rw [strOf_nums]⟩, ?_⟩
  rintro _ out _ ⟨a, rfl, rfl, ha, he⟩
  have hlen := congrArg List.length he
  rw [List.length_append, List.length_append, strOf_len] at hlen
  have := numF_len10 hu
  refine cond_intro (fun hc => ⟨by rw [List.length_singleton]; omega, by decide, ?_⟩) fun hc => ⟨by rw [List.length_singleton]; omega, keq h ?_⟩
  · have hc : ¬ a < 128 := by have := of_decide_eq_true hc; omega
    refine ⟨a / 128, by omega, a / 128, ?_, rfl, by omega, ?_⟩
    · show (a : Int).fdiv ((128 : Nat) : Int) = _
      rw [fdiv_nat]
    · rw [strOf_app, or128, strOf_one, ← he, numF_ge hc, List.append_assoc]; rfl
  · have hc : a < 128 := by have := of_decide_eq_false hc; omega
    rw [strOf_app, u8_wrap (by omega), strOf_one, ← he, numF_lt hc]; rfl
set_option maxRecDepth 10000 in
theorem rnum_v : ∀ (j u : Nat), u < j → u < 18446744073709551616 → ∀ K : List UInt8 → Prop, K (numF u) → V_R01_Num u K := by
  intro j
  induction j with
  | zero => intro u h; omega
  | succ j ih =>
    intro u hj hu K h
    have e1 : (u : Int).tmod 128 = ((u % 128 : Nat) : Int) := rfl
    have e2 : (u : Int).tdiv 128 = ((u / 128 : Nat) : Int) := rfl
    refine R01_Num_lift _ _ (cond_intro (fun hc => keq h ?_) fun hc => ⟨by decide, by decide, ?_⟩)
    · have hc : u < 128 := by have := of_decide_eq_true hc; omega
      rw [u8_wrap (by omega), strOf_one, numF_lt hc]; rfl
    · have hc : ¬ u < 128 := by have := of_decide_eq_false hc; omega
      rw [e1, e2, show IntKind.u64.wrap ((u / 128 : Nat) : Int) = ((u / 128 : Nat) : Int) by rw [IntKind.wrap_u64]; omega]
      refine ih (u / 128) (by omega) (by omega) _ ?_
      have := numF_len10 (u := u / 128) (by omega)
      refine ⟨?_, keq h ?_⟩
      · show _ ≤ (9223372036854775807 : Int)
        rw [strOf_len]; simp only [List.length_singleton]; omega
      · rw [numF_ge hc, u8_wrap (by omega), show ((u % 128 : Nat) : Int) + 128 = ((u % 128 + 128 : Nat) : Int) by omega, u8_wrap (by omega), strOf_one]; rfl
theorem rint3_v (n : Int) (hn : J64 n) (K : List UInt8 → Prop) (h : K (numF (zigN n))) : V_R03_Int n K :=
  R03_Int_lift _ _ (rzig_v n hn _ (rnum_v (zigN n + 1) _ (by omega) (zig_lt hn) _ h))
theorem pow7 (k : Nat) : (2 : Nat) ^ (7 * k) = 128 ^ k := by rw [Nat.pow_mul]
theorem or_sum (a m k : Nat) (ha : a < 128 ^ k) (hk : k ≤ 9) (hm : m < 256) (hlt : a + m * 128 ^ k < 18446744073709551616) : bitsOr .u64 (a : Int) (IntKind.u64.wrap ((IntKind.u64.wrap (m : Int)) * 2 ^ (min (IntKind.i64.wrap ((7 : Int) * (k : Int))).toNat IntKind.u64.bits))) = ((a + m * 128 ^ k : Nat) : Int) := by
  have e1 : IntKind.i64.wrap ((7 : Int) * (k : Int)) = ((7 * k : Nat) : Int) := by rw [wrap_in (by omega) (by omega)]; omega
  have e2 : min (7 * k) IntKind.u64.bits = 7 * k := Nat.min_eq_left (by show 7 * k ≤ 64; omega)
  have e3 : ((2 : Int) ^ (7 * k)) = ((128 ^ k : Nat) : Int) := by rw [← pow7]; push_cast; rfl
  have e4 : IntKind.u64.wrap (m : Int) = (m : Int) := by rw [IntKind.wrap_u64]; omega
  rw [e1, Int.toNat_natCast, e2, e3, e4, ← Int.natCast_mul, show IntKind.u64.wrap ((m * 128 ^ k : Nat) : Int) = ((m * 128 ^ k : Nat) : Int) by rw [IntKind.wrap_u64]; omega]
  show IntKind.u64.wrap ((BitVec.ofInt 64 (a : Int) ||| BitVec.ofInt 64 ((m * 128 ^ k : Nat) : Int)).toNat) = _
  rw [BitVec.ofInt_natCast, BitVec.ofInt_natCast, BitVec.toNat_or, BitVec.toNat_ofNat, BitVec.toNat_ofNat, Nat.mod_eq_of_lt (show a < 2 ^ 64 by omega), Nat.mod_eq_of_lt (show m * 128 ^ k < 2 ^ 64 by omega)]
  have h1 : a ||| m * 128 ^ k = a + m * 128 ^ k := by
    rw [Nat.or_comm, Nat.mul_comm, ← pow7, ← Nat.two_pow_add_eq_or_of_lt (by rw [pow7]; exact ha), Nat.add_comm]
  rw [h1, IntKind.wrap_u64]
  omega
theorem and127 (c : Nat) (h : c < 256) : bitsAnd .u8 (c : Int) 127 = ((c % 128 : Nat) : Int) := by
  have key : ∀ b : Fin 256, bitsAnd .u8 ((b.val : Nat) : Int) 127 = ((b.val % 128 : Nat) : Int) := by decide +kernel
  exact key ⟨c, h⟩
theorem nums_get {s : List UInt8} {k : Nat} {x : Int} (h : (nums s)[k]? = some x) : ∃ hk : k < s.length, x = (s[k].toNat : Int) := by
  rw [nums, List.getElem?_map] at h
  cases hc : s[k]? with
  | none => rw [hc] at h; cases h
  | some c =>
    rw [hc] at h
    cases h
    obtain ⟨hk, e⟩ := List.getElem?_eq_some_iff.1 hc
    exact ⟨hk, by rw [e]⟩
theorem mul_small {c k : Nat} (hc : c < 128) (hk : k ≤ 9) (h9 : ¬ (k = 9 ∧ 1 < c)) {a : Nat} (ha : a < 128 ^ k) : a + c * 128 ^ k < 18446744073709551616 := by
  by_cases hk9 : k = 9
  · subst hk9
    have e : (128 : Nat) ^ 9 = 9223372036854775808 := rfl
    rw [e] at ha ⊢
    omega
  · have hp8 : 128 ^ k ≤ 128 ^ 8 := Nat.pow_le_pow_right (by omega) (by omega)
    have e : (128 : Nat) ^ 8 = 72057594037927936 := rfl
    have : c * 128 ^ k ≤ 127 * 128 ^ k := Nat.mul_le_mul_right _ (by omega)
    omega
theorem grow {c k a : Nat} (ha : a < 128 ^ k) : a + c % 128 * 128 ^ k < 128 ^ (k + 1) := by
  have : c % 128 * 128 ^ k ≤ 127 * 128 ^ k := Nat.mul_le_mul_right _ (by omega)
  rw [Nat.pow_succ]; omega
set_option maxRecDepth 10000 in
/-- a number at the front of bytes -/
theorem get_v (s : List UInt8) (hs : s.length < 1099511627776) (K : Int → Int → Int → Prop) (h1 : ∀ (u : Nat) t, dec 0 0 s = .ok (u, t) → K u ((s.length - t.length : Nat) : Int) 0) (h2 : ∀ e, dec 0 0 s = .error e → K 0 0 e) : V_vint_Get s 0 K := by
  refine vint_Get_lift _ _ _ (cond_f (by simp) ⟨⟨by omega, by omega⟩, ?_⟩)
  rw [show (0 : Int).toNat = 0 from rfl, List.drop_zero]
  have hnl : (nums s).length = s.length := nums_len s
  rw [hnl]
  refine ⟨fun ex u x n => ex = 2 ∧ ∃ k a : Nat, x = k ∧ u = a ∧ k ≤ 9 ∧ k ≤ s.length ∧ n = s.length - k ∧ a < 128 ^ k ∧ dec 0 0 s = dec k a (s.drop k), ⟨_, rfl, 0, 0, rfl, rfl, by omega, by omega, rfl, by simp, rfl⟩, ?_⟩
  rintro _ _ _ _ ⟨rfl, k, a, rfl, rfl, hk9, hk, rfl, ha, hd⟩
  refine cond_intro (fun hc => ?_) fun hc => ?_
  · have hc : k < s.length := by have := of_decide_eq_true hc; omega
    refine ⟨⟨by omega, by omega⟩, fun x1 hx => ?_⟩
    rw [Int.toNat_natCast] at hx
    obtain ⟨_, rfl⟩ := nums_get hx
    have hcl := (s[k]).toNat_lt
    rw [List.drop_eq_getElem_cons hc] at hd
    simp only [dec] at hd
    generalize s[k].toNat = c at hcl hd ⊢
    refine ⟨fun b => b = decide ((k = 9 ∧ 1 < c) ∨ (c = 0 ∧ 0 < k)), cond_intro (fun hq => ?_) fun hq => ?_, ?_⟩
    · simp only [Bool.and_eq_true, beq_iff_eq, decide_eq_true_eq] at hq
      rw [show ((((k : Int)) == 9) && decide ((c : Int) > 1)) = true by simp; omega, decide_eq_true (.inl ⟨by omega, by omega⟩)]
    · have hq : ¬ (k = 9 ∧ 1 < c) := by
        intro hh
        rw [show ((((k : Int)) == 9) && decide ((c : Int) > 1)) = true by simp; omega] at hq
        cases hq
      show (_ : Bool) = _
      rw [Bool.eq_iff_iff]
      simp only [Bool.and_eq_true, decide_eq_true_eq, beq_iff_eq]
      omega
    · rintro _ rfl
      refine cond_intro (fun hq => ?_) fun hq => ?_
      · exact h2 3 (hd.trans (by rw [if_pos (of_decide_eq_true hq)]))
      · have hq := of_decide_eq_false hq
        refine cond_intro (fun hl => ⟨?_, ?_⟩) fun hl => ⟨?_, ?_⟩
        · rw [wrap_in (by omega) (by omega)]; omega
        · have hl : c < 128 := by have := of_decide_eq_true hl; omega
          have hok : dec 0 0 s = .ok (a + c * 128 ^ k, s.drop (k + 1)) := hd.trans (by rw [if_neg hq, if_pos hl])
          have := h1 _ _ hok
          rw [or_sum a c k ha hk9 (by omega) (mul_small hl hk9 (fun h => hq (.inl h)) ha)]
          refine keq (K := fun z => K _ z 0) this ?_
          rw [List.length_drop, wrap_in (n := (0 : Int) + (k : Int)) (by omega) (by omega), wrap_in (by omega) (by omega)]
          omega
        · rw [wrap_in (by omega) (by omega)]; omega
        · have hl : ¬ c < 128 := by have := of_decide_eq_false hl; omega
          have hk8 : k ≠ 9 := fun e => hq (.inl ⟨e, by omega⟩)
          refine ⟨s.length - (k + 1), by omega, rfl, k + 1, a + c % 128 * 128 ^ k, ?_, ?_, by omega, by omega, rfl, grow ha, ?_⟩
          · rw [wrap_in (by omega) (by omega)]; omega
          · rw [and127 c hcl, or_sum a (c % 128) k ha hk9 (by omega) (mul_small (by omega) hk9 (fun h => hk8 h.1) ha)]
          · rw [hd, if_neg hq, if_neg hl]
  · have hk : k = s.length := by have := of_decide_eq_false hc; omega
    rw [hk, List.drop_length] at hd
    exact h2 2 hd
set_option maxRecDepth 10000 in
theorem rget_v (s : List UInt8) (at_ : Nat) (ha : at_ ≤ s.length) (hs : s.length < 1099511627776) (K : GR01_Got → Prop) (h1 : ∀ (u : Nat) t, dec 0 0 (s.drop at_) = .ok (u, t) → K ⟨u, ((s.length - t.length : Nat) : Int), 0⟩) (h2 : ∀ e, dec 0 0 (s.drop at_) = .error e → K ⟨0, 0, e⟩) : V_R01_Get s at_ K := by
  refine R01_Get_lift _ _ _ (cond_f (by simp; omega) ?_)
  refine ⟨fun u unit k U N E n => U = 0 ∧ N = 0 ∧ E = 0 ∧ ∃ j a : Nat, k = j ∧ u = a ∧ unit = ((128 ^ j : Nat) : Int) ∧ j ≤ 9 ∧ at_ + j ≤ s.length ∧ n = 10 - j ∧ a < 128 ^ j ∧ dec 0 0 (s.drop at_) = dec j a (s.drop (at_ + j)), ⟨_, rfl, rfl, rfl, 0, 0, rfl, rfl, rfl, by omega, by omega, rfl, by simp, rfl⟩, ?_⟩
  rintro _ _ _ _ _ _ _ ⟨rfl, rfl, rfl, k, a, rfl, rfl, rfl, hk9, hk, rfl, ha2, hd⟩
  refine cond_t (by simp; omega) ?_
  rw [wrap_in (n := (at_ : Int) + (k : Int)) (by omega) (by omega)]
  refine cond_intro (fun hc => ?_) fun hc => ?_
  · have hc : at_ + k = s.length := by have := of_decide_eq_true hc; omega
    rw [hc, List.drop_length] at hd
    exact h2 2 hd
  · have hc : at_ + k < s.length := by have := of_decide_eq_false hc; omega
    refine ⟨by omega, ?_⟩
    have e0 : ((at_ : Int) + (k : Int)).toNat = at_ + k := by omega
    have e1 : s.getD (at_ + k) 0 = s[at_ + k] := by simp [List.getD, hc]
    rw [e0, e1]
    have hcl := (s[at_ + k]).toNat_lt
    rw [List.drop_eq_getElem_cons hc] at hd
    simp only [dec] at hd
    generalize s[at_ + k].toNat = c at hcl hd ⊢
    have e2 : ((c : Int)).tmod 128 = ((c % 128 : Nat) : Int) := rfl
    rw [e2]
    have hb : (cond (((k : Int)) == 9) ((decide ((c : Int) > 1)) || (((c : Int) == 0) && (decide ((k : Int) > 0)))) (((c : Int) == 0) && (decide ((k : Int) > 0)))) = decide ((k = 9 ∧ 1 < c) ∨ (c = 0 ∧ 0 < k)) := by
      by_cases h9 : k = 9
      · subst h9
        rw [Bool.eq_iff_iff]; simp; omega
      · rw [show (((k : Int)) == 9) = false by simp; omega, Bool.eq_iff_iff]; simp; omega
    rw [hb]
    refine cond_intro (fun hq => ?_) fun hq => ⟨by decide, ?_⟩
    · exact h2 3 (hd.trans (by rw [if_pos (of_decide_eq_true hq)]))
    · have hq := of_decide_eq_false hq
      have hms := mul_small (c := c % 128) (by omega) hk9 (fun h => hq (.inl ⟨h.1, by have := h.2; omega⟩)) ha2
      have eu : IntKind.u64.wrap ((a : Int) + (IntKind.u64.wrap ((IntKind.u64.wrap ((c % 128 : Nat) : Int)) * ((128 ^ k : Nat) : Int)))) = ((a + c % 128 * 128 ^ k : Nat) : Int) := by
        rw [show IntKind.u64.wrap ((c % 128 : Nat) : Int) = ((c % 128 : Nat) : Int) by rw [IntKind.wrap_u64]; omega, ← Int.natCast_mul, show IntKind.u64.wrap ((c % 128 * 128 ^ k : Nat) : Int) = ((c % 128 * 128 ^ k : Nat) : Int) by rw [IntKind.wrap_u64]; omega, IntKind.wrap_u64]
        omega
      rw [eu]
      refine cond_intro (fun hl => ?_) fun hl => ?_
      · have hl : c < 128 := by have := of_decide_eq_true hl; omega
        have hok : dec 0 0 (s.drop at_) = .ok (a + c * 128 ^ k, s.drop (at_ + k + 1)) := hd.trans (by rw [if_neg hq, if_pos hl])
        have := h1 _ _ hok
        rw [show c % 128 = c by omega]
        refine keq (K := fun z => K ⟨_, z, 0⟩) this ?_
        rw [List.length_drop, wrap_in (by omega) (by omega)]
        omega
      · have hl : ¬ c < 128 := by have := of_decide_eq_false hl; omega
        have hk8 : k ≠ 9 := fun e => hq (.inl ⟨e, by omega⟩)
        have hp : 128 ^ (k + 1) < 18446744073709551616 := Nat.lt_of_le_of_lt (Nat.pow_le_pow_right (by omega) (show k + 1 ≤ 9 by omega)) (by decide)
        refine ⟨10 - (k + 1), by omega, rfl, rfl, rfl, k + 1, a + c % 128 * 128 ^ k, ?_, rfl, ?_, by omega, by omega, rfl, grow ha2, ?_⟩
        · rw [wrap_in (by omega) (by omega)]; omega
        · rw [Nat.pow_succ] at hp ⊢
          rw [IntKind.wrap_u64]; omega
        · rw [hd, if_neg hq, if_neg hl]; rfl
/-! ## the reader, the writer -/
def rd (s : List UInt8) (e : Int) : Gwire_Reader := ⟨s, e⟩
theorem getint_v (s : List UInt8) (hs : s.length < 1099511627776) (K : Int → Int → Int → Prop) (h1 : ∀ (u : Nat) t, dec 0 0 s = .ok (u, t) → K (zagN u) ((s.length - t.length : Nat) : Int) 0) (h2 : ∀ e, dec 0 0 s = .error e → K 0 0 e) : V_vint_GetInt s 0 K := by
  refine vint_GetInt_lift _ _ _ (get_v s hs _ (fun u t hd => ?_) fun e hd => ?_)
  · exact zag_v u (dec_back0 hd).2 _ (h1 u t hd)
  · exact zag_v 0 (by omega) _ (h2 e hd)
theorem dec_err : ∀ (s : List UInt8) (k u : Nat) (e : Int), dec k u s = .error e → e ≠ 0
  | [], k, u, e, h => by simp only [dec] at h; cases h; decide
  | c :: s, k, u, e, h => by
    simp only [dec] at h
    split at h
    · cases h; decide
    · split at h
      · cases h
      · exact dec_err s _ _ _ h
theorem drop_back {s t : List UInt8} {u : Nat} (h : dec 0 0 s = .ok (u, t)) : s.drop (s.length - t.length) = t := by
  rw [(dec_back0 h).1, List.length_append, Nat.add_sub_cancel, List.drop_left]
theorem int_v (s : List UInt8) (hs : s.length < 1099511627776) (K : Int → Gwire_Reader → Prop) (h1 : ∀ (u : Nat) t, dec 0 0 s = .ok (u, t) → K (zagN u) ⟨t, 0⟩) (h2 : ∀ e, dec 0 0 s = .error e → K 0 ⟨s, e⟩) : V_wire_Reader_Int ⟨s, 0⟩ K := by
  refine wire_Reader_Int_lift _ _ (wire_Reader_step_wire_Reader_Int_1_lift _ _ _ ⟨fun b => b = false, rfl, ?_⟩)
  rintro _ rfl
  refine cond_f rfl (wire_Reader_Int_1_lift _ _ _ (getint_v s hs _ (fun u t hd => ?_) fun e hd => ?_))
  · refine cond_f rfl ⟨⟨by omega, by show _ ≤ (s.length : Int); omega⟩, ?_⟩
    rw [Int.toNat_natCast]
    show K (zagN u) ⟨s.drop (s.length - t.length), 0⟩
    rw [drop_back hd]; exact h1 u t hd
  · exact cond_t (by simpa using dec_err _ _ _ _ hd) (h2 e hd)
theorem inte_v (s : List UInt8) (e : Int) (he : e ≠ 0) (K : Int → Gwire_Reader → Prop) (h : K 0 ⟨s, e⟩) : V_wire_Reader_Int ⟨s, e⟩ K := by
  refine wire_Reader_Int_lift _ _ (wire_Reader_step_wire_Reader_Int_1_lift _ _ _ ⟨fun b => b = true, by simpa using he, ?_⟩)
  rintro _ rfl
  exact cond_t rfl h
theorem raw_v (c : UInt8) (s : List UInt8) (K : List UInt8 → Gwire_Reader → Prop) (h : K [c] ⟨s, 0⟩) : V_wire_Reader_Raw ⟨c :: s, 0⟩ 1 K := by
  refine wire_Reader_Raw_lift _ _ _ (wire_Reader_step_wire_Reader_Raw_1_lift _ _ _ _ ⟨fun b => b = false, rfl, ?_⟩)
  rintro _ rfl
  refine cond_f rfl (wire_Reader_Raw_1_lift _ _ _ _ (cond_f (by decide) (cond_f (by show decide ((1 : Int) > ((c :: s).length : Int)) = false; rw [List.length_cons]; simp; omega) ⟨⟨by omega, by show (1 : Int) ≤ ((c :: s).length : Int); rw [List.length_cons]; omega⟩, cond_f rfl ⟨⟨by omega, by show (1 : Int) ≤ ((c :: s).length : Int); rw [List.length_cons]; omega⟩, h⟩⟩)))
theorem fail_v (s : List UInt8) (e x : Int) (hx : x ≠ 0) (K : Gwire_Reader → Prop) (h : K ⟨s, if e = 0 then x else e⟩) : V_wire_Reader_Fail ⟨s, e⟩ x K := by
  refine wire_Reader_Fail_lift _ _ _ (wire_Reader_step_wire_Reader_Fail_1_lift _ _ _ ⟨fun b => b = (e != 0), rfl, ?_⟩)
  rintro _ rfl
  refine cond_intro (fun hc => ?_) fun hc => ?_
  · rw [if_neg (by simpa using hc)] at h; exact h
  · rw [if_pos (by simpa using hc)] at h
    exact wire_Reader_Fail_1_lift _ _ _ (cond_t (by simpa using hx) h)
theorem left_v (s : List UInt8) (e : Int) (K : Int → Prop) (h : K s.length) : V_wire_Reader_Left ⟨s, e⟩ K := wire_Reader_Left_lift _ _ h
theorem err_v (s : List UInt8) (e : Int) (K : Int → Prop) (h : K e) : V_wire_Reader_Err ⟨s, e⟩ K := wire_Reader_Err_lift _ _ h
theorem add_v (l : List Int) (s : List UInt8) (hl : l.length + s.length < 2 ^ 32) (K : Gwire_Writer → Prop) (h : K ⟨l ++ nums s⟩) : V_wire_Writer_add ⟨l⟩ s K := wire_Writer_add_lift _ _ _ ⟨hl, h⟩
theorem wraw_v (l : List Int) (s : List UInt8) (hl : l.length + s.length < 2 ^ 32) (K : Gwire_Writer → Prop) (h : K ⟨l ++ nums s⟩) : V_wire_Writer_Raw ⟨l⟩ s K := wire_Writer_Raw_lift _ _ _ (add_v l s hl _ h)
theorem wint_v (l : List Int) (n : Int) (hn : J64 n) (hl : l.length < 2 ^ 31) (K : Gwire_Writer → Prop) (h : K ⟨l ++ nums (numF (zigN n))⟩) : V_wire_Writer_Int ⟨l⟩ n K := by
  have := numF_len10 (zig_lt hn)
  exact wire_Writer_Int_lift _ _ _ (vint_PutInt_lift _ _ _ (zig_v n hn _ (put_v [] _ (by decide) (zig_lt hn) _ (add_v l _ (by rw [List.nil_append]; omega) _ h))))
end Go.Proofs.YtknpbkajonmaoaaDoor
