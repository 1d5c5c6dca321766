/- Pieces of a list of nodes, told by the numbers of their kids: plain. -/
import Derived.Test.YtcbpdageojenjaaLv
namespace Go.Tr

/-- what is left of a list behind so many pieces -/
def eat : Nat → List Int → List Int
  | 0, l => l
  | _ + 1, [] => []
  | n + 1, k :: l => eat (n + k.toNat) l
  termination_by _ l => l.length

theorem eat_zero (l : List Int) : eat 0 l = l := by rw [eat]
theorem eat_nil (n : Nat) : eat n [] = [] := by cases n <;> rw [eat]
theorem eat_cons (n : Nat) (k : Int) (l : List Int) : eat (n + 1) (k :: l) = eat (n + k.toNat) l := by rw [eat]
theorem eat_add : ∀ (l : List Int) (a b : Nat), eat (a + b) l = eat b (eat a l)
  | [], a, b => by simp [eat_nil]
  | k :: l, 0, b => by simp [eat_zero]
  | k :: l, a + 1, b => by
    rw [show a + 1 + b = (a + b) + 1 by omega, eat_cons, eat_cons, show a + b + k.toNat = (a + k.toNat) + b by omega, eat_add l]
theorem eat_one (k : Int) (l : List Int) : eat 1 (k :: l) = eat k.toNat l := by
  rw [show (1 : Nat) = 0 + 1 from rfl, eat_cons, Nat.zero_add]
theorem eat_suf : ∀ (l : List Int) (n : Nat), eat n l <:+ l
  | [], n => by rw [eat_nil]; exact List.suffix_refl _
  | k :: l, 0 => by rw [eat_zero]; exact List.suffix_refl _
  | k :: l, n + 1 => by rw [eat_cons]; exact (eat_suf l _).trans (List.suffix_cons k l)
theorem eat_le (l : List Int) (n : Nat) : (eat n l).length ≤ l.length := (eat_suf l n).length_le
theorem eat_lt (l : List Int) (n : Nat) (h : l ≠ []) (hn : 0 < n) : (eat n l).length < l.length := by
  cases l with
  | nil => exact absurd rfl h
  | cons k l =>
    cases n with
    | zero => omega
    | succ n => rw [eat_cons, List.length_cons]; have := eat_le l (n + k.toNat); omega
/-- so many pieces as there are nodes are all -/
theorem eat_all : ∀ (l : List Int) (n : Nat), l.length ≤ n → eat n l = []
  | [], n, _ => eat_nil n
  | k :: l, 0, h => by simp at h
  | k :: l, n + 1, h => by rw [eat_cons]; exact eat_all l _ (by simp at h; omega)
/-- a place within pieces -/
theorem eat_in : ∀ (l : List Int) (n : Nat) (m : List Int), m <:+ l → (eat n l).length < m.length → ∃ d, 0 < d ∧ eat n l = eat d m
  | [], n, m, hm, h => by
    have : m = [] := List.suffix_nil.1 hm
    subst this; simp at h
  | k :: l, 0, m, hm, h => by rw [eat_zero] at h; have := hm.length_le; omega
  | k :: l, n + 1, m, hm, h => by
    rcases List.suffix_cons_iff.1 hm with rfl | hm
    · exact ⟨n + 1, by omega, rfl⟩
    · rw [eat_cons] at h ⊢
      exact eat_in l _ m hm h
/-- a place within pieces begins one of them, or is a kid of a node ahead of it -/
theorem eat_up : ∀ (l : List Int) (n : Nat) (m : List Int), m <:+ l → (eat n l).length < m.length →
    (∃ j, j < n ∧ m = eat j l) ∨ ∃ k r j, (k :: r) <:+ l ∧ m.length ≤ r.length ∧ j < k.toNat ∧ m = eat j r
  | [], n, m, hm, h => by
    have : m = [] := List.suffix_nil.1 hm
    subst this; simp at h
  | k :: l, 0, m, hm, h => by rw [eat_zero] at h; have := hm.length_le; omega
  | k :: l, n + 1, m, hm, h => by
    rcases List.suffix_cons_iff.1 hm with rfl | hm'
    · exact .inl ⟨0, by omega, by rw [eat_zero]⟩
    · rw [eat_cons] at h
      rcases eat_up l _ m hm' h with ⟨j, hj, rfl⟩ | ⟨k', r, j, hs, hl, hj, hm2⟩
      · by_cases hjk : j < k.toNat
        · exact .inr ⟨k, l, j, List.suffix_refl _, eat_le _ _, hjk, rfl⟩
        · refine .inl ⟨j - k.toNat + 1, by omega, ?_⟩
          rw [eat_cons, show j - k.toNat + k.toNat = j by omega]
      · exact .inr ⟨k', r, j, hs.trans (List.suffix_cons k l), hl, hj, hm2⟩

theorem suf_drop {α : Type} {m l : List α} (h : m <:+ l) : m = l.drop (l.length - m.length) := by
  obtain ⟨t, rfl⟩ := h
  simp
theorem drop_inj {α : Type} {l : List α} {i j : Nat} (hi : i ≤ l.length) (hj : j ≤ l.length) (h : l.drop i = l.drop j) : i = j := by
  have := congrArg List.length h
  simp at this; omega
/-- the place behind a piece -/
def endF (l : List Int) (i : Nat) : Nat := l.length - (eat 1 (l.drop i)).length
theorem endF_drop (l : List Int) (i : Nat) : l.drop (endF l i) = eat 1 (l.drop i) := by
  have h := (eat_suf (l.drop i) 1).trans (List.drop_suffix i l)
  exact (suf_drop h).symm
theorem endF_le (l : List Int) (i : Nat) : endF l i ≤ l.length := by unfold endF; omega
theorem endF_gt (l : List Int) (i : Nat) (h : i < l.length) : i < endF l i := by
  have h1 := eat_lt (l.drop i) 1 (by intro e; have := congrArg List.length e; simp at this; omega) (by omega)
  rw [List.length_drop] at h1
  unfold endF; omega
/-- i is the j-th kid of k -/
def Kid (l : List Int) (k j i : Nat) : Prop := k < l.length ∧ j < (l.getD k 0).toNat ∧ eat j (l.drop (k + 1)) = l.drop i ∧ i < l.length
theorem drop_cons' {l : List Int} {k : Nat} (h : k < l.length) : l.drop k = l.getD k 0 :: l.drop (k + 1) := by
  rw [List.drop_eq_getElem_cons h]; simp [List.getD, h]
theorem Kid.ahead {l : List Int} {k j i : Nat} (h : Kid l k j i) : k < i := by
  obtain ⟨hk, hj, he, hi⟩ := h
  have h1 := eat_le (l.drop (k + 1)) j
  rw [he] at h1
  simp at h1; omega
theorem Kid.unique' {l : List Int} {k1 k2 j1 j2 i : Nat} (h1 : Kid l k1 j1 i) (h2 : Kid l k2 j2 i) (hlt : k1 < k2) : False := by
  obtain ⟨hk1, hj1, he1, hi⟩ := h1
  have hlt2 := h2.ahead
  obtain ⟨hk2, hj2, he2, _⟩ := h2
  have hs : l.drop k2 <:+ l.drop (k1 + 1) := by
    rw [show k2 = (k1 + 1) + (k2 - (k1 + 1)) by omega, ← List.drop_drop]
    exact List.drop_suffix _ _
  obtain ⟨d, hd, hed⟩ := eat_in _ j1 _ hs (by rw [he1]; simp; omega)
  rw [he1, show d = 1 + (d - 1) by omega, eat_add, drop_cons' hk2, eat_one, show (l.getD k2 0).toNat = j2 + ((l.getD k2 0).toNat - j2) by omega, eat_add, he2] at hed
  have h3 := congrArg List.length hed
  have h4 := eat_le (eat ((l.getD k2 0).toNat - j2) (l.drop i)) (d - 1)
  have h5 := eat_lt (l.drop i) ((l.getD k2 0).toNat - j2) (by intro e; have := congrArg List.length e; simp at this; omega) (by omega)
  omega
theorem Kid.unique {l : List Int} {k1 k2 j1 j2 i : Nat} (h1 : Kid l k1 j1 i) (h2 : Kid l k2 j2 i) : k1 = k2 := by
  rcases Nat.lt_trichotomy k1 k2 with h | h | h
  · exact (h1.unique' h2 h).elim
  · exact h
  · exact (h2.unique' h1 h).elim

/-- the places of a node's kids, from a place on -/
def kidsF (l : List Int) : Nat → Nat → List Int
  | 0, _ => []
  | n + 1, at_ => if at_ < l.length then (at_ : Int) :: kidsF l n (endF l at_) else []
theorem kidsF_mem (l : List Int) : ∀ (n at_ : Nat) (x : Int), x ∈ kidsF l n at_ ↔ ∃ j i : Nat, x = i ∧ j < n ∧ eat j (l.drop at_) = l.drop i ∧ i < l.length
  | 0, at_, x => by simp [kidsF]
  | n + 1, at_, x => by
    unfold kidsF
    by_cases h : at_ < l.length
    · rw [if_pos h, List.mem_cons, kidsF_mem l n]
      constructor
      · rintro (rfl | ⟨j, i, rfl, hj, he, hi⟩)
        · exact ⟨0, at_, rfl, by omega, eat_zero _, h⟩
        · exact ⟨1 + j, i, rfl, by omega, by rw [eat_add, ← endF_drop]; exact he, hi⟩
      · rintro ⟨j, i, rfl, hj, he, hi⟩
        cases j with
        | zero =>
          left
          rw [eat_zero] at he
          rw [drop_inj (by omega) (by omega) he]
        | succ j =>
          right
          refine ⟨j, i, rfl, by omega, ?_, hi⟩
          rw [show j + 1 = 1 + j by omega, eat_add, ← endF_drop] at he
          exact he
    · rw [if_neg h]
      simp only [List.not_mem_nil, false_iff]
      rintro ⟨j, i, rfl, hj, he, hi⟩
      rw [List.drop_of_length_le (by omega), eat_nil] at he
      have := congrArg List.length he
      simp at this; omega
theorem kidsF_get (l : List Int) : ∀ (n at_ j : Nat), (kidsF l n at_)[j]? = if j < n ∧ eat j (l.drop at_) ≠ [] then some ((l.length - (eat j (l.drop at_)).length : Nat) : Int) else none
  | 0, at_, j => by simp [kidsF]
  | n + 1, at_, j => by
    unfold kidsF
    by_cases h : at_ < l.length
    · rw [if_pos h]
      cases j with
      | zero =>
        rw [eat_zero, if_pos ⟨by omega, by intro e; have := congrArg List.length e; simp at this; omega⟩]
        simp; omega
      | succ j =>
        rw [List.getElem?_cons_succ, kidsF_get l n, endF_drop, ← eat_add, Nat.add_comm 1 j]
        by_cases hc : j < n ∧ eat (j + 1) (l.drop at_) ≠ []
        · rw [if_pos hc, if_pos ⟨by omega, hc.2⟩]
        · rw [if_neg hc, if_neg (fun h => hc ⟨by omega, h.2⟩)]
    · rw [if_neg h, List.drop_of_length_le (by omega), eat_nil]
      simp
def kidsOf (l : List Int) (k : Nat) : List Int := if k < l.length then kidsF l (l.getD k 0).toNat (k + 1) else []
theorem kidsOf_mem (l : List Int) (k : Nat) (x : Int) : x ∈ kidsOf l k ↔ ∃ j i : Nat, x = i ∧ Kid l k j i := by
  unfold kidsOf
  split
  · rename_i h
    rw [kidsF_mem]
    constructor
    · rintro ⟨j, i, rfl, h1, h2, h3⟩; exact ⟨j, i, rfl, h, h1, h2, h3⟩
    · rintro ⟨j, i, rfl, _, h1, h2, h3⟩; exact ⟨j, i, rfl, h1, h2, h3⟩
  · rename_i h
    simp only [List.not_mem_nil, false_iff]
    rintro ⟨j, i, rfl, h1, _⟩; exact h h1

/-- the pieces end just at the end, and each node has its kids -/
def exact : Nat → List Int → Prop
  | 0, l => l = []
  | _ + 1, [] => False
  | n + 1, k :: l => 0 ≤ k ∧ exact (n + k.toNat) l
  termination_by _ l => l.length
theorem exact_zero (l : List Int) : exact 0 l = (l = []) := by rw [exact]
theorem exact_nil (n : Nat) : exact (n + 1) [] = False := by rw [exact]
theorem exact_cons (n : Nat) (k : Int) (l : List Int) : exact (n + 1) (k :: l) = (0 ≤ k ∧ exact (n + k.toNat) l) := by rw [exact]
theorem exact_eat : ∀ (l : List Int) (a b : Nat), exact (a + b) l → exact b (eat a l)
  | l, 0, b, h => by rwa [eat_zero, ← Nat.zero_add b]
  | [], a + 1, b, h => by rw [show a + 1 + b = (a + b) + 1 by omega, exact_nil] at h; exact h.elim
  | k :: l, a + 1, b, h => by
    rw [show a + 1 + b = (a + b) + 1 by omega, exact_cons, show a + b + k.toNat = (a + k.toNat) + b by omega] at h
    rw [eat_cons]
    exact exact_eat l _ _ h.2
theorem exact_all : ∀ (l : List Int) (n : Nat), exact n l → eat n l = []
  | l, 0, h => by rw [exact_zero] at h; rw [eat_zero, h]
  | [], n + 1, h => eat_nil _
  | k :: l, n + 1, h => by rw [exact_cons] at h; rw [eat_cons]; exact exact_all l _ h.2
/-- within such a list each place has so many pieces behind it -/
theorem exact_at : ∀ (l : List Int) (n i : Nat), exact n l → i < l.length → ∃ t, exact (t + 1) (l.drop i)
  | l, 0, i, h, hi => by rw [exact_zero] at h; subst h; simp at hi
  | [], n + 1, i, h, hi => by simp at hi
  | k :: l, n + 1, 0, h, hi => ⟨n, h⟩
  | k :: l, n + 1, i + 1, h, hi => by
    rw [exact_cons] at h
    obtain ⟨t, ht⟩ := exact_at l _ i h.2 (by simpa using hi)
    exact ⟨t, by simpa using ht⟩
def sumI (l : List Int) : Int := l.foldr (· + ·) 0
theorem exact_sum : ∀ (l : List Int) (n : Nat), exact n l → (n : Int) + sumI l = l.length
  | l, 0, h => by rw [exact_zero] at h; subst h; rfl
  | [], n + 1, h => by rw [exact_nil] at h; exact h.elim
  | k :: l, n + 1, h => by
    rw [exact_cons] at h
    have := exact_sum l _ h.2
    simp only [sumI, List.foldr_cons, List.length_cons] at this ⊢
    omega
theorem exact_le : ∀ (l : List Int) (n : Nat), exact n l → n ≤ l.length
  | l, 0, h => by omega
  | [], n + 1, h => by rw [exact_nil] at h; exact h.elim
  | k :: l, n + 1, h => by
    rw [exact_cons] at h
    have := exact_le l _ h.2
    simp; omega
theorem exact_kid {l : List Int} {n i j : Nat} (h : exact n l) (hi : i < l.length) (hj : j < (l.getD i 0).toNat) : ∃ a, Kid l i j a := by
  obtain ⟨t, ht⟩ := exact_at l n i h hi
  rw [drop_cons' hi, exact_cons, show t + (l.getD i 0).toNat = j + (t + ((l.getD i 0).toNat - j)) by omega] at ht
  have h2 := exact_eat _ _ _ ht.2
  have hs := (eat_suf (l.drop (i + 1)) j).trans (List.drop_suffix _ l)
  have h3 := exact_le _ _ h2
  exact ⟨l.length - (eat j (l.drop (i + 1))).length, hi, hj, suf_drop hs, by have := hs.length_le; omega⟩
theorem exact_up {l : List Int} {i : Nat} (h : exact 1 l) (hi : i < l.length) (h0 : 0 < i) : ∃ k j, Kid l k j i := by
  rcases eat_up l 1 (l.drop i) (List.drop_suffix _ _) (by rw [exact_all l 1 h]; simp; omega) with ⟨j, hj, he⟩ | ⟨k, r, j, hs, hl, hj, he⟩
  · have : j = 0 := by omega
    subst this
    rw [eat_zero] at he
    have := congrArg List.length he
    simp at this; omega
  · have h1 := suf_drop hs
    have h2 := hs.length_le
    simp at h2
    have hk : l.length - (k :: r).length < l.length := by simp; omega
    rw [drop_cons' hk] at h1
    simp only [List.cons.injEq] at h1
    exact ⟨_, j, hk, by rw [← h1.1]; exact hj, by rw [← h1.2]; exact he.symm, hi⟩
theorem exact_bound : ∀ (l : List Int) (n : Nat), exact n l → ∀ k ∈ l, 0 ≤ k ∧ k < l.length
  | l, 0, h, k, hk => by rw [exact_zero] at h; subst h; cases hk
  | [], n + 1, h, k, hk => by cases hk
  | c :: l, n + 1, h, k, hk => by
    rw [exact_cons] at h
    have := exact_le l _ h.2
    rcases List.mem_cons.1 hk with rfl | hk
    · simp; omega
    · have := exact_bound l _ h.2 k hk
      simp; omega
end Go.Tr
