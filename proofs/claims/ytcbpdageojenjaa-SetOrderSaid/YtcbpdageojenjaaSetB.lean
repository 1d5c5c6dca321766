/- Sets of texts: contracts, and the law SetOrder. -/
import Derived.Test.YtcbpdageojenjaaSetA
import Derived.Test.YtcbpdageojenjaaSetJ
namespace Go.Proofs.Ytcbpdageojenjaa
open Go.Vc Go.Lv Go.Ty Go.St Go.Proofs Go.Sort

abbrev ltS : List UInt8 → List UInt8 → Prop := fun a b => Op.bytesLess a b = true
theorem less_lt : ∀ (x y : List UInt8), Op.bytesLess x y = decide (x < y)
  | [], [] => by simp [Op.bytesLess]
  | _ :: _, [] => by simp [Op.bytesLess]
  | [], _ :: _ => by simp [Op.bytesLess]
  | a :: x, b :: y => by
    rw [Op.bytesLess, less_lt x y]
    simp only [List.cons_lt_cons_iff]
    by_cases h1 : a < b <;> by_cases h2 : a = b <;> by_cases h3 : x < y <;> simp [h1, h2, h3]
theorem less_ir : ∀ (a : List UInt8), Op.bytesLess a a = false
  | [] => rfl
  | a :: x => by
    have h : ¬ a < a := UInt8.lt_irrefl a
    simp [Op.bytesLess, less_ir x, h]
theorem less_to : ∀ (a b : List UInt8), Op.bytesLess a b = true ∨ a = b ∨ Op.bytesLess b a = true
  | [], [] => .inr (.inl rfl)
  | [], _ :: _ => .inl rfl
  | _ :: _, [] => .inr (.inr rfl)
  | a :: x, b :: y => by
    simp only [Op.bytesLess, Bool.or_eq_true, Bool.and_eq_true, decide_eq_true_eq, beq_iff_eq, List.cons.injEq]
    rcases Nat.lt_trichotomy a.toNat b.toNat with h | h | h
    · exact .inl (.inl (UInt8.lt_iff_toNat_lt.2 h))
    · have e : a = b := UInt8.toNat_inj.1 h
      rcases less_to x y with h' | h' | h'
      · exact .inl (.inr ⟨e, h'⟩)
      · exact .inr (.inl ⟨e, h'⟩)
      · exact .inr (.inr (.inr ⟨e.symm, h'⟩))
    · exact .inr (.inr (.inl (UInt8.lt_iff_toNat_lt.2 h)))
theorem less_tr : ∀ (a b c : List UInt8), Op.bytesLess a b = true → Op.bytesLess b c = true → Op.bytesLess a c = true
  | _, _, [], _, h => by simp [Op.bytesLess] at h
  | _, [], _ :: _, h, _ => by simp [Op.bytesLess] at h
  | [], _ :: _, _ :: _, _, _ => rfl
  | a :: x, b :: y, c :: z, h1, h2 => by
    simp only [Op.bytesLess, Bool.or_eq_true, Bool.and_eq_true, decide_eq_true_eq, beq_iff_eq] at h1 h2 ⊢
    rcases h1 with h1 | ⟨rfl, h1⟩
    · rcases h2 with h2 | ⟨rfl, h2⟩
      · exact .inl (UInt8.lt_trans h1 h2)
      · exact .inl h1
    · rcases h2 with h2 | ⟨rfl, h2⟩
      · exact .inl h2
      · exact .inr ⟨rfl, less_tr x y z h1 h2⟩
theorem ordS : Ord ltS := ⟨fun a h => (by rw [ltS, less_ir] at h; cases h), fun a b c => less_tr a b c, less_to⟩
theorem clone_s (l : List (List UInt8)) (hl : l.length < 1000000) (K : List (List UInt8) → Prop) (h : K l) : V_slices_Clone_Slstring_string l K := by
  refine slices_Clone_Slstring_string_lift _ _ fun z hz => cond_intro (fun hc => ?_) fun _ => ⟨by omega, h⟩
  rw [hz hc] at h; exact h
theorem len_s (s : List (List UInt8)) (K : Int → Prop) (h : K s.length) : V_sorted_Set_string_Len ⟨s⟩ K := sorted_Set_string_Len_lift _ _ h
theorem nanS (x : List UInt8) (K : Bool → Prop) (h : K false) : V_cmp_isNaN_string x K := by
  refine cmp_isNaN_string_lift _ _ ?_
  unfold cmp_isNaN_string_vwp
  rw [beq_self_eq_true]; exact h
theorem lessS (x y : List UInt8) (K : Bool → Prop) (h : K (Op.bytesLess x y)) : V_cmp_Less_string x y K :=
  cmp_Less_string_lift _ _ _ (nanS _ _ h)
theorem from_s (s : List (List UInt8)) (hs : Asc ltS s) (hl : s.length < 1000000) (x : List UInt8) (K : Int → Prop) (h : K (fromF ltS s x)) : V_sorted_Set_string_From ⟨s⟩ x K := by
  have hf := fromF_le (lt := ltS) s x
  refine sorted_Set_string_From_lift _ _ _ (len_s s _ ⟨fun lo hi n => ∃ a b : Nat, lo = a ∧ hi = b ∧ a ≤ fromF ltS s x ∧ fromF ltS s x ≤ b ∧ b ≤ s.length ∧ n = b - a, ⟨_, 0, s.length, rfl, rfl, by omega, hf, Nat.le_refl _, rfl⟩, ?_⟩)
  rintro _ _ _ ⟨a, b, rfl, rfl, ha, hb, hbl, rfl⟩
  refine cond_intro (fun hc => ?_) fun hc => ?_
  · have hab : a < b := by simpa using hc
    have hmid : IntKind.i64.wrap ((IntKind.i64.wrap ((a : Int) + (b : Int))).tdiv 2) = (((a + b) / 2 : Nat) : Int) := by
      rw [wrap_in (n := (a : Int) + b) (by omega) (by omega), Int.tdiv_eq_ediv_of_nonneg (by omega), wrap_in (by omega) (by omega)]
      omega
    rw [hmid]
    refine ⟨by decide, by show (0 : Int) ≤ _ ∧ _ < (s.length : Int); omega, fun y hy => ?_⟩
    rw [Int.toNat_natCast] at hy
    obtain ⟨hm, rfl⟩ := List.getElem?_eq_some_iff.1 hy
    have hbel := below_at ordS hs x _ hm
    refine lessS _ _ _ (cond_intro (fun hd => ?_) fun hd => ?_)
    · have hd' : (a + b) / 2 < fromF ltS s x := hbel.1 hd
      exact ⟨b - ((a + b) / 2 + 1), by omega, (a + b) / 2 + 1, b, by rw [wrap_in (by omega) (by omega)]; omega, rfl, by omega, hb, hbl, rfl⟩
    · have hd' : ¬ (a + b) / 2 < fromF ltS s x := fun h' => by
        have := hbel.2 h'
        rw [ltS] at this
        have hd2 : Op.bytesLess s[(a + b) / 2] x = false := hd
        rw [hd2] at this; cases this
      exact ⟨(a + b) / 2 - a, by omega, a, (a + b) / 2, rfl, rfl, ha, by omega, by omega, rfl⟩
  · have : a = fromF ltS s x := by simp at hc; omega
    rw [this]; exact h
theorem at_s (s : List (List UInt8)) (i : Int) (K : List UInt8 → Bool → Prop) (h1 : ∀ x, 0 ≤ i → s[i.toNat]? = some x → K x true) (h2 : (i < 0 ∨ (s.length : Int) ≤ i) → K [] false) : V_sorted_Set_string_At ⟨s⟩ i K := by
  refine sorted_Set_string_At_lift _ _ _ ⟨fun b => b = true ↔ (i < 0 ∨ (s.length : Int) ≤ i), cond_intro (fun hc => ?_) (fun hc => len_s s _ ?_), ?_⟩
  · simp at hc; simp [hc]
  · simp at hc
    show (decide _ = true) ↔ _
    simp; omega
  · intro b hb
    refine cond_intro (fun hc => h2 (hb.1 hc)) fun hc => ?_
    have hn : ¬ (i < 0 ∨ (s.length : Int) ≤ i) := fun h' => by rw [hb.2 h'] at hc; cases hc
    exact ⟨by show (0 : Int) ≤ i ∧ i < (s.length : Int); omega, fun x hx => h1 x (by omega) hx⟩
theorem has_s (s : List (List UInt8)) (hs : Asc ltS s) (hl : s.length < 1000000) (x : List UInt8) (K : Bool → Prop) (h : K (decide (x ∈ s))) : V_sorted_Set_string_Has ⟨s⟩ x K := by
  have hat := at_from ordS hs x
  refine sorted_Set_string_Has_lift _ _ _ (from_s s hs hl x _ (at_s s _ _ (fun y _ hy => ?_) fun hno => ?_))
  · rw [Int.toNat_natCast] at hy
    by_cases hx : x ∈ s
    · have := hat.1 hx
      have hxy : y = x := by
        have e : some y = some x := hy.symm.trans this
        exact Option.some.inj e
      rw [decide_eq_true hx] at h
      show K (true && (y == x))
      rw [hxy, beq_self_eq_true]; exact h
    · have hxy : y ≠ x := fun e => hx (hat.2 (by rw [hy, e]))
      rw [decide_eq_false hx] at h
      show K (true && (y == x))
      rw [show (y == x) = false by simpa using hxy]; exact h
  · have hx : x ∉ s := fun hx => by
      have := (List.getElem?_eq_some_iff.1 (hat.1 hx)).1
      rcases hno with h' | h'
      · omega
      · have : fromF ltS s x < s.length := this
        omega
    rw [decide_eq_false hx] at h
    simpa using h
theorem add_s (s : List (List UInt8)) (hs : Asc ltS s) (hl : s.length < 900000) (x : List UInt8) (K : Bool → Gsorted_Set_string → Prop) (h : K (!decide (x ∈ s)) ⟨addF ltS s x⟩) : V_sorted_Set_string_Add ⟨s⟩ x K := by
  have hf := fromF_le (lt := ltS) s x
  refine sorted_Set_string_Add_lift _ _ _ ⟨fun b => b = decide (x ∈ s), has_s s hs (by omega) x _ rfl, ?_⟩
  rintro _ rfl
  refine cond_intro (fun hc => ?_) fun hc => ?_
  · have hx : x ∈ s := by simpa using hc
    have e : addF ltS s x = s := by unfold addF; rw [if_pos hx]
    rw [hc, e] at h; exact h
  · have hx : x ∉ s := by simpa using hc
    refine from_s s hs (by omega) x _ (insert_string s _ x hf (by omega) _ ?_)
    rw [hc, add_at ordS hs hx] at h; exact h
theorem of_s (l : List (List UInt8)) (hl : l.length < 900000) (K : Gsorted_Set_string → Prop) (h : K ⟨ofF ltS l⟩) : V_sorted_Of_string l K := by
  refine sorted_Of_string_lift _ _ (clone_s l (by omega) _ (sort_string l (by omega) _ (compact_string _ (by rw [List.length_mergeSort]; omega) _ ?_)))
  have hle : ∀ x y : List UInt8, decide (x ≤ y) = !Op.bytesLess y x := fun x y => by
    rw [less_lt, Bool.eq_iff_iff]
    simp
  have e : Lib.compact (l.mergeSort fun x y => decide (x ≤ y)) = ofF ltS l := by
    refine compact_of ordS l _ ?_ fun x => List.mem_mergeSort
    have := List.pairwise_mergeSort (le := fun x y : List UInt8 => decide (x ≤ y)) (fun a b c h1 h2 => ?_) (fun a b => ?_) l
    · refine this.imp fun h' => ?_
      rw [hle] at h'
      intro h2
      have h2' : Op.bytesLess _ _ = true := h2
      rw [h2'] at h'; cases h'
    · rw [hle] at h1 h2 ⊢
      cases hca : Op.bytesLess c a with
      | false => rfl
      | true =>
        rcases less_to a b with hab | rfl | hba
        · rw [less_tr c a b hca hab] at h2; cases h2
        · rw [hca] at h2; cases h2
        · rw [hba] at h1; cases h1
    · rw [hle, hle]
      cases hba : Op.bytesLess b a with
      | false => rfl
      | true =>
        cases hab : Op.bytesLess a b with
        | false => rfl
        | true => have := less_tr a b a hab hba; rw [less_ir] at this; cases this
  rw [e]; exact h
theorem SetOrder_v (l : List (List UInt8)) (K : Bool → Prop) (h : K true) : V_L06_SetOrder l K := by
  refine L06_SetOrder_lift _ _ (cond_intro (fun _ => live6_v _ h) fun hc => ?_)
  have hl : l.length ≤ 60 := by simp at hc; omega
  have hsl : (ofF ltS l).length ≤ l.length := by
    have := fold_len ordS l (s := []) List.Pairwise.nil
    rw [List.length_nil] at this
    unfold ofF; omega
  have hs := ofF_asc ordS l
  refine of_s l (by omega) _ (of_s [] (by decide) _ ⟨fun i l1 n => ∃ k : Nat, i = (k : Int) - 1 ∧ k ≤ l.length ∧ k = n ∧ l1 = ofF ltS (l.drop k).reverse, ⟨_, l.length, by rw [wrap_in (by omega) (by omega)], by omega, rfl, by simp [ofF]⟩, ?_⟩)
  rintro _ _ _ ⟨k, rfl, hk, rfl, rfl⟩
  have hbs := ofF_asc ordS (l.drop k).reverse
  have hbl : (ofF ltS (l.drop k).reverse).length ≤ l.length := by
    have := fold_len ordS (l.drop k).reverse (s := []) List.Pairwise.nil
    rw [List.length_nil, List.length_reverse, List.length_drop] at this
    unfold ofF; omega
  refine cond_intro (fun hd => ⟨by simp at hd; omega, fun x hx => ?_⟩) fun hd => ?_
  · have hk0 : 0 < k := by simp at hd; omega
    rw [show ((k : Int) - 1).toNat = k - 1 by omega] at hx
    obtain ⟨hlt, rfl⟩ := List.getElem?_eq_some_iff.1 hx
    refine add_s _ hbs (by omega) _ _ ⟨k - 1, by omega, k - 1, by rw [wrap_in (by omega) (by omega)]; omega, by omega, rfl, ?_⟩
    have e : l.drop (k - 1) = l[k - 1] :: l.drop k := by
      rw [List.drop_eq_getElem_cons hlt, show k - 1 + 1 = k by omega]
    show addF ltS (ofF ltS (l.drop k).reverse) l[k - 1] = ofF ltS (l.drop (k - 1)).reverse
    rw [e, List.reverse_cons]
    unfold ofF
    rw [List.foldl_append]; rfl
  · have hk0 : k = 0 := by simp at hd; omega
    subst hk0
    have hsame : ofF ltS (l.drop 0).reverse = ofF ltS l := asc_ext ordS hbs hs fun x => by rw [ofF_mem ordS, ofF_mem ordS]; simp
    rw [hsame]
    generalize hS : ofF ltS l = s at hs hsl
    have hmem : ∀ x ∈ l, x ∈ s := fun x hx => by rw [← hS, ofF_mem ordS]; exact hx
    refine ⟨fun last i n => ∃ k : Nat, i = k ∧ k ≤ s.length ∧ n = s.length - k ∧ (0 < k → s[k - 1]? = some last), ⟨_, 0, rfl, by omega, rfl, by omega⟩, ?_⟩
    rintro last _ _ ⟨k, rfl, hk, rfl, hlast⟩
    refine len_s s _ (cond_intro (fun he => ?_) fun he => ?_)
    · have hks : k < s.length := by simp at he; omega
      refine at_s s k _ (fun x _ hx => at_s s k _ (fun y _ hy => ?_) fun hno => by omega) fun hno => by omega
      rw [hx] at hy
      cases hy
      rw [Int.toNat_natCast] at hx
      obtain ⟨hkl, rfl⟩ := List.getElem?_eq_some_iff.1 hx
      have hlt : 0 < k → Op.bytesLess last s[k] = true := fun h0 => by
        obtain ⟨h1, h2⟩ := List.getElem?_eq_some_iff.1 (hlast h0)
        rw [← h2]
        exact List.pairwise_iff_getElem.1 hs _ _ h1 hkl (by omega)
      refine cond_f ?_ ⟨s.length - (k + 1), by omega, k + 1, by rw [wrap_in (by omega) (by omega)]; omega, by omega, rfl, fun _ => by simp⟩
      by_cases h0 : 0 < k
      · have h1 := hlt h0
        have h2 : Op.bytesLess s[k] last = false := by
          cases hh : Op.bytesLess s[k] last with
          | false => rfl
          | true => have := less_tr _ _ _ h1 hh; rw [less_ir] at this; cases this
        have h3 : (s[k] == last) = false := by
          cases hh : (s[k] == last) with
          | false => rfl
          | true => rw [eq_of_beq hh, less_ir] at h1; cases h1
        simp [h2, h3]
      · simp [show k = 0 by omega]
    · refine ⟨fun i n => ∃ k : Nat, i = k ∧ k ≤ l.length ∧ n = l.length - k, ⟨_, 0, rfl, by omega, rfl⟩, ?_⟩
      rintro _ _ ⟨j, rfl, hj, rfl⟩
      refine cond_intro (fun hf => ?_) fun hf => len_s s _ (len_s s _ (cond_t (by simp) (len_s s _ (cond_t (by simp; omega) (live6_v _ h)))))
      have hjl : j < l.length := by simp at hf; omega
      refine ⟨fun b => b = false, ⟨by omega, fun x hx => has_s s hs (by omega) x _ ?_⟩, ?_⟩
      · rw [Int.toNat_natCast] at hx
        rw [decide_eq_true (hmem x (List.mem_of_getElem? hx))]
        refine cond_f rfl ⟨by omega, fun y hy => has_s s hs (by omega) y _ ?_⟩
        rw [Int.toNat_natCast] at hy
        rw [decide_eq_true (hmem y (List.mem_of_getElem? hy))]; rfl
      · rintro _ rfl
        exact cond_f rfl ⟨l.length - (j + 1), by omega, j + 1, by rw [wrap_in (by omega) (by omega)]; omega, by omega, rfl⟩
theorem SetOrder_spec (l : List (List UInt8)) (A : Option Addr) (AC : Nat) (w : World) (ha : l.length ≤ AC) (h1 : SlR cStr [] w A l) :
    Calls Try.prog 13 #[.slice A l.length AC] w (Ret fun v w' => v = .bool true ∧ Ext w w') := by
  refine call_then (SetOrder_v l (· = true) rfl [] w nofun A AC ha h1) ?_
  rintro _ _ ⟨_, rfl, rfl, k⟩
  exact ⟨rfl, k.ext⟩
end Go.Proofs.Ytcbpdageojenjaa
