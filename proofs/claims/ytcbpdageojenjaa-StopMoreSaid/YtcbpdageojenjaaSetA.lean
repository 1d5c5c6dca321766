/- Sets of numbers: contracts, and the law SetPlays. -/
import Derived.Test.YtcbpdageojenjaaSetI
import Derived.Test.YtcbpdageojenjaaSetP
namespace Go.Proofs.Ytcbpdageojenjaa
open Go.Vc Go.Lv Go.Ty Go.St Go.Proofs Go.Sort

abbrev ltI : Int → Int → Prop := fun a b => a < b
theorem ordI : Ord ltI := ⟨fun a => by show ¬ (a < a); omega, fun a b c h1 h2 => by have h1 : a < b := h1; have h2 : b < c := h2; show a < c; omega, fun a b => by show a < b ∨ a = b ∨ b < a; omega⟩
theorem take_sn {α : Type} {l : List α} {k : Nat} {x : α} (h : l[k]? = some x) : l.take (k + 1) = l.take k ++ [x] := by
  rw [List.take_add_one, h]; rfl
theorem delete_int (l : List Int) (a : Nat) (ha : a < l.length) (hl : l.length < 1000000) (K : List Int → Prop) (h : K (l.take a ++ l.drop (a + 1))) : V_slices_Delete_Slint_int l a ((a : Int) + 1) K := by
  intro m w hm A C xs hin hrw hel
  have hxs := el_int hel
  subst hxs
  cases A with
  | none =>
    rcases hrw.2 with ⟨_, hn⟩ | ⟨g, cap, cur, hv, _⟩
    · omega
    · cases hv
  | some p =>
    obtain ⟨g, rfl⟩ : ∃ g, p = ⟨g, 0, none⟩ := by
      rcases hrw.2 with ⟨hv, _⟩ | ⟨g, cap, cur, hv, _⟩
      · cases hv
      · cases hv; exact ⟨g, rfl⟩
    obtain ⟨hH, hlt, _, hc, hcm⟩ := rw_holds hrw
    have hcon := Any.slices_Delete_int Try.laysNm223 g 0 C a (a + 1) l w hH hc (by unfold maxLen at hcm; omega) (by omega) (by omega)
    change Calls Try.prog 97 _ _ _ at hcon
    refine hcon.mono ?_
    rintro e w' ⟨rfl, q, rfl⟩
    rw [put_sort]
    have hrl : (l.take a ++ l.drop (a + 1)).length = l.length - (a + 1 - a) := by simp; omega
    have hr := rw_put (enc := Value.int .i64) (q := q) (k := (l.take a ++ l.drop (a + 1)).length) (d := (l.take a ++ l.drop (a + 1) ++ List.replicate (a + 1 - a) 0).toArray) (os := #[]) hrw (by simp; omega) (by omega)
    have ht : (((l.take a ++ l.drop (a + 1) ++ List.replicate (a + 1 - a) 0).toArray.toList.map (Value.int .i64)).take (l.take a ++ l.drop (a + 1)).length) = (l.take a ++ l.drop (a + 1)).map (Value.int .i64) := by
      rw [List.toList_toArray, List.map_append]
      exact List.take_left' (by simp)
    rw [ht] at hr
    exact ⟨_, h, ⟨some ⟨g, 0, none⟩, C, _, by rw [hrl], hr, mk_int _ _ _, fun b hb => .inl hb⟩, sw_keep⟩
theorem clone_int (l : List Int) (hl : l.length < 1000000) (K : List Int → Prop) (h : K l) : V_slices_Clone_Slint_int l K := by
  refine slices_Clone_Slint_int_lift _ _ fun z hz => cond_intro (fun hc => ?_) fun _ => ⟨by omega, h⟩
  rw [hz hc] at h; exact h
theorem len_v (s : List Int) (K : Int → Prop) (h : K s.length) : V_sorted_Set_int_Len ⟨s⟩ K := sorted_Set_int_Len_lift _ _ h
theorem nanI (x : Int) (K : Bool → Prop) (h : K false) : V_cmp_isNaN_int x K := by
  refine cmp_isNaN_int_lift _ _ ?_
  unfold cmp_isNaN_int_vwp
  rw [show (x != x) = false by simp]; exact h
theorem lessI (x y : Int) (K : Bool → Prop) (h : K (decide (x < y))) : V_cmp_Less_int x y K := by
  refine cmp_Less_int_lift _ _ _ (nanI _ _ ?_)
  exact h
theorem from_v (s : List Int) (hs : Asc ltI s) (hl : s.length < 1000000) (x : Int) (K : Int → Prop) (h : K (fromF ltI s x)) : V_sorted_Set_int_From ⟨s⟩ x K := by
  have hf := fromF_le (lt := ltI) s x
  refine sorted_Set_int_From_lift _ _ _ (len_v s _ ⟨fun lo hi n => ∃ a b : Nat, lo = a ∧ hi = b ∧ a ≤ fromF ltI s x ∧ fromF ltI s x ≤ b ∧ b ≤ s.length ∧ n = b - a, ⟨_, 0, s.length, rfl, rfl, by omega, hf, Nat.le_refl _, rfl⟩, ?_⟩)
  rintro _ _ _ ⟨a, b, rfl, rfl, ha, hb, hbl, rfl⟩
  refine cond_intro (fun hc => ?_) fun hc => ?_
  · have hab : a < b := by simpa using hc
    have hmid : IntKind.i64.wrap ((IntKind.i64.wrap ((a : Int) + (b : Int))).tdiv 2) = (((a + b) / 2 : Nat) : Int) := by
      rw [wrap_in (n := (a : Int) + b) (by omega) (by omega), Int.tdiv_eq_ediv_of_nonneg (by omega), wrap_in (by omega) (by omega)]
      omega
    rw [hmid]
    refine ⟨by decide, by show (0 : Int) ≤ _ ∧ _ < (s.length : Int); omega, fun y hy => ?_⟩
    rw [Int.toNat_natCast] at hy
    obtain ⟨hm, rfl⟩ := List.getElem?_eq_some_iff.1 hy
    have hbel := below_at ordI hs x _ hm
    refine lessI _ _ _ (cond_intro (fun hd => ?_) fun hd => ?_)
    · have hd' : (a + b) / 2 < fromF ltI s x := hbel.1 (by simpa using hd)
      exact ⟨b - ((a + b) / 2 + 1), by omega, (a + b) / 2 + 1, b, by rw [wrap_in (by omega) (by omega)]; omega, rfl, by omega, hb, hbl, rfl⟩
    · have hd' : ¬ (a + b) / 2 < fromF ltI s x := fun h' => by
        have := hbel.2 h'
        simp at hd
        have hd2 : x ≤ s[(a + b) / 2] := hd
        exact absurd this (by show ¬ (_ < _); omega)
      exact ⟨(a + b) / 2 - a, by omega, a, (a + b) / 2, rfl, rfl, ha, by omega, by omega, rfl⟩
  · have : a = fromF ltI s x := by simp at hc; omega
    rw [this]; exact h
theorem at_v (s : List Int) (i : Int) (K : Int → Bool → Prop) (h1 : ∀ x, 0 ≤ i → s[i.toNat]? = some x → K x true) (h2 : (i < 0 ∨ (s.length : Int) ≤ i) → K 0 false) : V_sorted_Set_int_At ⟨s⟩ i K := by
  refine sorted_Set_int_At_lift _ _ _ ⟨fun b => b = true ↔ (i < 0 ∨ (s.length : Int) ≤ i), cond_intro (fun hc => ?_) (fun hc => len_v s _ ?_), ?_⟩
  · simp at hc; simp [hc]
  · simp at hc
    show (decide _ = true) ↔ _
    simp; omega
  · intro b hb
    refine cond_intro (fun hc => h2 (hb.1 hc)) fun hc => ?_
    have hn : ¬ (i < 0 ∨ (s.length : Int) ≤ i) := fun h' => by rw [hb.2 h'] at hc; cases hc
    exact ⟨by show (0 : Int) ≤ i ∧ i < (s.length : Int); omega, fun x hx => h1 x (by omega) hx⟩
theorem has_v (s : List Int) (hs : Asc ltI s) (hl : s.length < 1000000) (x : Int) (K : Bool → Prop) (h : K (decide (x ∈ s))) : V_sorted_Set_int_Has ⟨s⟩ x K := by
  have hat := at_from ordI hs x
  refine sorted_Set_int_Has_lift _ _ _ (from_v s hs hl x _ (at_v s _ _ (fun y _ hy => ?_) fun hno => ?_))
  · rw [Int.toNat_natCast] at hy
    by_cases hx : x ∈ s
    · have := hat.1 hx
      have hxy : y = x := by
        have e : some y = some x := hy.symm.trans this
        exact Option.some.inj e
      rw [decide_eq_true hx] at h
      show K (true && (y == x))
      rw [hxy, beq_self_eq_true]; exact h
    · have hxy : y ≠ x := fun e => hx (hat.2 (by rw [hy, e]))
      rw [decide_eq_false hx] at h
      show K (true && (y == x))
      rw [show (y == x) = false by simpa using hxy]; exact h
  · have hx : x ∉ s := fun hx => by
      have := (List.getElem?_eq_some_iff.1 (hat.1 hx)).1
      rcases hno with h' | h'
      · omega
      · have : fromF ltI s x < s.length := this
        omega
    rw [decide_eq_false hx] at h
    simpa using h
theorem add_v (s : List Int) (hs : Asc ltI s) (hl : s.length < 900000) (x : Int) (K : Bool → Gsorted_Set_int → Prop) (h : K (!decide (x ∈ s)) ⟨addF ltI s x⟩) : V_sorted_Set_int_Add ⟨s⟩ x K := by
  have hf := fromF_le (lt := ltI) s x
  refine sorted_Set_int_Add_lift _ _ _ ⟨fun b => b = decide (x ∈ s), has_v s hs (by omega) x _ rfl, ?_⟩
  rintro _ rfl
  refine cond_intro (fun hc => ?_) fun hc => ?_
  · have hx : x ∈ s := by simpa using hc
    have e : addF ltI s x = s := by unfold addF; rw [if_pos hx]
    rw [hc, e] at h; exact h
  · have hx : x ∉ s := by simpa using hc
    refine from_v s hs (by omega) x _ (insert_int s _ x hf (by omega) _ ?_)
    rw [hc, add_at ordI hs hx] at h; exact h
theorem del_v (s : List Int) (hs : Asc ltI s) (hl : s.length < 900000) (x : Int) (K : Bool → Gsorted_Set_int → Prop) (h : K (decide (x ∈ s)) ⟨delF s x⟩) : V_sorted_Set_int_Del ⟨s⟩ x K := by
  refine sorted_Set_int_Del_lift _ _ _ (has_v s hs (by omega) x _ (cond_intro (fun hc => ?_) fun hc => ?_))
  · have hx : x ∉ s := by simpa using hc
    have e : delF s x = s := by
      unfold delF
      rw [List.filter_eq_self]
      intro y hy
      simp only [decide_eq_true_eq]
      exact fun e => hx (e ▸ hy)
    rw [decide_eq_false hx, e] at h; exact h
  · have hx : x ∈ s := by simpa using hc
    have hk := (List.getElem?_eq_some_iff.1 ((at_from ordI hs x).1 hx)).1
    have hk' : fromF ltI s x < s.length := hk
    refine from_v s hs (by omega) x _ ?_
    rw [wrap_in (by omega) (by omega)]
    refine delete_int s _ hk' (by omega) _ ?_
    rw [decide_eq_true hx, del_at ordI hs hx] at h; exact h
theorem of_v (l : List Int) (hl : l.length < 900000) (K : Gsorted_Set_int → Prop) (h : K ⟨ofF ltI l⟩) : V_sorted_Of_int l K := by
  refine sorted_Of_int_lift _ _ (clone_int l (by omega) _ (sort_int l (by omega) _ (compact_int _ (by rw [List.length_mergeSort]; omega) _ ?_)))
  have e : Lib.compact (l.mergeSort fun x y => decide (x ≤ y)) = ofF ltI l := by
    refine compact_of ordI l _ ?_ fun x => List.mem_mergeSort
    have := List.pairwise_mergeSort (le := fun x y : Int => decide (x ≤ y)) (fun a b c => by simp; omega) (fun a b => by simp; omega) l
    exact this.imp fun h' => by simp at h'; show ¬ (_ < _); omega
  rw [e]; exact h
theorem rhas_v (l : List Int) (hl : l.length < 1000000) (x : Int) (K : Bool → Prop) (h : K (decide (x ∈ l))) : V_R06_Has l x K := by
  refine R06_Has_lift _ _ _ ⟨fun i n => ∃ k : Nat, i = k ∧ k ≤ l.length ∧ n = l.length - k ∧ x ∉ l.take k, ⟨_, 0, rfl, by omega, rfl, by simp⟩, ?_⟩
  rintro _ _ ⟨k, rfl, hk, rfl, hno⟩
  refine cond_intro (fun hc => ⟨by simp at hc; omega, fun y hy => ?_⟩) fun hc => ?_
  · rw [Int.toNat_natCast] at hy
    have hlt := (List.getElem?_eq_some_iff.1 hy).1
    refine cond_intro (fun hq => ?_) fun hq => ?_
    · have e : y = x := by simpa using hq
      subst e
      rw [decide_eq_true (List.mem_of_getElem? hy)] at h; exact h
    · refine ⟨l.length - (k + 1), by omega, k + 1, by rw [wrap_in (by omega) (by omega)]; omega, by omega, rfl, ?_⟩
      rw [List.take_add_one, hy]
      simp only [Option.toList_some, List.mem_append, List.mem_singleton, not_or]
      exact ⟨hno, fun e => by rw [e] at hq; simp at hq⟩
  · rw [List.take_of_length_le (by simp at hc; omega)] at hno
    rw [decide_eq_false hno] at h; exact h
theorem rfrom_v (l : List Int) (hl : l.length < 1000000) (x : Int) (K : Int → Prop) (h : K (fromF ltI l x)) : V_R06_From l x K := by
  refine R06_From_lift _ _ _ ⟨fun c i n => ∃ k : Nat, i = k ∧ k ≤ l.length ∧ n = l.length - k ∧ c = fromF ltI (l.take k) x, ⟨_, 0, rfl, by omega, rfl, by simp [fromF]⟩, ?_⟩
  rintro _ _ _ ⟨k, rfl, hk, rfl, rfl⟩
  refine cond_intro (fun hc => ?_) fun hc => ?_
  · have hlt : k < l.length := by simp at hc; omega
    have hg := List.getElem?_eq_getElem hlt
    have hle := fromF_le (lt := ltI) (l.take k) x
    rw [List.length_take] at hle
    have hsn : fromF ltI (l.take (k + 1)) x = fromF ltI (l.take k) x + (if l[k] < x then 1 else 0) := by
      unfold fromF
      rw [take_sn hg, List.countP_append]
      simp [List.countP_cons]
    refine ⟨fun c => c = fromF ltI (l.take (k + 1)) x, ⟨by omega, fun y hy => ?_⟩, ?_⟩
    · rw [Int.toNat_natCast, hg] at hy
      cases hy
      refine cond_intro (fun hq => ?_) fun hq => ?_
      · rw [wrap_in (by omega) (by omega), hsn, if_pos (by simpa using hq)]; simp
      · rw [hsn, if_neg (by simpa using hq)]; simp
    · rintro _ rfl
      exact ⟨l.length - (k + 1), by omega, k + 1, by rw [wrap_in (by omega) (by omega)]; omega, by omega, rfl, rfl⟩
  · rw [List.take_of_length_le (by simp at hc; omega)]; exact h
theorem radd_v (l : List Int) (hl : l.length < 1000000) (x : Int) (K : List Int → Prop) (h : K (addF ltI l x)) : V_R06_Add l x K := by
  refine R06_Add_lift _ _ _ (rhas_v l hl x _ (cond_intro (fun hc => ?_) fun hc => ?_))
  · have e : addF ltI l x = l := by unfold addF; rw [if_pos (by simpa using hc)]
    rw [e] at h; exact h
  · unfold addF at h
    rw [if_neg (by simpa using hc)] at h
    refine ⟨fun out i n => ∃ k : Nat, i = k ∧ k ≤ l.length ∧ n = l.length - k ∧ out = (l.take k).filter (fun y => decide (y < x)), ⟨_, 0, rfl, by omega, rfl, by simp⟩, ?_⟩
    rintro _ _ _ ⟨k, rfl, hk, rfl, rfl⟩
    have hfl : ((l.take k).filter (fun y => decide (y < x))).length ≤ l.length := by
      have := List.length_filter_le (fun y => decide (y < x)) (l.take k)
      rw [List.length_take] at this; omega
    refine cond_intro (fun hd => ?_) fun hd => ?_
    · have hlt : k < l.length := by simp at hd; omega
      have hg := List.getElem?_eq_getElem hlt
      refine ⟨fun out1 => out1 = (l.take (k + 1)).filter (fun y => decide (y < x)), ⟨by omega, fun y hy => ?_⟩, ?_⟩
      · rw [Int.toNat_natCast, hg] at hy
        cases hy
        refine cond_intro (fun hq => ⟨by omega, fun z hz => ⟨by rw [List.length_singleton]; omega, ?_⟩⟩) fun hq => ?_
        · rw [Int.toNat_natCast, hg] at hz
          cases hz
          rw [take_sn hg, List.filter_append]; simp [show l[k] < x by simpa using hq]
        · rw [take_sn hg, List.filter_append]; simp [show ¬ l[k] < x by simpa using hq]
      · rintro _ rfl
        exact ⟨l.length - (k + 1), by omega, k + 1, by rw [wrap_in (by omega) (by omega)]; omega, by omega, rfl, rfl⟩
    · rw [List.take_of_length_le (by simp at hd; omega)] at hfl ⊢
      refine ⟨by rw [List.length_singleton]; omega, fun out i n => ∃ j : Nat, i = j ∧ j ≤ l.length ∧ n = l.length - j ∧ out = l.filter (fun y => decide (y < x)) ++ [x] ++ (l.take j).filter (fun y => decide (x < y)), ⟨_, 0, rfl, by omega, rfl, by simp⟩, ?_⟩
      rintro _ _ _ ⟨j, rfl, hj, rfl, rfl⟩
      have hfl2 : ((l.take j).filter (fun y => decide (x < y))).length ≤ l.length := by
        have := List.length_filter_le (fun y => decide (x < y)) (l.take j)
        rw [List.length_take] at this; omega
      refine cond_intro (fun he => ?_) fun he => ?_
      · have hlt : j < l.length := by simp at he; omega
        have hg := List.getElem?_eq_getElem hlt
        refine ⟨fun out1 => out1 = l.filter (fun y => decide (y < x)) ++ [x] ++ (l.take (j + 1)).filter (fun y => decide (x < y)), ⟨by omega, fun y hy => ?_⟩, ?_⟩
        · rw [Int.toNat_natCast, hg] at hy
          cases hy
          refine cond_intro (fun hq => ⟨by omega, fun z hz => ⟨by simp only [List.length_append, List.length_singleton]; omega, ?_⟩⟩) fun hq => ?_
          · rw [Int.toNat_natCast, hg] at hz
            cases hz
            rw [take_sn hg, List.filter_append]; simp [show x < l[j] by simpa using hq]
          · rw [take_sn hg, List.filter_append]; simp [show ¬ x < l[j] by simpa using hq]
        · rintro _ rfl
          exact ⟨l.length - (j + 1), by omega, j + 1, by rw [wrap_in (by omega) (by omega)]; omega, by omega, rfl, rfl⟩
      · rw [List.take_of_length_le (by simp at he; omega)]
        have e : l.filter (fun y => decide (y < x)) ++ [x] ++ l.filter (fun y => decide (x < y)) = l.filter (fun y => decide (ltI y x)) ++ x :: l.filter (fun y => decide (ltI x y)) := by simp
        rw [e]; exact h
theorem rdel_v (l : List Int) (hl : l.length < 1000000) (x : Int) (K : List Int → Prop) (h : K (delF l x)) : V_R06_Del l x K := by
  refine R06_Del_lift _ _ _ ⟨fun out i n => ∃ k : Nat, i = k ∧ k ≤ l.length ∧ n = l.length - k ∧ out = delF (l.take k) x, ⟨_, 0, rfl, by omega, rfl, by simp [delF]⟩, ?_⟩
  rintro _ _ _ ⟨k, rfl, hk, rfl, rfl⟩
  have hfl : (delF (l.take k) x).length ≤ l.length := by
    have := List.length_filter_le (fun y => decide (y ≠ x)) (l.take k)
    rw [List.length_take] at this; unfold delF; omega
  refine cond_intro (fun hd => ?_) fun hd => ?_
  · have hlt : k < l.length := by simp at hd; omega
    have hg := List.getElem?_eq_getElem hlt
    refine ⟨fun out1 => out1 = delF (l.take (k + 1)) x, ⟨by omega, fun y hy => ?_⟩, ?_⟩
    · rw [Int.toNat_natCast, hg] at hy
      cases hy
      refine cond_intro (fun hq => ⟨by omega, fun z hz => ⟨by rw [List.length_singleton]; omega, ?_⟩⟩) fun hq => ?_
      · rw [Int.toNat_natCast, hg] at hz
        cases hz
        unfold delF
        rw [take_sn hg, List.filter_append]; simp [show ¬ l[k] = x by simpa using hq]
      · unfold delF
        rw [take_sn hg, List.filter_append]; simp [show l[k] = x by simpa using hq]
    · rintro _ rfl
      exact ⟨l.length - (k + 1), by omega, k + 1, by rw [wrap_in (by omega) (by omega)]; omega, by omega, rfl, rfl⟩
  · rw [List.take_of_length_le (by simp at hd; omega)]; exact h
theorem rof_v (l : List Int) (hl : l.length < 900000) (K : List Int → Prop) (h : K (ofF ltI l)) : V_R06_Of l K := by
  refine R06_Of_lift _ _ ⟨fun out i n => ∃ k : Nat, i = k ∧ k ≤ l.length ∧ n = l.length - k ∧ out = ofF ltI (l.take k), ⟨_, 0, rfl, by omega, rfl, rfl⟩, ?_⟩
  rintro _ _ _ ⟨k, rfl, hk, rfl, rfl⟩
  have hle : (ofF ltI (l.take k)).length ≤ l.length := by
    have := fold_len ordI (l.take k) (s := []) List.Pairwise.nil
    rw [List.length_take, List.length_nil] at this
    unfold ofF; omega
  refine cond_intro (fun hd => ⟨by simp at hd; omega, fun y hy => ?_⟩) fun hd => ?_
  · rw [Int.toNat_natCast] at hy
    have hlt := (List.getElem?_eq_some_iff.1 hy).1
    refine radd_v _ (by omega) y _ ⟨l.length - (k + 1), by omega, k + 1, by rw [wrap_in (by omega) (by omega)]; omega, by omega, rfl, ?_⟩
    unfold ofF
    rw [take_sn hy, List.foldl_append]; rfl
  · rw [List.take_of_length_le (by simp at hd; omega)]; exact h
theorem live6_v (K : Bool → Prop) (h : K true) : V_L06_live K := by
  have e : ofF ltI [3, 1, 3] = [1, 3] := by decide
  refine L06_live_lift _ (of_v _ (by decide) _ ?_)
  rw [e]
  have hs : Asc ltI [1, 3] := by decide
  refine len_v _ _ (cond_t rfl (from_v _ hs (by decide) _ _ (cond_t (by decide) (has_v _ hs (by decide) _ _ (cond_t (by decide) (del_v _ hs (by decide) _ _ (cond_t (by decide) (has_v _ (delF_asc hs 3) (by decide) _ _ ?_))))))))
  have : (!decide ((3 : Int) ∈ delF [1, 3] 3)) = true := by decide
  rw [this]; exact h
theorem alike_v (s : List Int) (hl : s.length < 1000000) (K : Bool → Prop) (h : K true) : V_L06_alike ⟨s⟩ s K := by
  refine L06_alike_lift _ _ _ ⟨fun i n => ∃ k : Nat, i = k ∧ k ≤ s.length ∧ n = s.length - k, ⟨_, 0, rfl, by omega, rfl⟩, ?_⟩
  rintro _ _ ⟨k, rfl, hk, rfl⟩
  refine cond_intro (fun hd => at_v s k _ (fun x _ hx => ?_) fun hno => ?_) fun hd => len_v s _ ?_
  · rw [Int.toNat_natCast] at hx
    have hlt := (List.getElem?_eq_some_iff.1 hx).1
    refine ⟨fun b => b = false, cond_f rfl ⟨by omega, fun y hy => ?_⟩, ?_⟩
    · rw [Int.toNat_natCast, hx] at hy
      cases hy
      simp
    · rintro _ rfl
      exact cond_f rfl ⟨s.length - (k + 1), by omega, k + 1, by rw [wrap_in (by omega) (by omega)]; omega, by omega, rfl⟩
  · simp at hd; omega
  · have : ((s.length : Int) == (s.length : Int)) = true := by simp
    rw [this]; exact h
theorem SetPlays_v (l : List Int) (acts : List GL06_Act) (place : Int) (K : Bool → Prop) (h : K true) : V_L06_SetPlays l acts place K := by
  refine L06_SetPlays_lift _ _ _ _ (cond_intro (fun _ => live6_v _ h) fun hc => ?_)
  have hb : l.length ≤ 100 ∧ acts.length ≤ 100 := by simp at hc; omega
  have hol : (ofF ltI l).length ≤ 100 := by
    have := fold_len ordI l (s := []) List.Pairwise.nil
    rw [List.length_nil] at this
    unfold ofF; omega
  refine of_v l (by omega) _ (rof_v l (by omega) _ ⟨fun have_ i s n => have_ = s ∧ Asc ltI s ∧ ∃ k : Nat, i = k ∧ k ≤ acts.length ∧ s.length ≤ 100 + k ∧ n = acts.length - k, ⟨_, rfl, ofF_asc ordI l, 0, rfl, by omega, by omega, rfl⟩, ?_⟩)
  rintro s _ _ _ ⟨rfl, hs, k, rfl, hk, hsl, rfl⟩
  refine cond_intro (fun hd => ?_) fun hd => ?_
  · have hlt : k < acts.length := by simp at hd; omega
    have hg := List.getElem?_eq_getElem hlt
    refine ⟨fun h2 l2 => h2 = l2 ∧ Asc ltI l2 ∧ l2.length ≤ 100 + (k + 1), ⟨by omega, fun x1 h1 => rhas_v s (by omega) _ _ ⟨by omega, fun x2 h2 => ?_⟩⟩, ?_⟩
    · rw [Int.toNat_natCast, hg] at h1 h2
      cases h1; cases h2
      have hal := addF_len s ordI hs acts[k].x
      refine cond_intro (fun _ => add_v s hs (by omega) _ _ (cond_f (by cases decide (acts[k].x ∈ s) <;> rfl) (radd_v s (by omega) _ _ ⟨rfl, addF_asc ordI hs _, by show (addF ltI s acts[k].x).length ≤ _; omega⟩))) fun _ => cond_intro (fun _ => del_v s hs (by omega) _ _ (cond_f (by simp) (rdel_v s (by omega) _ _ ⟨rfl, delF_asc hs _, ?_⟩))) fun _ => cond_intro (fun _ => has_v s hs (by omega) _ _ (cond_f (by simp) ⟨rfl, hs, by omega⟩)) fun _ => from_v s hs (by omega) _ _ (rfrom_v s (by omega) _ _ (cond_f (by simp) ⟨rfl, hs, by omega⟩))
      have := List.length_filter_le (fun y => decide (y ≠ acts[k].x)) s
      show (delF s acts[k].x).length ≤ _
      unfold delF; omega
    · rintro _ _ ⟨rfl, h2, h3⟩
      exact ⟨acts.length - (k + 1), by omega, rfl, h2, k + 1, by rw [wrap_in (by omega) (by omega)]; omega, by omega, h3, rfl⟩
  · refine at_v s place _ (fun x h0 hx => ?_) fun hno => ?_
    · have hlt := (List.getElem?_eq_some_iff.1 hx).1
      refine cond_f (by simp; omega) ⟨by omega, fun y hy => ?_⟩
      rw [hx] at hy
      cases hy
      exact cond_t (by simp) (cond_t rfl (alike_v s (by omega) _ (cond_t rfl (live6_v _ h))))
    · refine cond_t (by simp; omega) (cond_t rfl (cond_t rfl (alike_v s (by omega) _ (cond_t rfl (live6_v _ h)))))
theorem SetPlays_spec (l : List Int) (acts : List GL06_Act) (place : Int) (A B : Option Addr) (AC BC : Nat) (w : World) (ha : l.length ≤ AC) (h1 : SlR (cInt .i64) [] w A l) (hb : acts.length ≤ BC) (h2 : SlR cGL06_Act [] w B acts) :
    Calls Try.prog 12 #[.slice A l.length AC, .slice B acts.length BC, .int .i64 place] w (Ret fun v w' => v = .bool true ∧ Ext w w') := by
  refine call_then (SetPlays_v l acts place (· = true) rfl [] w nofun A AC ha h1 B BC hb h2) ?_
  rintro _ _ ⟨_, rfl, rfl, k⟩
  exact ⟨rfl, k.ext⟩
end Go.Proofs.Ytcbpdageojenjaa
