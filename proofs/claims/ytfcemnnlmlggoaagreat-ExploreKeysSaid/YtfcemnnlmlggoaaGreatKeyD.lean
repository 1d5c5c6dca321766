/- Layer 42: the Sinces that count, in order; a rank. -/
import Derived.Test.YtfcemnnlmlggoaaGreatKeyC
namespace Go.Proofs.YtfcemnnlmlggoaaGreat
open Go.Vc Go.Lv Go.Ty Go.Iv Go.Ky

theorem half {i j : Nat} (h : i + j < 4294967296) : IntKind.i64.wrap ((IntKind.u64.wrap (IntKind.i64.wrap ((i : Int) + (j : Int)))).fdiv (2 ^ (min 1 IntKind.u64.bits))) = (((i + j) / 2 : Nat) : Int) := by
  rw [wrap_in (n := (i : Int) + (j : Int)) (by omega) (by omega), IntKind.wrap_u64, show (2 : Int) ^ (min 1 IntKind.u64.bits) = ((2 : Nat) : Int) from rfl, show ((i : Int) + (j : Int)) % 18446744073709551616 = ((i + j : Nat) : Int) by omega, fdiv_nat, wrap_in (by omega) (by omega)]
theorem filter_lt {L : List Int} {x : Int} {i : Nat} (hi : i ≤ L.length) (h1 : ∀ t (h : t < L.length), t < i → L[t] < x) (h2 : ∀ t (h : t < L.length), i ≤ t → ¬ L[t] < x) : (L.filter (· < x)).length = i := by
  have e : L = L.take i ++ L.drop i := (List.take_append_drop i L).symm
  rw [e, List.filter_append, List.length_append]
  have a1 : (L.take i).filter (· < x) = L.take i := by
    rw [List.filter_eq_self]
    intro a ha
    obtain ⟨t, ht, rfl⟩ := List.getElem_of_mem ha
    rw [List.length_take] at ht
    rw [List.getElem_take]
    exact decide_eq_true (h1 t (by omega) (by omega))
  have a2 : (L.drop i).filter (· < x) = [] := by
    rw [List.filter_eq_nil_iff]
    intro a ha
    obtain ⟨t, ht, rfl⟩ := List.getElem_of_mem ha
    rw [List.length_drop] at ht
    rw [List.getElem_drop]
    simpa using h2 (i + t) (by omega) (by omega)
  rw [a1, a2, List.length_take]
  simp; omega
theorem search_v (L : List Int) (hs : L.Pairwise (· < ·)) (hl : L.length < 2147483648) (x : Int) (K : Int → Prop) (h : K (rkL L x)) : V_sort_SearchInts L x K := by
  have hp : ∀ a b (ha : a < L.length) (hb : b < L.length), a < b → L[a] < L[b] := fun a b ha hb hab => List.pairwise_iff_getElem.1 hs a b ha hb hab
  refine sort_SearchInts_lift _ _ _ (sort_Search_sort_SearchInts_1_lift _ _ _ _ ⟨fun i j n => ∃ a b : Nat, i = a ∧ j = b ∧ n = b - a ∧ a ≤ b ∧ b ≤ L.length ∧ (∀ t (h : t < L.length), t < a → L[t] < x) ∧ (∀ t (h : t < L.length), b ≤ t → ¬ L[t] < x), ⟨_, 0, L.length, rfl, rfl, rfl, Nat.zero_le _, Nat.le_refl _, fun t h h0 => absurd h0 (Nat.not_lt_zero _), fun t h h0 => by omega⟩, ?_⟩)
  rintro _ _ _ ⟨a, b, rfl, rfl, rfl, hab, hb, h1, h2⟩
  refine cond_intro (fun hc => ⟨by decide, ?_⟩) fun hc => ?_
  · have hc : a < b := by simpa using hc
    rw [half (by omega)]
    have hm : (a + b) / 2 < L.length := by omega
    refine sort_SearchInts_1_lift _ _ _ _ (at_elem hm (cond_intro (fun hd => ?_) fun hd => ?_))
    · have hd : L[(a + b) / 2] < x := by simpa using hd
      refine ⟨b - ((a + b) / 2 + 1), by omega, (a + b) / 2 + 1, b, by rw [wrap_in (by omega) (by omega)]; omega, rfl, rfl, by omega, hb, fun t ht h0 => ?_, h2⟩
      by_cases e : t = (a + b) / 2
      · subst e; exact hd
      · have := hp t ((a + b) / 2) ht hm (by omega); omega
    · have hd : ¬ L[(a + b) / 2] < x := by simpa using hd
      refine ⟨(a + b) / 2 - a, by omega, a, (a + b) / 2, rfl, rfl, rfl, by omega, by omega, h1, fun t ht h0 => ?_⟩
      by_cases e : t = (a + b) / 2
      · subst e; exact hd
      · have := hp ((a + b) / 2) t hm ht (by omega); omega
  · have hc : a = b := by simp at hc; omega
    subst hc
    have := filter_lt hb h1 h2
    unfold rkL at h
    rwa [this] at h
theorem rank1_v (L : List Int) (hs : L.Pairwise (· < ·)) (hl : L.length < 2147483648) (x : Int) (K : Int → Prop) (h : K (rkL L x)) : V_explore_Key_1 x L K :=
  explore_Key_1_lift _ _ _ (search_v L hs hl x _ h)
theorem clonea_v (l : List GAlt) (hl : l.length < 2147483648) (K : List GAlt → Prop) (h : K l) : V_slices_Clone_Slapi_Alt_api_Alt l K := by
  refine slices_Clone_Slapi_Alt_api_Alt_lift _ _ fun z hz => cond_intro (fun hc => ?_) fun hc => ⟨by omega, h⟩
  rwa [hz hc] at h
theorem clonep_v (l : List GProc) (hl : l.length < 2147483648) (K : List GProc → Prop) (h : K l) : V_slices_Clone_Slapi_Proc_api_Proc l K := by
  refine slices_Clone_Slapi_Proc_api_Proc_lift _ _ fun z hz => cond_intro (fun hc => ?_) fun hc => ⟨by omega, h⟩
  rwa [hz hc] at h
end Go.Proofs.YtfcemnnlmlggoaaGreat
