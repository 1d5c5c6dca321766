/- End, Kids, Kid, Up and Same, of the program and of the document. -/
import Derived.Test.YtldcgfpcnemhpaaGreatLtT
import Derived.Test.YtldcgfpcnemhpaaGreatTreeA
namespace Go.Proofs.YtldcgfpcnemhpaaGreat
open Go.Vc Go.Lv Go.Ty Go.Tr
def ks (l : List GNode) : List Int := l.map (·.kids)
theorem ks_len (l : List GNode) : (ks l).length = l.length := by simp [ks]
theorem ks_get {l : List GNode} {p : Nat} {x : GNode} (h : l[p]? = some x) : (ks l).getD p 0 = x.kids := by
  simp [ks, List.getD, h]
theorem ks_drop {l : List GNode} {p : Nat} {x : GNode} (h : l[p]? = some x) : (ks l).drop p = x.kids :: (ks l).drop (p + 1) := by
  rw [drop_cons' (by rw [ks_len]; exact (List.getElem?_eq_some_iff.1 h).1), ks_get h]
def endZ (l : List GNode) (i : Int) : Int := if 0 ≤ i ∧ i < l.length then endF (ks l) i.toNat else l.length
def kidsZ (l : List GNode) (i : Int) : List Int := if 0 ≤ i then kidsOf (ks l) i.toNat else []
theorem end_v (l : List GNode) (i : Int) (hl : l.length ≤ 100000) (K : Int → Prop) (h : K (endZ l i)) : V_tree_End l i K := by
  refine tree_End_lift _ _ _ (cond_intro (fun hc => ?_) fun hc => ?_)
  · unfold endZ at h
    rw [if_neg (by simp at hc; omega)] at h
    exact h
  · have hi : 0 ≤ i ∧ i < l.length := by simp at hc; omega
    unfold endZ at h
    rw [if_pos hi] at h
    refine ⟨fun i1 need n => ∃ p d : Nat, i1 = p ∧ need = d ∧ p ≤ l.length ∧ d ≤ 1 + p * 100000 ∧ n = l.length - p ∧ eat 1 ((ks l).drop i.toNat) = eat d ((ks l).drop p), ⟨_, i.toNat, 1, by omega, rfl, by omega, by omega, rfl, rfl⟩, ?_⟩
    rintro _ _ _ ⟨p, d, rfl, rfl, hp, hd, rfl, he⟩
    refine cond_intro (fun hc => ?_) fun hc => ?_
    · have hc' : 0 < d ∧ p < l.length := by simp at hc; omega
      refine ⟨by omega, fun x hx => ?_⟩
      rw [Int.toNat_natCast] at hx
      rw [ks_drop hx] at he
      obtain ⟨e, rfl⟩ : ∃ e, d = e + 1 := ⟨d - 1, by omega⟩
      rw [eat_cons] at he
      have hlen : ((ks l).drop (p + 1)).length ≤ l.length := by rw [List.length_drop, ks_len]; omega
      have hw : ∃ q : Nat, (if (l.length : Int) < (if 0 > x.kids then 0 else x.kids) then (l.length : Int) else (if 0 > x.kids then 0 else x.kids)) = q ∧ q ≤ l.length ∧ eat (e + x.kids.toNat) ((ks l).drop (p + 1)) = eat (e + q) ((ks l).drop (p + 1)) := by
        by_cases h0 : 0 > x.kids
        · rw [if_pos h0]
          exact ⟨0, by rw [if_neg (by omega)]; rfl, by omega, by rw [show x.kids.toNat = 0 by omega]⟩
        · rw [if_neg h0]
          by_cases h1 : (l.length : Int) < x.kids
          · rw [if_pos h1]
            exact ⟨l.length, rfl, by omega, by rw [eat_all _ _ (by omega), eat_all _ _ (by omega)]⟩
          · rw [if_neg h1]
            exact ⟨x.kids.toNat, by omega, by omega, rfl⟩
      obtain ⟨q, hq, hql, hqe⟩ := hw
      rw [hq, wrap_in (n := (q : Int) - 1) (by omega) (by omega), wrap_in (n := (p : Int) + 1) (by omega) (by omega), wrap_in (by omega) (by omega)]
      exact ⟨l.length - (p + 1), by omega, p + 1, e + q, by omega, by omega, by omega, by omega, rfl, he.trans hqe⟩
    · have hr : eat 1 ((ks l).drop i.toNat) = (ks l).drop p := by
        rw [he]
        by_cases hd0 : d = 0
        · rw [hd0, eat_zero]
        · have : p = l.length := by simp at hc; omega
          rw [List.drop_of_length_le (by rw [ks_len]; omega), eat_nil]
      have : endF (ks l) i.toNat = p := by unfold endF; rw [hr, List.length_drop, ks_len]; omega
      rw [this] at h
      exact h
theorem kids_it (l : List GNode) (i : Int) (hl : l.length ≤ 100000) : It_tree_Kids_1 i l (kidsZ l i) := by
  refine tree_Kids_1_it _ _ _ ⟨fun b pre stop => pre = [] ∧ stop = false ∧ b = (decide (i < 0) || decide (i ≥ (l.length : Int))), cond_intro (fun hc => ⟨rfl, rfl, by rw [hc]; rfl⟩) (fun hc => ⟨rfl, rfl, by rw [hc]; rfl⟩), ?_⟩
  rintro _ _ _ ⟨rfl, rfl, rfl⟩
  refine cond_intro (fun hc => fun _ => ?_) fun hc => ⟨rfl, ?_⟩
  · unfold kidsZ kidsOf
    split
    · rw [if_neg (by rw [ks_len]; simp at hc; omega)]
    · rfl
  · have hi : 0 ≤ i ∧ i < l.length := by simp at hc; omega
    obtain ⟨a, rfl⟩ : ∃ a : Nat, i = a := ⟨i.toNat, by omega⟩
    refine ⟨by omega, fun x hx => ?_⟩
    rw [Int.toNat_natCast] at hx
    have hxs : kidsZ l a = kidsF (ks l) x.kids.toNat (a + 1) := by
      unfold kidsZ kidsOf
      rw [if_pos (by omega), Int.toNat_natCast, if_pos (by rw [ks_len]; omega), ks_get hx]
    rw [hxs]
    refine ⟨fun atx x2 pre stop n => stop = false ∧ ∃ p c : Nat, atx = p ∧ x2 = c ∧ p ≤ l.length ∧ c ≤ p ∧ c ≤ x.kids.toNat ∧ n = x.kids.toNat - c ∧ pre ++ kidsF (ks l) (x.kids.toNat - c) p = kidsF (ks l) x.kids.toNat (a + 1), ⟨_, rfl, a + 1, 0, by rw [wrap_in (by omega) (by omega)]; omega, rfl, by omega, by omega, by omega, rfl, by simp⟩, ?_⟩
    rintro _ _ pre _ _ ⟨rfl, p, c, rfl, rfl, hp, hcp, hck, rfl, he⟩
    refine cond_intro (fun hd => ?_) fun hd => fun _ => ?_
    · have hck' : c < x.kids.toNat := by simp at hd; omega
      have hs : x.kids.toNat - c = (x.kids.toNat - (c + 1)) + 1 := by omega
      refine ⟨fun b pre2 stop2 => (b = true ∧ (stop2 = false → pre2 = kidsF (ks l) x.kids.toNat (a + 1))) ∨ (b = false ∧ stop2 = false ∧ p < l.length ∧ pre2 = pre ++ [(p : Int)]), ⟨rfl, cond_intro (fun hc => ?_) fun hc => ?_⟩, ?_⟩
      · refine .inl ⟨rfl, fun _ => ?_⟩
        rw [hs, kidsF, if_neg (by rw [ks_len]; simp at hc; omega), List.append_nil] at he
        exact he
      · have hpl : p < l.length := by simp at hc; omega
        rw [hs, kidsF, if_pos (by rw [ks_len]; omega)] at he
        refine ⟨by rw [← he]; simp, .inr ⟨rfl, rfl, hpl, rfl⟩, .inl ⟨rfl, by simp⟩⟩
      · rintro b pre2 stop2 (⟨rfl, h⟩ | ⟨rfl, rfl, hpl, rfl⟩)
        · exact h
        · refine ⟨rfl, end_v l p hl _ ?_⟩
          rw [hs, kidsF, if_pos (by rw [ks_len]; omega)] at he
          unfold endZ
          rw [if_pos (by omega), Int.toNat_natCast]
          have h1 := endF_gt (ks l) p (by rw [ks_len]; omega)
          have h2 := endF_le (ks l) p
          rw [ks_len] at h2
          exact ⟨x.kids.toNat - (c + 1), by omega, rfl, endF (ks l) p, c + 1, rfl, by rw [wrap_in (by omega) (by omega)]; omega, by omega, by omega, by omega, rfl, by rw [List.append_assoc]; exact he⟩
    · have : x.kids.toNat - c = 0 := by simp at hd; omega
      rw [this, kidsF, List.append_nil] at he
      exact he
end Go.Proofs.YtldcgfpcnemhpaaGreat
