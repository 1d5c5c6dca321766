/- End, Kids, Kid, Up and Same, of the program and of the document. -/
import Derived.Test.YtcbpdageojenjaaLtT
import Derived.Test.YtcbpdageojenjaaTreeA
namespace Go.Proofs.Ytcbpdageojenjaa
open Go.Vc Go.Lv Go.Ty Go.Tr

def ks (l : List GNode) : List Int := l.map (·.kids)
theorem ks_len (l : List GNode) : (ks l).length = l.length := by simp [ks]
theorem ks_get {l : List GNode} {p : Nat} {x : GNode} (h : l[p]? = some x) : (ks l).getD p 0 = x.kids := by
  simp [ks, List.getD, h]
theorem ks_drop {l : List GNode} {p : Nat} {x : GNode} (h : l[p]? = some x) : (ks l).drop p = x.kids :: (ks l).drop (p + 1) := by
  rw [drop_cons' (by rw [ks_len]; exact (List.getElem?_eq_some_iff.1 h).1), ks_get h]
def endZ (l : List GNode) (i : Int) : Int := if 0 ≤ i ∧ i < l.length then endF (ks l) i.toNat else l.length
def kidsZ (l : List GNode) (i : Int) : List Int := if 0 ≤ i then kidsOf (ks l) i.toNat else []

theorem end_v (l : List GNode) (i : Int) (hl : l.length ≤ 100000) (K : Int → Prop) (h : K (endZ l i)) : V_tree_End l i K := by
  refine tree_End_lift _ _ _ (cond_intro (fun hc => ?_) fun hc => ?_)
  · unfold endZ at h
    rw [if_neg (by simp at hc; omega)] at h
    exact h
  · have hi : 0 ≤ i ∧ i < l.length := by simp at hc; omega
    unfold endZ at h
    rw [if_pos hi] at h
    refine ⟨fun i1 need n => ∃ p d : Nat, i1 = p ∧ need = d ∧ p ≤ l.length ∧ d ≤ 1 + p * 100000 ∧ n = l.length - p ∧ eat 1 ((ks l).drop i.toNat) = eat d ((ks l).drop p), ⟨_, i.toNat, 1, by omega, rfl, by omega, by omega, rfl, rfl⟩, ?_⟩
    rintro _ _ _ ⟨p, d, rfl, rfl, hp, hd, rfl, he⟩
    refine cond_intro (fun hc => ?_) fun hc => ?_
    · have hc' : 0 < d ∧ p < l.length := by simp at hc; omega
      refine ⟨by omega, fun x hx => ?_⟩
      rw [Int.toNat_natCast] at hx
      rw [ks_drop hx] at he
      obtain ⟨e, rfl⟩ : ∃ e, d = e + 1 := ⟨d - 1, by omega⟩
      rw [eat_cons] at he
      have hlen : ((ks l).drop (p + 1)).length ≤ l.length := by rw [List.length_drop, ks_len]; omega
      have hw : ∃ q : Nat, (if (l.length : Int) < (if 0 > x.kids then 0 else x.kids) then (l.length : Int) else (if 0 > x.kids then 0 else x.kids)) = q ∧ q ≤ l.length ∧ eat (e + x.kids.toNat) ((ks l).drop (p + 1)) = eat (e + q) ((ks l).drop (p + 1)) := by
        by_cases h0 : 0 > x.kids
        · rw [if_pos h0]
          exact ⟨0, by rw [if_neg (by omega)]; rfl, by omega, by rw [show x.kids.toNat = 0 by omega]⟩
        · rw [if_neg h0]
          by_cases h1 : (l.length : Int) < x.kids
          · rw [if_pos h1]
            exact ⟨l.length, rfl, by omega, by rw [eat_all _ _ (by omega), eat_all _ _ (by omega)]⟩
          · rw [if_neg h1]
            exact ⟨x.kids.toNat, by omega, by omega, rfl⟩
      obtain ⟨q, hq, hql, hqe⟩ := hw
      rw [hq, wrap_in (n := (q : Int) - 1) (by omega) (by omega), wrap_in (n := (p : Int) + 1) (by omega) (by omega), wrap_in (by omega) (by omega)]
      exact ⟨l.length - (p + 1), by omega, p + 1, e + q, by omega, by omega, by omega, by omega, rfl, he.trans hqe⟩
    · have hr : eat 1 ((ks l).drop i.toNat) = (ks l).drop p := by
        rw [he]
        by_cases hd0 : d = 0
        · rw [hd0, eat_zero]
        · have : p = l.length := by simp at hc; omega
          rw [List.drop_of_length_le (by rw [ks_len]; omega), eat_nil]
      have : endF (ks l) i.toNat = p := by unfold endF; rw [hr, List.length_drop, ks_len]; omega
      rw [this] at h
      exact h

theorem rend_v (l : List GNode) (hl : l.length ≤ 100000) : ∀ (m : Nat) (i : Int) (K : Int → Prop), (l.length : Int) - i ≤ m → K (endZ l i) → V_R09_End l i K := by
  intro m
  induction m with
  | zero =>
    intro i K hm h
    refine R09_End_lift _ _ _ (cond_t (by simp; omega) ?_)
    unfold endZ at h
    rw [if_neg (by omega)] at h
    exact h
  | succ m ih =>
    intro i K hm h
    refine R09_End_lift _ _ _ (cond_intro (fun hc => ?_) fun hc => ?_)
    · unfold endZ at h
      rw [if_neg (by simp at hc; omega)] at h
      exact h
    · have hi : 0 ≤ i ∧ i < l.length := by simp at hc; omega
      unfold endZ at h
      rw [if_pos hi] at h
      obtain ⟨a, rfl⟩ : ∃ a : Nat, i = a := ⟨i.toNat, by omega⟩
      rw [Int.toNat_natCast] at h
      have hal : a < l.length := by omega
      have hx : l[a]? = some l[a] := List.getElem?_eq_getElem hal
      refine ⟨fun atx k n => ∃ p c : Nat, atx = p ∧ k = c ∧ a < p ∧ p ≤ l.length ∧ c ≤ p ∧ c ≤ (l[a].kids).toNat ∧ n = l.length - p ∧ eat c ((ks l).drop (a + 1)) = (ks l).drop p, ⟨_, a + 1, 0, by rw [wrap_in (by omega) (by omega)]; omega, rfl, by omega, by omega, by omega, by omega, rfl, eat_zero _⟩, ?_⟩
      rintro _ _ _ ⟨p, c, rfl, rfl, hap, hp, hcp, hck, rfl, he⟩
      refine ⟨fun b => b = (decide ((c : Int) < l[a].kids) && decide (p < l.length)), ⟨by omega, fun x1 hx1 => ?_⟩, ?_⟩
      · rw [Int.toNat_natCast, hx] at hx1
        cases hx1
        refine cond_intro (fun hd => ?_) fun hd => ?_
        · rw [hd, Bool.true_and]; congr 1; simp
        · rw [hd, Bool.false_and]
      · rintro _ rfl
        refine cond_intro (fun hd => ?_) fun hd => ?_
        · have hd' : (c : Int) < l[a].kids ∧ p < l.length := by simpa using hd
          refine ih p _ (by omega) ?_
          unfold endZ
          rw [if_pos (by omega), Int.toNat_natCast]
          have h1 := endF_gt (ks l) p (by rw [ks_len]; omega)
          have h2 := endF_le (ks l) p
          rw [ks_len] at h2
          refine ⟨l.length - endF (ks l) p, by omega, endF (ks l) p, c + 1, rfl, by rw [wrap_in (by omega) (by omega)]; omega, by omega, by omega, by omega, by omega, rfl, ?_⟩
          rw [eat_add, he, endF_drop]
        · have hr : eat 1 ((ks l).drop a) = (ks l).drop p := by
            rw [ks_drop hx, eat_one]
            by_cases hcc : c = (l[a].kids).toNat
            · rw [← hcc, he]
            · have : p = l.length := by simp at hd; omega
              rw [show (l[a].kids).toNat = c + ((l[a].kids).toNat - c) by omega, eat_add, he, List.drop_of_length_le (by rw [ks_len]; omega), eat_nil]
          have : endF (ks l) a = p := by unfold endF; rw [hr, List.length_drop, ks_len]; omega
          rw [this] at h
          exact h
theorem rend (l : List GNode) (i : Int) (hl : l.length ≤ 100000) (K : Int → Prop) (h : K (endZ l i)) : V_R09_End l i K := rend_v l hl ((l.length : Int) - i).toNat i K (by omega) h

theorem kids_it (l : List GNode) (i : Int) (hl : l.length ≤ 100000) : It_tree_Kids_1 i l (kidsZ l i) := by
  refine tree_Kids_1_it _ _ _ ⟨fun b pre stop => pre = [] ∧ stop = false ∧ b = (decide (i < 0) || decide (i ≥ (l.length : Int))), cond_intro (fun hc => ⟨rfl, rfl, by rw [hc]; rfl⟩) (fun hc => ⟨rfl, rfl, by rw [hc]; rfl⟩), ?_⟩
  rintro _ _ _ ⟨rfl, rfl, rfl⟩
  refine cond_intro (fun hc => fun _ => ?_) fun hc => ⟨rfl, ?_⟩
  · unfold kidsZ kidsOf
    split
    · rw [if_neg (by rw [ks_len]; simp at hc; omega)]
    · rfl
  · have hi : 0 ≤ i ∧ i < l.length := by simp at hc; omega
    obtain ⟨a, rfl⟩ : ∃ a : Nat, i = a := ⟨i.toNat, by omega⟩
    refine ⟨by omega, fun x hx => ?_⟩
    rw [Int.toNat_natCast] at hx
    have hxs : kidsZ l a = kidsF (ks l) x.kids.toNat (a + 1) := by
      unfold kidsZ kidsOf
      rw [if_pos (by omega), Int.toNat_natCast, if_pos (by rw [ks_len]; omega), ks_get hx]
    rw [hxs]
    refine ⟨fun atx x2 pre stop n => stop = false ∧ ∃ p c : Nat, atx = p ∧ x2 = c ∧ p ≤ l.length ∧ c ≤ p ∧ c ≤ x.kids.toNat ∧ n = x.kids.toNat - c ∧ pre ++ kidsF (ks l) (x.kids.toNat - c) p = kidsF (ks l) x.kids.toNat (a + 1), ⟨_, rfl, a + 1, 0, by rw [wrap_in (by omega) (by omega)]; omega, rfl, by omega, by omega, by omega, rfl, by simp⟩, ?_⟩
    rintro _ _ pre _ _ ⟨rfl, p, c, rfl, rfl, hp, hcp, hck, rfl, he⟩
    refine cond_intro (fun hd => ?_) fun hd => fun _ => ?_
    · have hck' : c < x.kids.toNat := by simp at hd; omega
      have hs : x.kids.toNat - c = (x.kids.toNat - (c + 1)) + 1 := by omega
      refine ⟨fun b pre2 stop2 => (b = true ∧ (stop2 = false → pre2 = kidsF (ks l) x.kids.toNat (a + 1))) ∨ (b = false ∧ stop2 = false ∧ p < l.length ∧ pre2 = pre ++ [(p : Int)]), ⟨rfl, cond_intro (fun hc => ?_) fun hc => ?_⟩, ?_⟩
      · refine .inl ⟨rfl, fun _ => ?_⟩
        rw [hs, kidsF, if_neg (by rw [ks_len]; simp at hc; omega), List.append_nil] at he
        exact he
      · have hpl : p < l.length := by simp at hc; omega
        rw [hs, kidsF, if_pos (by rw [ks_len]; omega)] at he
        refine ⟨by rw [← he]; simp, .inr ⟨rfl, rfl, hpl, rfl⟩, .inl ⟨rfl, by simp⟩⟩
      · rintro b pre2 stop2 (⟨rfl, h⟩ | ⟨rfl, rfl, hpl, rfl⟩)
        · exact h
        · refine ⟨rfl, end_v l p hl _ ?_⟩
          rw [hs, kidsF, if_pos (by rw [ks_len]; omega)] at he
          unfold endZ
          rw [if_pos (by omega), Int.toNat_natCast]
          have h1 := endF_gt (ks l) p (by rw [ks_len]; omega)
          have h2 := endF_le (ks l) p
          rw [ks_len] at h2
          exact ⟨x.kids.toNat - (c + 1), by omega, rfl, endF (ks l) p, c + 1, rfl, by rw [wrap_in (by omega) (by omega)]; omega, by omega, by omega, by omega, rfl, by rw [List.append_assoc]; exact he⟩
    · have : x.kids.toNat - c = 0 := by simp at hd; omega
      rw [this, kidsF, List.append_nil] at he
      exact he
theorem kidsF_len (l : List Int) : ∀ (n p : Nat), p ≤ l.length → (kidsF l n p).length ≤ l.length - p
  | 0, p, _ => by simp [kidsF]
  | n + 1, p, hp => by
    unfold kidsF
    split
    · rename_i h
      have h1 := endF_gt l p h
      have h2 := endF_le l p
      have := kidsF_len l n (endF l p) h2
      rw [List.length_cons]; omega
    · simp
theorem kidsZ_len (l : List GNode) (i : Int) : (kidsZ l i).length ≤ l.length := by
  unfold kidsZ kidsOf
  split
  · split
    · rename_i h
      have := kidsF_len (ks l) ((ks l).getD i.toNat 0).toNat (i.toNat + 1) (by omega)
      rw [ks_len] at this; omega
    · simp
  · simp
theorem rkids (l : List GNode) (i : Int) (hl : l.length ≤ 100000) (K : List Int → Prop) (h : K (kidsZ l i)) : V_R09_Kids l i K := by
  refine R09_Kids_lift _ _ _ (cond_intro (fun hc => ?_) fun hc => ?_)
  · have : kidsZ l i = [] := by
      unfold kidsZ kidsOf
      split
      · rw [if_neg (by rw [ks_len]; simp at hc; omega)]
      · rfl
    rw [this] at h
    exact h
  · have hi : 0 ≤ i ∧ i < l.length := by simp at hc; omega
    obtain ⟨a, rfl⟩ : ∃ a : Nat, i = a := ⟨i.toNat, by omega⟩
    have hal : a < l.length := by omega
    have hx : l[a]? = some l[a] := List.getElem?_eq_getElem hal
    have hxs : kidsZ l a = kidsF (ks l) (l[a].kids).toNat (a + 1) := by
      unfold kidsZ kidsOf
      rw [if_pos (by omega), Int.toNat_natCast, if_pos (by rw [ks_len]; omega), ks_get hx]
    have hlen := kidsZ_len l a
    rw [hxs] at h hlen
    refine ⟨fun out atx k n => ∃ p c : Nat, atx = p ∧ k = c ∧ p ≤ l.length ∧ c ≤ p ∧ c ≤ (l[a].kids).toNat ∧ n = (l[a].kids).toNat - c ∧ out ++ kidsF (ks l) ((l[a].kids).toNat - c) p = kidsF (ks l) (l[a].kids).toNat (a + 1), ⟨_, a + 1, 0, by rw [wrap_in (by omega) (by omega)]; omega, rfl, by omega, by omega, by omega, rfl, by simp⟩, ?_⟩
    rintro out _ _ _ ⟨p, c, rfl, rfl, hp, hcp, hck, rfl, he⟩
    refine ⟨fun b => b = (decide ((c : Int) < l[a].kids) && decide (p < l.length)), ⟨by omega, fun x1 hx1 => ?_⟩, ?_⟩
    · rw [Int.toNat_natCast, hx] at hx1
      cases hx1
      refine cond_intro (fun hd => ?_) fun hd => ?_
      · rw [hd, Bool.true_and]; congr 1; simp
      · rw [hd, Bool.false_and]
    · rintro _ rfl
      refine cond_intro (fun hd => ?_) fun hd => ?_
      · have hd' : (c : Int) < l[a].kids ∧ p < l.length := by simpa using hd
        have hs : (l[a].kids).toNat - c = ((l[a].kids).toNat - (c + 1)) + 1 := by omega
        rw [hs, kidsF, if_pos (by rw [ks_len]; omega)] at he
        have hol : out.length + 1 ≤ l.length := by
          have := congrArg List.length he
          simp at this; omega
        refine ⟨by simp; omega, rend l p hl _ ?_⟩
        unfold endZ
        rw [if_pos (by omega), Int.toNat_natCast]
        have h1 := endF_gt (ks l) p (by rw [ks_len]; omega)
        have h2 := endF_le (ks l) p
        rw [ks_len] at h2
        exact ⟨(l[a].kids).toNat - (c + 1), by omega, endF (ks l) p, c + 1, rfl, by rw [wrap_in (by omega) (by omega)]; omega, by omega, by omega, by omega, rfl, by rw [List.append_assoc]; exact he⟩
      · have : out = kidsF (ks l) (l[a].kids).toNat (a + 1) := by
          by_cases hcc : c = (l[a].kids).toNat
          · rw [← hcc, Nat.sub_self, kidsF, List.append_nil, hcc] at he
            exact he
          · have hpl : ¬ p < (ks l).length := by rw [ks_len]; simp at hd; omega
            rw [show (l[a].kids).toNat - c = ((l[a].kids).toNat - (c + 1)) + 1 by omega, kidsF, if_neg hpl, List.append_nil] at he
            exact he
        rw [this]
        exact h
theorem kids_v (l : List GNode) (i : Int) (K : Int → List GNode → Prop) (h : K i l) : V_tree_Kids l i K := tree_Kids_lift _ _ _ h

def kidZ (l : List GNode) (i k : Int) : Int := if 0 ≤ k then (kidsZ l i).getD k.toNat (-1) else -1
theorem kid_v (l : List GNode) (i k : Int) (hl : l.length ≤ 100000) (hk : k < 9223372036854775808) (K : Int → Prop) (h : K (kidZ l i k)) : V_tree_Kid l i k K := by
  refine tree_Kid_lift _ _ _ _ (cond_intro (fun hc => ?_) fun hc => ?_)
  · unfold kidZ at h
    rw [if_neg (by simp at hc; omega)] at h
    exact h
  · have hk0 : 0 ≤ k := by simp at hc; omega
    unfold kidZ at h
    rw [if_pos hk0] at h
    refine kids_v l i _ ⟨_, kids_it l i hl, fun pre _ k' => pre.length ≤ k.toNat ∧ k' = k - pre.length, ⟨by simp, by simp⟩, ?_, ?_⟩
    · rintro pre x _ _ hpre ⟨hpk, rfl⟩
      refine cond_intro (fun hd => ?_) fun hd => ?_
      · have : k.toNat = pre.length := by simp at hd; omega
        obtain ⟨t, ht⟩ := hpre
        rw [this, ← ht] at h
        simpa using h
      · have : pre.length ≠ k.toNat := by simp at hd; omega
        exact ⟨by simp; omega, by rw [wrap_in (by omega) (by omega)]; simp; omega⟩
    · rintro _ _ ⟨hpk, _⟩
      rw [List.getD_eq_getElem?_getD, List.getElem?_eq_none (by omega)] at h
      exact h
theorem rkid_v (l : List GNode) (i k : Int) (hl : l.length ≤ 100000) (K : Int → Prop) (h : K (kidZ l i k)) : V_R09_Kid l i k K := by
  refine R09_Kid_lift _ _ _ _ (rkids l i hl _ (cond_intro (fun hc => ?_) fun hc => ⟨by simp at hc; omega, fun x hx => ?_⟩))
  · unfold kidZ at h
    by_cases hk : 0 ≤ k
    · rw [if_pos hk, List.getD_eq_getElem?_getD, List.getElem?_eq_none (by simp at hc; omega)] at h
      exact h
    · rw [if_neg hk] at h
      exact h
  · unfold kidZ at h
    rw [if_pos (by simp at hc; omega), List.getD_eq_getElem?_getD, hx] at h
    exact h

/-- the node above -/
def IsUp (l : List GNode) (i r : Int) : Prop := (∃ k : Nat, r = k ∧ i ∈ kidsZ l k) ∨ (r = -1 ∧ ∀ k : Nat, i ∉ kidsZ l k)
theorem kidsZ_mem {l : List GNode} {k : Nat} {x : Int} : x ∈ kidsZ l k ↔ ∃ j i : Nat, x = i ∧ Kid (ks l) k j i := by
  unfold kidsZ
  rw [if_pos (by omega), Int.toNat_natCast, kidsOf_mem]
theorem IsUp.unique {l : List GNode} {i r r' : Int} (h : IsUp l i r) (h' : IsUp l i r') : r = r' := by
  rcases h with ⟨k, rfl, hk⟩ | ⟨rfl, hn⟩ <;> rcases h' with ⟨k', rfl, hk'⟩ | ⟨rfl, hn'⟩
  · obtain ⟨j, a, rfl, h1⟩ := kidsZ_mem.1 hk
    obtain ⟨j', a', e, h2⟩ := kidsZ_mem.1 hk'
    obtain rfl : a = a' := by omega
    rw [h1.unique h2]
  · exact absurd hk (hn' k)
  · exact absurd hk' (hn k')
  · rfl
theorem up_v (l : List GNode) (i : Int) (hl : l.length ≤ 100000) (K : Int → Prop) (h : ∀ r, IsUp l i r → K r) : V_tree_Up l i K := by
  refine tree_Up_lift _ _ _ ⟨fun b => b = (decide (i < 0) || decide (i ≥ (l.length : Int))), cond_intro (fun hc => by rw [hc]; rfl) (fun hc => by rw [hc]; rfl), ?_⟩
  rintro _ rfl
  refine cond_intro (fun hc => h _ (.inr ⟨rfl, fun k hk => ?_⟩)) fun hc => ?_
  · obtain ⟨j, a, rfl, hq⟩ := kidsZ_mem.1 hk
    have := hq.2.2.2
    rw [ks_len] at this
    simp at hc; omega
  · have hi : 0 ≤ i ∧ i < l.length := by simp at hc; omega
    refine ⟨fun v _ n => v < i ∧ -1 ≤ v ∧ n = (v + 1).toNat ∧ ∀ k : Nat, v < k → i ∉ kidsZ l k, ⟨_, by rw [wrap_in (by omega) (by omega)]; omega, by rw [wrap_in (by omega) (by omega)]; omega, rfl, fun k hk hm => ?_⟩, ?_⟩
    · rw [wrap_in (by omega) (by omega)] at hk
      obtain ⟨j, a, rfl, hq⟩ := kidsZ_mem.1 hm
      have := hq.ahead
      omega
    · rintro v v1 _ ⟨hv, hv1, rfl, hno⟩
      refine cond_intro (fun hd => ?_) fun hd => ?_
      · have hv0 : 0 ≤ v := by simpa using hd
        refine kids_v l v _ ⟨_, kids_it l v hl, fun pre _ => i ∉ pre, by simp, ?_, ?_⟩
        · rintro pre x _ ⟨t, ht⟩ hp
          refine cond_intro (fun he => ?_) fun he => ?_
          · have : x = i := by simpa using he
            subst this
            refine h _ (.inl ⟨v.toNat, by omega, ?_⟩)
            rw [Int.toNat_of_nonneg hv0, ← ht]
            simp
          · simp only [List.mem_append, List.mem_singleton, not_or]
            exact ⟨hp, fun e => by rw [e] at he; simp at he⟩
        · rintro _ hno2
          rw [wrap_in (by omega) (by omega)]
          refine ⟨v.toNat, by omega, by omega, by omega, by omega, fun k hk => ?_⟩
          by_cases hkv : (k : Int) = v
          · rw [hkv]; exact hno2
          · exact hno k (by omega)
      · exact h _ (.inr ⟨rfl, fun k => hno k (by simp at hd; omega)⟩)
theorem rup_v (l : List GNode) (i : Int) (hl : l.length ≤ 100000) (K : Int → Prop) (h : ∀ r, IsUp l i r → K r) : V_R09_Up l i K := by
  refine R09_Up_lift _ _ _ ⟨fun k n => ∃ a : Nat, k = a ∧ a ≤ l.length ∧ n = l.length - a ∧ ∀ b, b < a → i ∉ kidsZ l b, ⟨_, 0, rfl, by omega, rfl, by omega⟩, ?_⟩
  rintro _ _ ⟨a, rfl, ha, rfl, hno⟩
  refine cond_intro (fun hc => ?_) fun hc => ?_
  · have hc' : (a : Int) < i ∧ a < l.length := by simp at hc; omega
    refine rkids l a hl _ ⟨fun j n => ∃ b : Nat, j = b ∧ b ≤ (kidsZ l a).length ∧ n = (kidsZ l a).length - b ∧ i ∉ (kidsZ l a).take b, ⟨_, 0, rfl, by omega, rfl, by simp⟩, ?_⟩
    rintro _ _ ⟨b, rfl, hb, rfl, hnb⟩
    have hlen := kidsZ_len l a
    refine cond_intro (fun hd => ⟨by simp at hd; omega, fun x hx => ?_⟩) fun hd => ?_
    · rw [Int.toNat_natCast] at hx
      have hbl := (List.getElem?_eq_some_iff.1 hx).1
      refine cond_intro (fun he => h _ (.inl ⟨a, rfl, ?_⟩)) fun he => ?_
      · have : x = i := by simpa using he
        subst this
        exact List.mem_of_getElem? hx
      · rw [wrap_in (by omega) (by omega)]
        refine ⟨(kidsZ l a).length - (b + 1), by omega, b + 1, by omega, by omega, rfl, ?_⟩
        rw [List.take_add_one, hx]
        simp only [Option.toList_some, List.mem_append, List.mem_singleton, not_or]
        exact ⟨hnb, fun e => by rw [e] at he; simp at he⟩
    · rw [List.take_of_length_le (by simp at hd; omega)] at hnb
      rw [wrap_in (by omega) (by omega)]
      refine ⟨l.length - (a + 1), by omega, a + 1, by omega, by omega, rfl, fun c hc => ?_⟩
      by_cases hca : c = a
      · rw [hca]; exact hnb
      · exact hno c (by omega)
  · refine h _ (.inr ⟨rfl, fun k hk => ?_⟩)
    by_cases hka : k < a
    · exact hno k hka hk
    · obtain ⟨j, b, rfl, hq⟩ := kidsZ_mem.1 hk
      have h1 := hq.ahead
      have h2 := hq.2.2.2
      have h3 := hq.1
      rw [ks_len] at h2 h3
      simp at hc; omega

/-- alike, but for the places -/
def alike (x y : GNode) : Bool := (x.op == y.op) && (x.name == y.name) && (x.n == y.n) && (x.kids == y.kids)
def sameL : List GNode → List GNode → Bool
  | [], [] => true
  | x :: a, y :: b => alike x y && sameL a b
  | _, _ => false
theorem sameL_len : ∀ (a b : List GNode), a.length ≠ b.length → sameL a b = false
  | [], [], h => absurd rfl h
  | [], _ :: _, _ => rfl
  | _ :: _, [], _ => rfl
  | x :: a, y :: b, h => by rw [sameL, sameL_len a b (by simpa using h), Bool.and_false]
theorem sameL_drop {a b : List GNode} {k : Nat} {x y : GNode} (hx : a[k]? = some x) (hy : b[k]? = some y) : sameL (a.drop k) (b.drop k) = (alike x y && sameL (a.drop (k + 1)) (b.drop (k + 1))) := by
  obtain ⟨h1, rfl⟩ := List.getElem?_eq_some_iff.1 hx
  obtain ⟨h2, rfl⟩ := List.getElem?_eq_some_iff.1 hy
  rw [List.drop_eq_getElem_cons h1, List.drop_eq_getElem_cons h2, sameL]
theorem same_v (a b : List GNode) (ha : a.length ≤ 100000) (K : Bool → Prop) (h : K (sameL a b)) : V_tree_Same a b K := by
  refine tree_Same_lift _ _ _ (slices_EqualFunc_Slapi_Node_Slapi_Node_api_Node_api_Node_tree_Same_1_lift _ _ _ (cond_intro (fun hc => ?_) fun hc => ?_))
  · rw [sameL_len a b (by simp at hc; omega)] at h
    exact h
  · have hab : a.length = b.length := by simp at hc; omega
    refine ⟨fun x n => ∃ k : Nat, x = k ∧ k ≤ a.length ∧ n = a.length - k ∧ sameL a b = sameL (a.drop k) (b.drop k), ⟨_, 0, rfl, by omega, rfl, by simp⟩, ?_⟩
    rintro _ _ ⟨k, rfl, hk, rfl, he⟩
    refine cond_intro (fun hd => ⟨by simp at hd; omega, fun x1 hx1 => ⟨by simp at hd; omega, fun x2 hx2 => ?_⟩⟩) fun hd => ?_
    · rw [Int.toNat_natCast] at hx1 hx2
      have hkl := (List.getElem?_eq_some_iff.1 hx1).1
      rw [sameL_drop hx1 hx2] at he
      refine tree_Same_1_lift _ _ _ (cond_intro (fun hq => ?_) fun hq => ?_)
      · have : alike x1 x2 = false := by
          simp at hq
          unfold alike
          rw [Bool.eq_false_iff]
          intro hh
          simp at hh
          simp [hh] at hq
        rw [he, this, Bool.false_and] at h
        exact h
      · have : alike x1 x2 = true := by
          simp at hq
          unfold alike
          simp [hq]
        rw [this, Bool.true_and] at he
        rw [wrap_in (by omega) (by omega)]
        exact ⟨a.length - (k + 1), by omega, k + 1, by omega, by omega, rfl, he⟩
    · rw [he, List.drop_of_length_le (by simp at hd; omega), List.drop_of_length_le (by simp at hd; omega)] at h
      exact h
theorem rsame_v (a b : List GNode) (ha : a.length ≤ 100000) (K : Bool → Prop) (h : K (sameL a b)) : V_R09_Same a b K := by
  refine R09_Same_lift _ _ _ (cond_intro (fun hc => ?_) fun hc => ?_)
  · rw [sameL_len a b (by simp at hc; omega)] at h
    exact h
  · have hab : a.length = b.length := by simp at hc; omega
    refine ⟨fun x n => ∃ k : Nat, x = k ∧ k ≤ a.length ∧ n = a.length - k ∧ sameL a b = sameL (a.drop k) (b.drop k), ⟨_, 0, rfl, by omega, rfl, by simp⟩, ?_⟩
    rintro _ _ ⟨k, rfl, hk, rfl, he⟩
    refine cond_intro (fun hd => ?_) fun hd => ?_
    · have hkl : k < a.length := by simp at hd; omega
      have ga := List.getElem?_eq_getElem hkl
      have gb := List.getElem?_eq_getElem (l := b) (i := k) (by omega)
      rw [sameL_drop ga gb] at he
      have r1 : (0 : Int) ≤ k ∧ (k : Int) < a.length := by omega
      have r2 : (0 : Int) ≤ k ∧ (k : Int) < b.length := by omega
      refine ⟨fun bb => bb = !alike a[k] (b[k]'(by omega)), ⟨r1, fun x1 h1 => ⟨r2, fun x2 h2 => ?_⟩⟩, ?_⟩
      · rw [Int.toNat_natCast] at h1 h2
        rw [ga] at h1; rw [gb] at h2; cases h1; cases h2
        refine cond_intro (fun hq => ?_) fun hq => ⟨r1, fun x3 h3 => ⟨r2, fun x4 h4 => ?_⟩⟩
        · simp at hq; simp [alike, hq]
        · rw [Int.toNat_natCast] at h3 h4
          rw [ga] at h3; rw [gb] at h4; cases h3; cases h4
          refine cond_intro (fun hq2 => ?_) fun hq2 => ⟨r1, fun x3 h3 => ⟨r2, fun x4 h4 => ?_⟩⟩
          · simp at hq2; simp [alike, hq2]
          · rw [Int.toNat_natCast] at h3 h4
            rw [ga] at h3; rw [gb] at h4; cases h3; cases h4
            refine cond_intro (fun hq3 => ?_) fun hq3 => ⟨r1, fun x3 h3 => ⟨r2, fun x4 h4 => ?_⟩⟩
            · simp at hq3; simp [alike, hq3]
            · rw [Int.toNat_natCast] at h3 h4
              rw [ga] at h3; rw [gb] at h4; cases h3; cases h4
              simp at hq hq2 hq3
              simp [alike, hq, hq2, hq3, bne]
      · rintro _ rfl
        refine cond_intro (fun hq => ?_) fun hq => ?_
        · simp at hq
          rw [he, hq, Bool.false_and] at h
          exact h
        · simp at hq
          rw [hq, Bool.true_and] at he
          rw [wrap_in (by omega) (by omega)]
          exact ⟨a.length - (k + 1), by omega, k + 1, by omega, by omega, rfl, he⟩
    · rw [he, List.drop_of_length_le (by simp at hd; omega), List.drop_of_length_le (by simp at hd; omega)] at h
      exact h
end Go.Proofs.Ytcbpdageojenjaa
