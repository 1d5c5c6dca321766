/- The laws of cover. -/
import Derived.Test.YtcbpdageojenjaaCovB
namespace Go.Proofs.Ytcbpdageojenjaa
open Go.Vc Go.Lv Go.Ty

theorem countL_getD (N : Nat) (l : List GHappen) (i : Nat) (h : i < N) : (countL N l).getD i 0 = (timesF l i : Int) := by
  rw [List.getD_eq_getElem?_getD, countL_get N l i h]; rfl
def hotL (c : GCode) (l : List GHappen) : List Int := whereF (fun n => decide (n > 0)) (countL (stF c) l) 0
theorem hotL_mem (c : GCode) (l : List GHappen) (y : Int) : y ∈ hotL c l ↔ ∃ i : Nat, y = (i : Int) ∧ i < stF c ∧ 0 < timesF l i := by
  unfold hotL
  rw [whereF_mem]
  constructor
  · rintro ⟨i, hy, x, hx, hp⟩
    have hlt := (List.getElem?_eq_some_iff.1 hx).1
    rw [countL_len] at hlt
    rw [countL_get _ _ _ hlt] at hx
    cases hx
    exact ⟨i, by simpa using hy, hlt, by simpa using hp⟩
  · rintro ⟨i, rfl, hlt, hp⟩
    exact ⟨i, by simp, _, countL_get _ _ _ hlt, by simpa using hp⟩
theorem nodup_of_sorted {l : List Int} (h : l.Pairwise (· < ·)) : l.Nodup := h.imp fun h e => by omega
/-- in order, oftenest first -/
def Hotly (c : GCode) (l : List GHappen) (s : List Int) : Prop := s.Perm (hotL c l) ∧ s.Pairwise fun a b => ltH (countL (stF c) l) a.toNat b.toNat
theorem Hotly.mem {c : GCode} {l : List GHappen} {s : List Int} (h : Hotly c l s) (y : Int) : y ∈ s ↔ ∃ i : Nat, y = (i : Int) ∧ i < stF c ∧ 0 < timesF l i := by
  rw [h.1.mem_iff, hotL_mem]
theorem Hotly.len {c : GCode} {l : List GHappen} {s : List Int} (h : Hotly c l s) : s.length ≤ stF c := by
  rw [h.1.length_eq]
  have := whereF_len (fun n => decide (n > 0)) (countL (stF c) l) 0
  rwa [countL_len] at this
theorem hot_v (c : GCode) (l : List GHappen) (n : Int) (hl : l.length < 1000000) (K : List Int → Prop) (h : ∀ s, Hotly c l s → K (s.take n.toNat)) : V_cover_Hot c l n K := by
  have hst := stF_le c
  have hcl := countL_len (stF c) l
  refine cover_Hot_lift _ _ _ _ (count_v c l hl _ (hotw_v _ (by rw [hcl]; omega) _ (sort_v _ _ (fun x hx => ?_) ?_ _ fun l1 hp hs => ?_)))
  · obtain ⟨i, rfl, hi, _⟩ := (hotL_mem c l x).1 hx
    rw [hcl]; omega
  · have := whereF_len (fun n => decide (n > 0)) (countL (stF c) l) 0
    rw [hcl] at this; omega
  · have hnd : l1.Nodup := hp.nodup_iff.2 (nodup_of_sorted (whereF_sorted _ _ _))
    have hot : Hotly c l l1 := by
      refine ⟨hp, ?_⟩
      have hnn : ∀ x ∈ l1, 0 ≤ x := fun x hx => by
        obtain ⟨i, rfl, _⟩ := (hotL_mem c l x).1 (hp.mem_iff.1 hx)
        omega
      refine List.Pairwise.imp_of_mem (R := fun a b => a ≠ b ∧ ¬ ltH (countL (stF c) l) b.toNat a.toNat) (fun {a b} ha hb hab => ?_) (hnd.and hs)
      have h1 := hnn a ha
      have h2 := hnn b hb
      obtain ⟨h3, h4⟩ := hab
      unfold ltH at h4 ⊢
      omega
    have hlen := hp.length_eq
    generalize hL : whereF (fun n => decide (n > 0)) (countL (stF c) l) 0 = L at hlen
    refine ⟨by split <;> split <;> omega, ?_⟩
    have := h l1 hot
    have e : l1.take (if (L.length : Int) < (if 0 > n then 0 else n) then (L.length : Int) else (if 0 > n then 0 else n)).toNat = l1.take n.toNat := by
      by_cases h0 : 0 > n
      · rw [if_pos h0, if_neg (by omega), show n.toNat = 0 by omega]; rfl
      · rw [if_neg h0]
        by_cases h1 : (L.length : Int) < n
        · rw [if_pos h1, Int.toNat_natCast, List.take_of_length_le (by omega), List.take_of_length_le (by omega)]
        · rw [if_neg h1]
    rw [e]; exact this
theorem rhot_v (c : GCode) (l : List GHappen) (n : Int) (hl : l.length < 1000000) (s : List Int) (hs : Hotly c l s) (K : List Int → Prop) (h : K (s.take n.toNat)) : V_R43_Hot c l n K := by
  have hst := stF_le c
  have hsl := hs.len
  refine R43_Hot_lift _ _ _ _ (rstmts_v c _ ⟨⟨by omega, by omega⟩, ?_⟩)
  rw [Int.toNat_natCast]
  refine ⟨fun out l1 n1 => ∃ k : Nat, k ≤ s.length ∧ k ≤ n.toNat ∧ out = s.take k ∧ l1.length = stF c ∧ (∀ i, i < stF c → l1[i]? = some (decide ((i : Int) ∈ s.take k))) ∧ n1 = s.length - k, ⟨_, 0, by omega, by omega, by simp, by simp, fun i hi => by simp [hi], rfl⟩, ?_⟩
  rintro _ l1 _ ⟨k, hks, hkn, rfl, hl1, htk, rfl⟩
  have hol : (s.take k).length = k := by rw [List.length_take]; omega
  rw [hol]
  refine cond_intro (fun hc => ?_) fun hc => ?_
  · have hkn' : (k : Int) < n := by simpa using hc
    refine ⟨fun best i n2 => ∃ a : Nat, i = a ∧ a ≤ stF c ∧ n2 = stF c - a ∧ ((best = -1 ∧ ∀ j : Nat, j < a → (j : Int) ∈ s → (j : Int) ∈ s.take k) ∨ ∃ b : Nat, best = b ∧ b < a ∧ (b : Int) ∈ s ∧ (b : Int) ∉ s.take k ∧ ∀ j : Nat, j < a → (j : Int) ∈ s → (j : Int) ∉ s.take k → j ≠ b → ltH (countL (stF c) l) b j), ⟨_, 0, rfl, by omega, rfl, .inl ⟨rfl, by omega⟩⟩, ?_⟩
    rintro best _ _ ⟨a, rfl, ha, rfl, hbest⟩
    refine rstmts_v c _ (cond_intro (fun hd => ?_) fun hd => ?_)
    · have hal : a < stF c := by simp at hd; omega
      have htl := times_le l a
      refine ⟨fun b1 => (b1 = -1 ∧ ∀ j : Nat, j < a + 1 → (j : Int) ∈ s → (j : Int) ∈ s.take k) ∨ ∃ b : Nat, b1 = b ∧ b < a + 1 ∧ (b : Int) ∈ s ∧ (b : Int) ∉ s.take k ∧ ∀ j : Nat, j < a + 1 → (j : Int) ∈ s → (j : Int) ∉ s.take k → j ≠ b → ltH (countL (stF c) l) b j, ⟨fun q => q = true ↔ ((a : Int) ∈ s ∧ (a : Int) ∉ s.take k ∧ (best < 0 ∨ (timesF l best : Int) < timesF l a)), ⟨by omega, fun x3 h3 => ?_⟩, ?_⟩, ?_⟩
      · rw [Int.toNat_natCast, htk a hal] at h3
        cases h3
        have hmem := hs.mem (a : Int)
        refine cond_intro (fun hq => ?_) fun hq => ?_
        · have hnt : (a : Int) ∉ s.take k := by simpa using hq
          refine rtimes_v l a hl _ (cond_intro (fun hp => ?_) fun hp => ?_)
          · have hp' : 0 < timesF l a := by simpa using hp
            have hin : (a : Int) ∈ s := hmem.2 ⟨a, rfl, hal, hp'⟩
            refine cond_intro (fun hb => ?_) fun hb => ?_
            · simp only [hin, hnt, not_false_eq_true, true_and, true_iff]
              exact .inl (by simpa using hb)
            · refine rtimes_v l a hl _ (rtimes_v l best hl _ ?_)
              show (decide _ = true) ↔ _
              have hb' : ¬ best < 0 := by simpa using hb
              simp [hin, hnt, hb']
          · have hp' : ¬ 0 < timesF l a := by simpa using hp
            have hni : (a : Int) ∉ s := fun hin => by
              obtain ⟨i, hi, _, h2⟩ := hmem.1 hin
              obtain rfl : a = i := by omega
              exact hp' h2
            simp [hni]
        · have hnt : (a : Int) ∈ s.take k := by simpa using hq
          simp [hnt]
      · intro q hq
        refine cond_intro (fun hqt => ?_) fun hqf => ?_
        · obtain ⟨h1, h2, h3⟩ := hq.1 hqt
          refine .inr ⟨a, rfl, by omega, h1, h2, fun j hj hjs hjn hja => ?_⟩
          rcases hbest with ⟨_, hno⟩ | ⟨b, rfl, hb, hbs, hbn, hmin⟩
          · exact absurd (hno j (by omega) hjs) hjn
          · have h3' : timesF l b < timesF l a := by
              rcases h3 with h3 | h3 <;> omega
            unfold ltH
            rw [countL_getD _ _ _ hal, countL_getD _ _ j (by omega)]
            by_cases hjb : j = b
            · subst hjb; left; omega
            · have := hmin j (by omega) hjs hjn hjb
              unfold ltH at this
              rw [countL_getD _ _ j (by omega), countL_getD _ _ b (by omega)] at this
              left; omega
        · have hq' : ¬ ((a : Int) ∈ s ∧ (a : Int) ∉ s.take k ∧ (best < 0 ∨ (timesF l best : Int) < timesF l a)) := fun h' => by rw [hq.2 h'] at hqf; cases hqf
          rcases hbest with ⟨rfl, hno⟩ | ⟨b, rfl, hb, hbs, hbn, hmin⟩
          · refine .inl ⟨rfl, fun j hj hjs => ?_⟩
            by_cases hja : j = a
            · subst hja
              by_cases hjt : (j : Int) ∈ s.take k
              · exact hjt
              · exact absurd ⟨hjs, hjt, .inl (by omega)⟩ hq'
            · exact hno j (by omega) hjs
          · refine .inr ⟨b, rfl, by omega, hbs, hbn, fun j hj hjs hjn hjb => ?_⟩
            by_cases hja : j = a
            · subst hja
              have : ¬ (timesF l b : Int) < timesF l j := fun h' => hq' ⟨hjs, hjn, .inr h'⟩
              unfold ltH
              rw [countL_getD _ _ j hal, countL_getD _ _ b (by omega)]
              omega
            · exact hmin j (by omega) hjs hjn hjb
      · intro b1 hb1
        exact ⟨stF c - (a + 1), by omega, a + 1, by rw [wrap_in (by omega) (by omega)]; omega, by omega, rfl, hb1⟩
    · have haa : a = stF c := by simp at hd; omega
      subst haa
      have hbound : ∀ j : Int, j ∈ s → ∃ i : Nat, j = i ∧ i < stF c := fun j hj => by
        obtain ⟨i, h1, h2, _⟩ := (hs.mem j).1 hj
        exact ⟨i, h1, h2⟩
      refine cond_intro (fun hb => ?_) fun hb => ?_
      · rcases hbest with ⟨_, hno⟩ | ⟨b, rfl, _⟩
        · have hks' : k = s.length := by
            rcases Nat.lt_or_ge k s.length with hlt | hge
            · exfalso
              obtain ⟨i, hi, hin⟩ := hbound s[k] (List.getElem_mem hlt)
              have hm := hno i hin (by rw [← hi]; exact List.getElem_mem hlt)
              rw [← hi] at hm
              have hnd : s.Nodup := hs.1.nodup_iff.2 (nodup_of_sorted (whereF_sorted _ _ _))
              obtain ⟨j, hj, hje⟩ := List.getElem_of_mem hm
              rw [List.getElem_take] at hje
              have hj' : j < k := by rw [hol] at hj; exact hj
              have := (List.getElem_inj hnd).1 hje
              omega
            · omega
          rw [hks', List.take_length]
          rw [List.take_of_length_le (by omega)] at h
          exact h
        · simp at hb; omega
      · rcases hbest with ⟨rfl, _⟩ | ⟨b, rfl, hbl, hbs, hbn, hmin⟩
        · simp at hb
        · refine ⟨by omega, fun x7 _ => ⟨by simp; omega, ?_⟩⟩
          have hlt : k < s.length := by
            rcases Nat.lt_or_ge k s.length with hlt | hge
            · exact hlt
            · rw [List.take_of_length_le hge] at hbn; exact absurd hbs hbn
          have hnd : s.Nodup := hs.1.nodup_iff.2 (nodup_of_sorted (whereF_sorted _ _ _))
          have hbk : s[k] = (b : Int) := by
            obtain ⟨j, hj, hje⟩ := List.getElem_of_mem hbs
            have hjk : k ≤ j := by
              rcases Nat.lt_or_ge j k with h' | h'
              · exfalso
                apply hbn
                rw [← hje]
                exact List.mem_take_iff_getElem.2 ⟨j, by omega, rfl⟩
              · exact h'
            by_cases hjeq : j = k
            · subst hjeq; exact hje
            · exfalso
              have hpw := List.pairwise_iff_getElem.1 hs.2 k j hlt hj (by omega)
              obtain ⟨i, hi, hin⟩ := hbound s[k] (List.getElem_mem hlt)
              have hnt : (i : Int) ∉ s.take k := fun hm => by
                rw [← hi] at hm
                obtain ⟨j', hj', hje'⟩ := List.getElem_of_mem hm
                rw [List.getElem_take] at hje'
                have h1 : j' < k := by rw [hol] at hj'; exact hj'
                have := (List.getElem_inj hnd).1 hje'
                omega
              have hib : i ≠ b := fun e => by
                have : s[k] = s[j] := by rw [hi, hje, e]
                exact hjeq ((List.getElem_inj hnd).1 this).symm
              have hmn := hmin i hin (by rw [← hi]; exact List.getElem_mem hlt) hnt hib
              rw [hi, hje, Int.toNat_natCast, Int.toNat_natCast] at hpw
              unfold ltH at hpw hmn
              omega
          have htk1 : s.take (k + 1) = s.take k ++ [(b : Int)] := by rw [take_snoc (List.getElem?_eq_getElem hlt), hbk]
          refine ⟨s.length - (k + 1), by omega, k + 1, by omega, by omega, htk1.symm, by simp [hl1], fun i hi => ?_, rfl⟩
          rw [Int.toNat_natCast, List.getElem?_set, htk1]
          by_cases hbi : b = i
          · subst hbi
            rw [if_pos rfl, if_pos (by omega)]; simp
          · rw [if_neg hbi, htk i hi]
            have : ¬ (i : Int) = (b : Int) := by omega
            simp [this]
  · have hkk : k = n.toNat := by simp at hc; omega
    rw [hkk]; exact h
theorem liveH (s : List Int) (h : Hotly ⟨[], [], [], 0, 3⟩ [⟨0, 0, 0, 0, 0⟩, ⟨0, 0, 2, 0, 0⟩, ⟨0, 0, 2, 0, 0⟩] s) : s = [2, 0] := by
  have e : hotL ⟨[], [], [], 0, 3⟩ [⟨0, 0, 0, 0, 0⟩, ⟨0, 0, 2, 0, 0⟩, ⟨0, 0, 2, 0, 0⟩] = [0, 2] := by decide +kernel
  obtain ⟨hp, hs⟩ := h
  rw [e] at hp
  have hl := hp.length_eq
  match s, hl with
  | [a, b], _ =>
    have ha := hp.mem_iff (a := a)
    have hb := hp.mem_iff (a := b)
    simp at ha hb
    have h0 := hp.mem_iff (a := 0)
    have h2 := hp.mem_iff (a := 2)
    simp at h0 h2
    have hlt := (List.pairwise_cons.1 hs).1 b (by simp)
    rcases ha with rfl | rfl <;> rcases hb with rfl | rfl
    · omega
    · exact absurd hlt (by unfold ltH; decide +kernel)
    · rfl
    · omega
theorem live_v (K : Bool → Prop) (h : K true) : V_L43_live K := by
  refine L43_live_lift _ ?_
  have e1 : countL (stF ⟨[], [], [], 0, 3⟩) [⟨0, 0, 0, 0, 0⟩, ⟨0, 0, 2, 0, 0⟩, ⟨0, 0, 2, 0, 0⟩] = [1, 0, 2] := by decide +kernel
  have e2 : missF ⟨[], [], [], 0, 3⟩ [⟨0, 0, 0, 0, 0⟩, ⟨0, 0, 2, 0, 0⟩, ⟨0, 0, 2, 0, 0⟩] = [1] := by decide +kernel
  have e3 : shareF ⟨[], [], [], 0, 3⟩ [⟨0, 0, 0, 0, 0⟩, ⟨0, 0, 2, 0, 0⟩, ⟨0, 0, 2, 0, 0⟩] = 66 := by decide +kernel
  refine count_v _ _ (by decide) _ (same_v _ _ (by rw [e1]; decide) _ (cond_t (by rw [e1]; rfl) (missed_v _ _ (by decide) _ (same_v _ _ (by rw [e2]; decide) _ (cond_t (by rw [e2]; rfl) (share_v _ _ (by decide) _ (cond_t (by rw [e3]; rfl) (hot_v _ _ _ (by decide) _ fun s hs => ?_))))))))
  rw [liveH s hs]
  exact same_v _ _ (by decide) _ h
theorem CoverHot_v (c : GCode) (l : List GHappen) (n : Int) (K : Bool → Prop) (h : K true) : V_L43_CoverHot c l n K := by
  refine L43_CoverHot_lift _ _ _ _ (large_v c l _ fun b hb => cond_intro (fun _ => live_v _ h) fun hc => ?_)
  obtain ⟨h1, h2⟩ := hb hc
  refine hot_v c l n (by omega) _ fun s hs => rhot_v c l _ (by omega) s hs _ ?_
  have hsl := hs.len
  have hst : stF c ≤ 60 := by unfold stF; split <;> split <;> omega
  have e : s.take (if 70 < n then 70 else n).toNat = s.take n.toNat := by
    split
    · rw [List.take_of_length_le (by omega), List.take_of_length_le (by omega)]
    · rfl
  rw [e]
  exact same_v _ _ (by rw [List.length_take]; omega) _ (cond_t (by simp) (live_v _ h))
theorem CoverCounts_v (c : GCode) (l : List GHappen) (K : Bool → Prop) (h : K true) : V_L43_CoverCounts c l K := by
  refine L43_CoverCounts_lift _ _ _ (large_v c l _ fun b hb => cond_intro (fun _ => live_v _ h) fun hc => ?_)
  obtain ⟨h1, h2⟩ := hb hc
  have hst := stF_le c
  refine count_v c l (by omega) _ ⟨fun want missed i n => ∃ a : Nat, i = a ∧ a ≤ stF c ∧ n = stF c - a ∧ want = countL a l ∧ missed = whereF (· == 0) (countL a l) 0, ⟨_, 0, rfl, by omega, rfl, rfl, rfl⟩, ?_⟩
  rintro _ _ _ _ ⟨a, rfl, ha, rfl, rfl, rfl⟩
  refine rstmts_v c _ (cond_intro (fun hd => ?_) fun hd => ?_)
  · have hal : a < stF c := by simp at hd; omega
    have hcs : countL (a + 1) l = countL a l ++ [(timesF l a : Int)] := by simp [countL, List.range_succ]
    have hwl := whereF_len (· == 0) (countL a l) 0
    rw [countL_len] at hwl
    refine ⟨fun w1 m1 => w1 = countL (a + 1) l ∧ m1 = whereF (· == 0) (countL (a + 1) l) 0, rtimes_v l a (by omega) _ ⟨by rw [countL_len]; simp; omega, rtimes_v l a (by omega) _ (cond_intro (fun hz => ⟨by rw [List.length_singleton]; omega, ?_⟩) fun hz => ?_)⟩, ?_⟩
    · rw [hcs, whereF_snoc, countL_len, if_pos hz, Nat.zero_add]
      exact ⟨rfl, rfl⟩
    · rw [hcs, whereF_snoc, if_neg (by rw [hz]; simp), List.append_nil]
      exact ⟨rfl, rfl⟩
    · rintro _ _ ⟨rfl, rfl⟩
      exact ⟨stF c - (a + 1), by omega, a + 1, by rw [wrap_in (by omega) (by omega)]; omega, by omega, rfl, rfl, rfl⟩
  · have haa : a = stF c := by simp at hd; omega
    subst haa
    refine ⟨fun sh => sh = shareF c l, cond_intro (fun hz => ⟨?_, ?_⟩) (fun hz => ?_), ?_⟩
    · simp at hz; omega
    · rw [countL_len] at hz ⊢
      have h0 : stF c ≠ 0 := by simp at hz; omega
      show _ = shareF c l
      unfold shareF
      rw [if_neg h0]; rfl
    · rw [countL_len] at hz
      have h0 : stF c = 0 := by simp at hz; omega
      show _ = shareF c l
      unfold shareF
      rw [if_pos h0]
    · rintro _ rfl
      refine same_v _ _ (by rw [countL_len]; omega) _ (cond_t (by simp) (missed_v c l (by omega) _ (same_v _ _ ?_ _ (cond_t (by simp [missF]) (share_v c l (by omega) _ (cond_t (by simp) (live_v _ h)))))))
      have := whereF_len (· == 0) (countL (stF c) l) 0
      rw [countL_len] at this
      unfold missF; omega
def sumK (k : Nat) (l : List (List Int)) (z : Int) : Int := l.foldl (fun s x => if k < x.length then IntKind.i64.wrap (s + x.getD k 0) else s) z
theorem merge_get (k : Nat) : ∀ (l : List (List Int)) (out : List Int), (l.foldl addW out).getD k 0 = sumK k l (out.getD k 0)
  | [], out => rfl
  | x :: l, out => by
    rw [List.foldl_cons, merge_get k l, addW_get]
    rfl
def longF (l : List (List Int)) (z : Nat) : Nat := l.foldl (fun s x => if x.length > s then x.length else s) z
theorem merge_length : ∀ (l : List (List Int)) (out : List Int), (l.foldl addW out).length = longF l out.length
  | [], out => rfl
  | x :: l, out => by
    rw [List.foldl_cons, merge_length l, addW_len]
    show longF l _ = longF l _
    congr 1
    show max out.length x.length = if x.length > out.length then x.length else out.length
    split <;> omega
theorem longF_le : ∀ (l : List (List Int)) (z b : Nat), (∀ x ∈ l, x.length ≤ b) → z ≤ b → longF l z ≤ b
  | [], z, b, _, h => h
  | x :: l, z, b, hx, h => longF_le l _ b (fun y hy => hx y (by simp [hy])) (by have := hx x (by simp); show (if x.length > z then x.length else z) ≤ b; split <;> omega)
theorem CoverMerges_v (c : GCode) (a b : List GHappen) (l : List (List Int)) (K : Bool → Prop) (h : K true) : V_L43_CoverMerges c a b l K := by
  refine L43_CoverMerges_lift _ _ _ _ _ ⟨fun q => q = false → (a.length ≤ 100 ∧ c.stmts ≤ 60) ∧ b.length ≤ 100 ∧ l.length ≤ 10, large_v c a _ fun x1 hx1 => cond_intro (fun _ => nofun) fun hc1 => large_v c b _ fun x2 hx2 => cond_intro (fun _ => nofun) fun hc2 hc3 => ⟨hx1 hc1, (hx2 hc2).1, by simp at hc3; omega⟩, ?_⟩
  intro q hq
  refine cond_intro (fun _ => live_v _ h) fun hc => ?_
  obtain ⟨⟨h1, h2⟩, h3, h4⟩ := hq hc
  have hst := stF_le c
  refine ⟨by omega, by omega, fun q => q = false, ?_, ?_⟩
  · refine count_v c a (by omega) _ (count_v c b (by omega) _ (merge_v _ (by simp) (fun x hx => ?_) _ (count_v c (a ++ b) (by rw [List.length_append]; omega) _ (same_v _ _ ?_ _ ?_))))
    · simp at hx
      rcases hx with rfl | rfl <;> rw [countL_len] <;> omega
    · have : (mergeF [countL (stF c) a, countL (stF c) b]).length ≤ 65536 := merge_len _ _ _ (fun x hx => by
        simp at hx
        rcases hx with rfl | rfl <;> rw [countL_len] <;> omega) (by simp)
      omega
    · have e : mergeF [countL (stF c) a, countL (stF c) b] = countL (stF c) (a ++ b) := by
        refine list_getD_ext ?_ fun i hi => ?_
        · show (addW (addW [] _) _).length = _
          simp [addW_len, countL_len]
        · have hi' : i < stF c := by
            have : (mergeF [countL (stF c) a, countL (stF c) b]).length = stF c := by
              show (addW (addW [] _) _).length = _
              simp [addW_len, countL_len]
            omega
          show (addW (addW [] _) _).getD i 0 = _
          rw [addW_get, addW_get, countL_len, countL_len, if_pos hi', if_pos hi', countL_getD _ _ _ hi', countL_getD _ _ _ hi', countL_getD _ _ _ hi']
          have ta := times_le a i
          have tb := times_le b i
          have e0 : ([] : List Int).getD i 0 = 0 := by simp
          have ea : timesF (a ++ b) i = timesF a i + timesF b i := by simp [timesF, List.countP_append]
          rw [e0, Int.zero_add, wrap_in (n := (timesF a i : Int)) (by omega) (by omega), wrap_in (by omega) (by omega), ea]
          omega
      rw [e]
      simp
  · rintro _ rfl
    refine cond_f rfl ?_
    refine ⟨fun long i n => ∃ k : Nat, i = k ∧ k ≤ l.length ∧ n = l.length - k ∧ long = longF (l.take k) 0 ∧ ∀ x ∈ l.take k, x.length ≤ 50, ⟨_, 0, rfl, by omega, rfl, by simp [longF], by simp⟩, ?_⟩
    rintro _ _ _ ⟨k, rfl, hk, rfl, rfl, hall⟩
    refine cond_intro (fun hd => ⟨by simp at hd; omega, fun x hx => cond_intro (fun _ => live_v _ h) fun he => ⟨by simp at hd; omega, fun y hy => ?_⟩⟩) fun hd => ?_
    · rw [Int.toNat_natCast] at hx hy
      rw [hx] at hy
      cases hy
      have hlt := (List.getElem?_eq_some_iff.1 hx).1
      refine ⟨l.length - (k + 1), by omega, k + 1, by rw [wrap_in (by omega) (by omega)]; omega, by omega, rfl, ?_, ?_⟩
      · rw [take_snoc hx]
        unfold longF
        rw [List.foldl_append]
        simp only [List.foldl_cons, List.foldl_nil]
        split <;> split <;> omega
      · intro z hz
        rw [take_snoc hx] at hz
        rcases List.mem_append.1 hz with hz | hz
        · exact hall z hz
        · rw [List.mem_singleton.1 hz]; simp at he; omega
    · have hkk : k = l.length := by simp at hd; omega
      subst hkk
      rw [List.take_length] at hall ⊢
      refine merge_v l (by omega) (fun x hx => by have := hall x hx; omega) _ ?_
      have hml : (mergeF l).length = longF l 0 := merge_length l []
      have hlb : longF l 0 ≤ 50 := longF_le l 0 50 hall (by omega)
      refine cond_f (by rw [hml]; simp) ?_
      refine ⟨fun k n => ∃ a : Nat, k = a ∧ a ≤ longF l 0 ∧ n = longF l 0 - a, ⟨_, 0, rfl, by omega, rfl⟩, ?_⟩
      rintro _ _ ⟨k, rfl, hk2, rfl⟩
      refine cond_intro (fun he => ?_) fun he => live_v _ h
      have hkl : k < longF l 0 := by simp at he; omega
      refine ⟨fun sum i n => ∃ a : Nat, i = a ∧ a ≤ l.length ∧ n = l.length - a ∧ sum = sumK k (l.take a) 0, ⟨_, 0, rfl, by omega, rfl, by simp [sumK]⟩, ?_⟩
      rintro _ _ _ ⟨i, rfl, hi, rfl, rfl⟩
      refine cond_intro (fun hf => ?_) fun hf => ⟨by omega, fun x hx => ?_⟩
      · have hil : i < l.length := by simp at hf; omega
        have hgx := List.getElem?_eq_getElem hil
        have hsn : sumK k (l.take (i + 1)) 0 = if k < l[i].length then IntKind.i64.wrap (sumK k (l.take i) 0 + l[i].getD k 0) else sumK k (l.take i) 0 := by
          rw [take_snoc hgx]
          unfold sumK
          rw [List.foldl_append]; rfl
        refine ⟨fun s => s = sumK k (l.take (i + 1)) 0, ⟨by omega, fun x hx => ?_⟩, ?_⟩
        · rw [Int.toNat_natCast, hgx] at hx
          cases hx
          refine cond_intro (fun hg => ⟨by omega, fun y hy => ?_⟩) fun hg => ?_
          · rw [Int.toNat_natCast, hgx] at hy
            cases hy
            have hkx : k < l[i].length := by simp at hg; omega
            refine ⟨by omega, fun z hz => ?_⟩
            rw [Int.toNat_natCast] at hz
            rw [hsn, if_pos hkx, List.getD_eq_getElem?_getD, hz]; rfl
          · have hkx : ¬ k < l[i].length := by simp at hg; omega
            rw [hsn, if_neg hkx]
        · rintro _ rfl
          exact ⟨l.length - (i + 1), by omega, i + 1, by rw [wrap_in (by omega) (by omega)]; omega, by omega, rfl, rfl⟩
      · have hii : i = l.length := by simp at hf; omega
        subst hii
        rw [Int.toNat_natCast] at hx
        have hg : (mergeF l).getD k 0 = sumK k l 0 := merge_get k l []
        rw [List.getD_eq_getElem?_getD, hx] at hg
        have hg' : x = sumK k l 0 := hg
        rw [List.take_length, hg']
        refine cond_f (by simp) ⟨longF l 0 - (k + 1), by omega, k + 1, by rw [wrap_in (by omega) (by omega)]; omega, by omega, rfl⟩
theorem CoverCounts_spec (c : GCode) (l : List GHappen) (cs : Array Value) (A : Option Addr) (C : Nat) (w : World) (hc : cGCode.rep [] w c cs.toList) (hl : l.length ≤ C) (h1 : SlR cGHappen [] w A l) :
    Calls Try.prog 8 #[.agg cs, .slice A l.length C] w (Ret fun v w' => v = .bool true ∧ Ext w w') := by
  refine call_then (CoverCounts_v c l (· = true) rfl [] w nofun cs.toList hc A C hl h1) ?_
  rintro _ _ ⟨_, rfl, rfl, k⟩
  exact ⟨rfl, k.ext⟩
theorem CoverHot_spec (c : GCode) (l : List GHappen) (n : Int) (cs : Array Value) (A : Option Addr) (C : Nat) (w : World) (hc : cGCode.rep [] w c cs.toList) (hl : l.length ≤ C) (h1 : SlR cGHappen [] w A l) :
    Calls Try.prog 9 #[.agg cs, .slice A l.length C, .int .i64 n] w (Ret fun v w' => v = .bool true ∧ Ext w w') := by
  refine call_then (CoverHot_v c l n (· = true) rfl [] w nofun cs.toList hc A C hl h1) ?_
  rintro _ _ ⟨_, rfl, rfl, k⟩
  exact ⟨rfl, k.ext⟩
theorem CoverMerges_spec (c : GCode) (a b : List GHappen) (l : List (List Int)) (cs : Array Value) (A B L : Option Addr) (AC BC LC : Nat) (w : World) (hc : cGCode.rep [] w c cs.toList) (ha : a.length ≤ AC) (h1 : SlR cGHappen [] w A a) (hb : b.length ≤ BC) (h2 : SlR cGHappen [] w B b) (hl : l.length ≤ LC) (h3 : SlR (cSl (cInt .i64)) [] w L l) :
    Calls Try.prog 10 #[.agg cs, .slice A a.length AC, .slice B b.length BC, .slice L l.length LC] w (Ret fun v w' => v = .bool true ∧ Ext w w') := by
  refine call_then (CoverMerges_v c a b l (· = true) rfl [] w nofun cs.toList hc A AC ha h1 B BC hb h2 L LC hl h3) ?_
  rintro _ _ ⟨_, rfl, rfl, k⟩
  exact ⟨rfl, k.ext⟩
end Go.Proofs.Ytcbpdageojenjaa
