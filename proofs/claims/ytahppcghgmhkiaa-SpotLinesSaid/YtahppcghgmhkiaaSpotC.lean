/- The laws of spot. -/
import Derived.Test.YtahppcghgmhkiaaSpotB
namespace Go.Proofs.Ytahppcghgmhkiaa
open Go.Vc Go.Lv Go.Ty Go.Sp

def lensum : List (List UInt8) → Int
  | [] => 0
  | x :: r => x.length + 1 + lensum r
theorem lensum_nn : ∀ l, 0 ≤ lensum l
  | [] => by simp [lensum]
  | x :: r => by have := lensum_nn r; rw [lensum]; omega
theorem lensum_lns : ∀ (s : List UInt8), lensum (lns s) = s.length + 1
  | [] => by simp [lns, lensum]
  | c :: l => by
    have ih := lensum_lns l
    by_cases hc : c = 10
    · subst hc
      rw [lns_nl, lensum, ih]; simp; omega
    · obtain ⟨x, r, hx⟩ := lns_ne l
      rw [lns_other hc hx, lensum]
      rw [hx, lensum] at ih
      simp only [List.length_cons]; omega
/-- At, line by line -/
theorem at_v (s : List UInt8) (line col : Int) (hs : s.length < 4611686018427387904) (K : Int → Bool → Prop) (h1 : ∀ a, atL (lns s) line col 0 = some a → K a true) (h2 : atL (lns s) line col 0 = none → K 0 false) : V_spot_At s line col K := by
  refine spot_At_lift _ _ _ _ (spot_Each_lift _ _ ⟨enumF 1 (lns s), each_it s hs, ?_⟩)
  refine ⟨fun pre off _ _ => ∃ (k : Nat) (post : List (List UInt8)), pre ++ enumF (k + 1) post = enumF 1 (lns s) ∧ atL (lns s) line col 0 = atL post (line - k) col off ∧ 0 ≤ off ∧ off + lensum post ≤ s.length + 1, ⟨0, lns s, by simp, by simp, by omega, by have := lensum_lns s; omega⟩, ?_, ?_⟩
  · rintro pre x x1 off _ _ hpre ⟨k, post, hp, ha, hoff, hsum⟩
    obtain ⟨t, ht⟩ := hpre
    rw [← hp, List.append_assoc] at ht
    have ht' := List.append_cancel_left ht
    cases post with
    | nil => simp [enumF] at ht'
    | cons y r =>
      simp only [enumF, List.cons_append, List.cons.injEq, Prod.mk.injEq] at ht'
      obtain ⟨⟨rfl, rfl⟩, ht''⟩ := ht'
      have hls : lensum (x1 :: r) = x1.length + 1 + lensum r := rfl
      rw [hls] at hsum
      have hnn := lensum_nn r
      have w1 : IntKind.i64.wrap ((x1.length : Int) + 1) = (x1.length : Int) + 1 := wrap_in (by omega) (by omega)
      rw [w1]
      refine cond_intro (fun hc => ?_) fun hc => ?_
      · have hl : (k : Int) + 1 = line := eq_of_beq hc
        rw [atL, if_pos (by omega)] at ha
        refine ⟨fun b => b = !(decide (1 ≤ col ∧ col ≤ x1.length + 1)), cond_intro (fun hd => ?_) (fun hd => ?_), ?_⟩
        · simp at hd; simp; omega
        · simp at hd; show _ = _; rw [Bool.eq_iff_iff]; simp; omega
        · rintro _ rfl
          by_cases hcol : 1 ≤ col ∧ col ≤ x1.length + 1
          · rw [if_pos hcol] at ha
            refine cond_f (by simp; omega) ?_
            rw [wrap_in (n := off + col) (by omega) (by omega), wrap_in (by omega) (by omega)]
            exact h1 _ ha
          · rw [if_neg hcol] at ha
            exact cond_t (by simp; omega) (h2 ha)
      · have hl : ¬ (k : Int) + 1 = line := fun h => by rw [h] at hc; simp at hc
        rw [atL, if_neg (by omega)] at ha
        rw [wrap_in (by omega) (by omega)]
        exact ⟨k + 1, r, by rw [← hp, List.append_assoc]; rfl, by rw [ha]; congr 1; omega, by omega, by omega⟩
  · rintro off _ _ ⟨k, post, hp, ha, _⟩
    cases post with
    | nil => exact h2 (by rw [ha]; rfl)
    | cons y r =>
      have := congrArg List.length hp
      simp [enumF] at this
theorem SpotOf_v (s : List UInt8) (i : Int) (K : Bool → Prop) (h : K true) : V_L07_SpotOf s i K := by
  refine L07_SpotOf_lift _ _ _ (cond_intro (fun _ => live_v _ h) fun hc => ?_)
  have hs : s.length < 4611686018427387904 := by simp at hc; omega
  exact of_v s i hs _ (rof_v s i hs _ (cond_t (by simp) (live_v _ h)))
theorem SpotBack_v (s : List UInt8) (i : Int) (K : Bool → Prop) (h : K true) : V_L07_SpotBack s i K := by
  refine L07_SpotBack_lift _ _ _ (cond_intro (fun _ => live_v _ h) fun hc => ?_)
  have hb : ¬ 600 < (s.length : Int) ∧ ¬ i < 0 ∧ ¬ (s.length : Int) < i := by simpa using hc
  have hs : s.length < 4611686018427387904 := by omega
  obtain ⟨j, rfl⟩ : ∃ j : Nat, i = j := ⟨i.toNat, by omega⟩
  have hj : j ≤ s.length := by omega
  refine of_v s j hs _ ?_
  rw [clamp_nat s j hj]
  have hat := at_place s j hj
  rw [place_of s j hj] at hat
  refine at_v s _ _ hs _ (fun a ha => ?_) fun hn => by rw [hat] at hn; cases hn
  rw [hat] at ha
  cases ha
  have hp := of_pos (s.take j)
  refine cond_t (by simp) (cond_t (b := true) rfl (cond_t (by simp; omega) (lines_v s hs _ (cond_t ?_ (live_v _ h)))))
  rw [of_count]
  have : (s.take j).count 10 ≤ s.count 10 := (List.take_sublist j s).count_le 10
  simp; omega
theorem SpotAt_v (s : List UInt8) (line col : Int) (K : Bool → Prop) (h : K true) : V_L07_SpotAt s line col K := by
  refine L07_SpotAt_lift _ _ _ _ (cond_intro (fun _ => live_v _ h) fun hc => ?_)
  have hs6 : s.length ≤ 600 := by simp at hc; omega
  have hs : s.length < 4611686018427387904 := by omega
  have rest : ∀ (r : Int) (r1 : Bool), (∀ j : Nat, j ≤ s.length → ofF (s.take j) = (line, col) → r = j ∧ r1 = true) → ((∀ j : Nat, j ≤ s.length → ofF (s.take j) ≠ (line, col)) → r = 0 ∧ r1 = false) →
    ∃ (I : Int → Nat → Prop), (∃ n, I 0 n) ∧
      ∀ (i : Int) (n : Nat), I i n →
      cond (decide (i ≤ (s.length : Int)))
        (V_R07_Of s i (fun x1 =>
          cond (((x1.x0 == line) && (x1.x1 == col)))
            (cond (r == i)
              (cond (r1)
                (V_L07_live  (fun x2 =>
                  K x2))
                (K false))
              (K false))
            (∃ n1, n1 < n ∧ I (IntKind.i64.wrap (i + 1)) n1)))
        (cond (r == 0)
          (cond (!r1)
            (V_L07_live  (fun x3 =>
              K x3))
            (K false))
          (K false)) := by
    intro r r1 hy hn
    refine ⟨fun i n => ∃ j : Nat, i = j ∧ j ≤ s.length + 1 ∧ n = s.length + 1 - j ∧ ∀ q, q < j → ofF (s.take q) ≠ (line, col), ⟨_, 0, rfl, by omega, rfl, by omega⟩, ?_⟩
    rintro _ _ ⟨j, rfl, hj, rfl, hq⟩
    refine cond_intro (fun hd => ?_) fun hd => ?_
    · have hjl : j ≤ s.length := by simp at hd; omega
      refine rof_v s j hs _ ?_
      rw [clamp_nat s j hjl]
      refine cond_intro (fun he => ?_) fun he => ?_
      · have he' : ofF (s.take j) = (line, col) := by
          simp at he
          exact Prod.ext he.1 he.2
        obtain ⟨rfl, rfl⟩ := hy j hjl he'
        exact cond_t (by simp) (cond_t (b := true) rfl (live_v _ h))
      · refine ⟨s.length + 1 - (j + 1), by omega, j + 1, by rw [wrap_in (by omega) (by omega)]; omega, by omega, rfl, fun q hql => ?_⟩
        by_cases hqj : q = j
        · subst hqj
          intro h'
          rw [h'] at he
          simp at he
        · exact hq q (by omega)
    · have hjl : j = s.length + 1 := by simp at hd; omega
      obtain ⟨rfl, rfl⟩ := hn fun q hql => hq q (by omega)
      exact cond_t (by simp) (cond_t rfl (live_v _ h))
  refine at_v s line col hs _ (fun a ha => rest a true (fun j hj he => ?_) fun hno => ?_) fun hn => rest 0 false (fun j hj he => ?_) fun _ => ⟨rfl, rfl⟩
  · have := at_place s j hj
    rw [place_of s j hj, he, ha] at this
    exact ⟨Option.some.inj this, rfl⟩
  · by_cases hl : 1 ≤ line
    · obtain ⟨j, _, hj, hp⟩ := place_at s line col a hl ha
      rw [place_of s j hj] at hp
      exact absurd hp (hno j hj)
    · rw [atL_low _ _ _ _ (by omega)] at ha; cases ha
  · have := at_place s j hj
    rw [place_of s j hj, he, hn] at this
    cases this
theorem SpotOf_spec (s : List UInt8) (i : Int) (w : World) : Calls Try.prog 7 #[.string (mkS s), .int .i64 i] w (Ret fun v w' => v = .bool true ∧ Ext w w') := by
  refine call_then (SpotOf_v s i (· = true) rfl [] w nofun) ?_
  rintro _ _ ⟨_, rfl, rfl, k⟩
  exact ⟨rfl, k.ext⟩
theorem SpotBack_spec (s : List UInt8) (i : Int) (w : World) : Calls Try.prog 14 #[.string (mkS s), .int .i64 i] w (Ret fun v w' => v = .bool true ∧ Ext w w') := by
  refine call_then (SpotBack_v s i (· = true) rfl [] w nofun) ?_
  rintro _ _ ⟨_, rfl, rfl, k⟩
  exact ⟨rfl, k.ext⟩
theorem SpotAt_spec (s : List UInt8) (i j : Int) (w : World) : Calls Try.prog 13 #[.string (mkS s), .int .i64 i, .int .i64 j] w (Ret fun v w' => v = .bool true ∧ Ext w w') := by
  refine call_then (SpotAt_v s i j (· = true) rfl [] w nofun) ?_
  rintro _ _ ⟨_, rfl, rfl, k⟩
  exact ⟨rfl, k.ext⟩
end Go.Proofs.Ytahppcghgmhkiaa
