/- The reference's Name; the law TokenNames. -/
import Derived.Test.YtahppcghgmhkiaaTokI
namespace Go.Proofs.Ytahppcghgmhkiaa
open Go.Vc Go.Tk

def okAt (s : List UInt8) (k : Nat) : Bool := letC (s.getD k 0) || (decide (k ≠ 0) && digC (s.getD k 0))
theorem nameS_of (s : List UInt8) : nameS s = (decide (s.length ≤ 16) && (decide (s ≠ []) && (decide (∀ k, k < s.length → okAt s k = true) && !decide (s ∈ words)))) := by
  cases s with
  | nil => rfl
  | cons c l =>
    rw [nameS_cons]
    have hall : (letC c && (c :: l).all wordC) = decide (∀ k, k < (c :: l).length → okAt (c :: l) k = true) := by
      rw [Bool.eq_iff_iff]
      simp only [Bool.and_eq_true, decide_eq_true_iff, List.all_eq_true]
      constructor
      · rintro ⟨h0, h1⟩ k hk
        cases k with
        | zero => simp [okAt, h0]
        | succ k =>
          have : wordC ((c :: l)[k+1]) = true := h1 _ (List.getElem_mem hk)
          rw [← getD_eq _ _ hk] at this
          simpa [okAt, wordC, wordN, letC, digC] using this
      · intro h
        refine ⟨by simpa [okAt] using h 0 (by simp), fun x hx => ?_⟩
        obtain ⟨k, hk, rfl⟩ := List.getElem_of_mem hx
        have := h k hk
        rw [← getD_eq _ _ hk]
        simp only [okAt, Bool.or_eq_true, Bool.and_eq_true] at this
        simp only [wordC, wordN, Bool.or_eq_true]
        rcases this with h | ⟨_, h⟩
        · exact .inl h
        · exact .inr h
    rw [← hall]
    simp [Bool.and_assoc]

theorem rName_spec (s : List UInt8) (hs : s.length < 2 ^ 40) (w : World) : Calls Try.prog 36 #[.string (mkS s)] w (Ret fun v w' => v = .bool (nameS s) ∧ Ext w w') := by
  refine R08_Name_ok _ _ _ ?_
  refine ⟨fun i w' => ∃ k : Nat, i = k ∧ k ≤ s.length ∧ (∀ j, j < k → okAt s j = true) ∧ w = w', fun i _ => s.length - i.toNat, ⟨0, rfl, Nat.zero_le _, fun _ h => absurd h (by omega), rfl⟩, ?_⟩
  rintro _ _ _ ⟨k, rfl, hk, hall, rfl⟩
  refine cond_intro (fun hlt => ?_) fun hge => ?_
  · have hlt : k < s.length := by simpa using hlt
    refine ⟨fun x w4 => x = (!okAt s k) ∧ w = w4, ⟨⟨by omega, by omega⟩, ?_⟩, ?_⟩
    · rw [Int.toNat_natCast]
      refine call_then (rLetter_spec _ (UInt8.toNat_lt _) w) ?_
      rintro _ _ ⟨rfl, rfl⟩
      refine ⟨_, rfl, cond_intro (fun h1 => ?_) fun h1 => ?_⟩
      · have h1 : letC (s.getD k 0) = false := by simpa [letC] using h1
        refine cond_intro (fun h0 => ?_) fun h0 => ?_
        · have : k = 0 := by simp at h0; omega
          subst this
          exact ⟨by unfold okAt; rw [h1]; simp, rfl⟩
        · have h0 : k ≠ 0 := by simp at h0; omega
          refine ⟨⟨by omega, by omega⟩, call_then (rDigit_spec _ w) ?_⟩
          rintro _ _ ⟨rfl, rfl⟩
          exact ⟨_, rfl, by unfold okAt; rw [h1]; simp [h0, digC], rfl⟩
      · have h1 : letC (s.getD k 0) = true := by simpa [letC] using h1
        exact ⟨by unfold okAt; rw [h1]; simp, rfl⟩
    · rintro _ _ _ ⟨rfl, rfl⟩
      refine cond_intro (fun hb => ?_) fun hb => ?_
      · have hb : okAt s k = false := by simpa using hb
        refine ⟨?_, Ext.refl _⟩
        rw [nameS_of, decide_eq_false (p := ∀ k, k < s.length → okAt s k = true) (fun h => by have := h k hlt; rw [hb] at this; cases this)]
        simp
      · have hb : okAt s k = true := by simpa using hb
        rw [wrap_in (by omega) (by omega)]
        refine ⟨⟨k + 1, by omega, hlt, fun j hj => ?_, rfl⟩, by dsimp only; omega⟩
        rcases Nat.lt_or_ge j k with h | h
        · exact hall j h
        · rw [show j = k by omega]; exact hb
  · have hge : k = s.length := by simp at hge; omega
    subst hge
    refine cond_intro (fun h1 => ?_) fun h1 => ?_
    · have h1 : s ≠ [] := by intro e; subst e; simp at h1
      refine cond_intro (fun h2 => ?_) fun h2 => ?_
      · have h2 : s.length ≤ 16 := by simp at h2; omega
        refine call_then (rWords_spec w) ?_
        rintro _ w2 ⟨b, rfl, hc, he⟩
        refine ⟨_, _, _, rfl, call_then (rIn_spec wordsR (by decide) _ _ s w2 hc) ?_⟩
        rintro _ _ ⟨rfl, rfl⟩
        refine ⟨_, rfl, ?_, he⟩
        rw [nameS_of, wordsR_iff, decide_eq_true h2, decide_eq_true h1, decide_eq_true hall]
        simp
      · have h2 : ¬ s.length ≤ 16 := by simp at h2; omega
        exact ⟨by rw [nameS_of, decide_eq_false h2]; simp, Ext.refl _⟩
    · have h1 : s = [] := by simp at h1; exact List.length_eq_zero_iff.1 (by omega)
      subst h1
      exact ⟨rfl, Ext.refl _⟩

theorem TokenNames_spec (s : List UInt8) (w : World) : Calls Try.prog 10 #[.string (mkS s)] w (Ret fun v w' => v = .bool true ∧ Ext w w') := by
  refine L08_TokenNames_ok _ _ _ ?_
  refine cond_intro (fun hx => ?_) fun hx => ?_
  · refine call_then (live8_spec w) ?_
    rintro _ w1 ⟨rfl, he⟩
    exact ⟨_, rfl, rfl, he⟩
  · have hs : s.length ≤ 1000 := by simp at hx; omega
    refine call_then (Word_spec s w) ?_
    rintro _ w2 ⟨rfl, he2⟩
    refine ⟨_, rfl, call_then (rWords_spec w2) ?_⟩
    rintro _ w3 ⟨b, rfl, hc, he3⟩
    refine ⟨_, _, _, rfl, call_then (rIn_spec wordsR (by decide) _ _ s w3 hc) ?_⟩
    rintro _ _ ⟨rfl, rfl⟩
    refine ⟨_, rfl, cond_t (by rw [wordsR_iff]; simp) (call_then (Name_spec s _) ?_)⟩
    rintro _ w4 ⟨rfl, he4⟩
    refine ⟨_, rfl, call_then (rName_spec s (by omega) _) ?_⟩
    rintro _ w5 ⟨rfl, he5⟩
    refine ⟨_, rfl, cond_t (by simp) (call_then (live8_spec _) ?_)⟩
    rintro _ w6 ⟨rfl, he6⟩
    exact ⟨_, rfl, rfl, (((he2.trans he3).trans he4).trans he5).trans he6⟩
end Go.Proofs.Ytahppcghgmhkiaa
