/- Contract of token.Next. -/
import Derived.Test.YtahppcghgmhkiaaTokD
namespace Go.Proofs.Ytahppcghgmhkiaa
open Go.Vc Go.Tk

theorem takeWhile_le {α : Type} (p : α → Bool) (l : List α) : (l.takeWhile p).length ≤ l.length := by
  have := List.takeWhile_prefix p (l := l); exact this.length_le
theorem mem_takeWhile {α : Type} (p : α → Bool) : ∀ (l : List α), ∀ c ∈ l.takeWhile p, p c = true
  | [], _, h => by cases h
  | a :: l, c, h => by
    rw [List.takeWhile_cons] at h
    split at h
    · rename_i ha
      cases h with
      | head => exact ha
      | tail _ h => exact mem_takeWhile p l c h
    · cases h
theorem digC_of_letC {c : UInt8} (h : letC c = true) : digC c = false := by
  simp only [letC, digC, letN, digN] at *
  rw [Bool.eq_false_iff]
  simp at *
  omega
theorem signOf_le (l : List UInt8) : (signOf l).length ≤ l.length := by
  unfold signOf
  split
  · rename_i t h
    have := List.find?_some h
    simp only [hasPre, beq_iff_eq] at this
    rw [← this]; simp; omega
  · split
    · split <;> simp
    · simp

set_option maxHeartbeats 1000000 in
theorem Next_spec (s : List UInt8) (hs : s.length < 2 ^ 40) (at_ : Int) (w : World) :
    Calls Try.prog 28 #[.string (mkS s), .int .i64 at_] w (Ret fun v w' => v = .tuple #[.agg ⟨tokC (nextS s at_).1⟩, .int .i64 (nextS s at_).2.1, .int .i64 (nextS s at_).2.2] ∧ Ext w w') := by
  refine token_Next_ok _ _ _ _ ?_
  intro b w1 hb hw1
  have o := (Own.start w).alloc hb hw1
  intro _
  refine cond_intro (fun hx => ?_) fun hx => ?_
  · refine ⟨o.wr 0 rfl rfl, fun w2 hw2 => ?_⟩
    have o := o.sets 0 hw2 rfl
    refine ⟨_, _, _, _, (o.at 0 rfl).whole, ?_, o.done⟩
    have : nextS s at_ = (Tok.zero, 0, 1) := by unfold nextS; rw [if_pos (by simp at hx; omega)]
    rw [this]; rfl
  · simp at hx
    obtain ⟨k, rfl⟩ := Int.eq_ofNat_of_zero_le hx.1
    have hk : k ≤ s.length := by omega
    have hkk : ((k : Nat) : Int).toNat = k := Int.toNat_natCast k
    rw [hkk]
    have hns : nextS s (k : Int) = tokAt (s.drop (k + blankN false (s.drop k))) (k + blankN false (s.drop k)) := by
      unfold nextS; rw [if_neg (by omega), hkk]
    rw [hns]
    have hble := blank_le false (s.drop k)
    simp only [List.length_drop] at hble
    refine ⟨by omega, call_then (blank_spec (s.drop k) (by simp; omega) w1) ?_⟩
    rintro _ _ ⟨rfl, rfl⟩
    generalize hp : k + blankN false (s.drop k) = p
    have hple : p ≤ s.length := by omega
    have hwp : IntKind.i64.wrap ((k : Int) + (blankN false (s.drop k) : Nat)) = (p : Int) := by rw [wrap_in (by omega) (by omega)]; omega
    refine ⟨_, rfl, ?_⟩
    rw [hwp]
    refine ⟨by omega, ?_⟩
    intro b1 w4 hb1 hw4
    have o := o.alloc hb1 hw4
    refine ⟨o.wr 0 rfl rfl, fun w5 hw5 => ?_⟩
    have o := o.sets 0 hw5 rfl
    rw [Int.toNat_natCast]
    generalize hl : s.drop p = l
    have hll : l.length = s.length - p := by rw [← hl]; simp
    -- what is in the boxes when the ways meet
    refine ⟨fun e w' => ∃ t : Tok, ∃ q : Nat, tokAt l p = (if e = 0 then (t, q, 0) else (Tok.zero, p, e)) ∧ (e = 0 → q = p + t.text.length ∧ t.text.length < 2 ^ 40) ∧ Own w.heap.size w w' [(b1, tokC t), (b, tokC Tok.zero)], ?_, ?_⟩
    · cases l with
      | nil =>
        refine ⟨_, _, _, _, (o.at 0 rfl).whole, o.wr 1 rfl rfl, fun w6 hw6 => ?_⟩
        have o := o.sets 1 hw6 rfl
        exact ⟨_, _, _, _, (o.at 1 rfl).whole, rfl, o.done⟩
      | cons c l =>
        refine ⟨⟨by omega, by simp⟩, call_then (letter_spec _ (UInt8.toNat_lt _) w5) ?_⟩
        rintro _ _ ⟨rfl, rfl⟩
        have e0 : (c :: l).getD 0 0 = c := rfl
        rw [e0]
        refine ⟨_, rfl, cond_intro (fun hlet => ?_) fun hlet => ?_⟩
        · refine call_then (run_wordly_spec _ (by omega) w5) ?_
          rintro _ _ ⟨rfl, rfl⟩
          refine ⟨_, rfl, o.wr 0 rfl rfl, fun w9 hw9 => ?_⟩
          have o := o.set 0 hw9 rfl
          refine ⟨o.wr 0 rfl rfl, fun w10 hw10 => ?_⟩
          have o := o.set 0 hw10 rfl
          refine ⟨fun w' => Own w.heap.size w w' [(b1, tokC ⟨if decide ((c :: l).takeWhile wordC ∈ words) then 3 else 1, (c :: l).takeWhile wordC, 0, p⟩), (b, tokC Tok.zero)], ?_, ?_⟩
          · refine ⟨_, (o.at 0 rfl).cell rfl, call_then (Word_spec _ w10) ?_⟩
            rintro _ w11 ⟨rfl, he⟩
            have o := o.ext he
            refine ⟨_, rfl, cond_intro (fun hwd => ?_) fun hwd => ?_⟩
            · refine ⟨o.wr 0 rfl rfl, fun w12 hw12 => ?_⟩
              have o := o.set 0 hw12 rfl
              rw [hwd]; exact o
            · rw [hwd]; exact o
          · rintro _ w13 o
            refine ⟨_, (o.at 0 rfl).cell rfl, ?_⟩
            have htk : tokAt (c :: l) p = if ((c :: l).takeWhile wordC).length > 16 then (Tok.zero, p, 5) else (⟨if decide ((c :: l).takeWhile wordC ∈ words) then 3 else 1, (c :: l).takeWhile wordC, 0, p⟩, p + ((c :: l).takeWhile wordC).length, 0) := by
              rw [tokAt_cons, if_pos (show letC c = true from hlet)]
            refine cond_intro (fun h16 => ?_) fun h16 => ?_
            · refine ⟨_, 0, ?_, fun h => absurd h (by decide), o⟩
              rw [htk, if_pos (by simp at h16; omega)]; rfl
            · refine ⟨_, _, ?_, fun _ => ⟨rfl, by have := takeWhile_le wordC (c :: l); dsimp only; omega⟩, o⟩
              rw [htk, if_neg (by simp at h16; omega)]; rfl
        · have hlet' : letC c = false := hlet
          refine ⟨⟨by omega, by simp⟩, call_then (digit_spec _ w5) ?_⟩
          rintro _ _ ⟨rfl, rfl⟩
          refine ⟨_, rfl, cond_intro (fun hdig => ?_) fun hdig => ?_⟩
          · have hdig' : digC c = true := hdig
            refine call_then (run_digit_spec _ (by omega) w5) ?_
            rintro _ _ ⟨rfl, rfl⟩
            have hd0 : (c :: l).takeWhile digC ≠ [] := by rw [List.takeWhile_cons, hdig']; simp
            have hdl := takeWhile_le digC (c :: l)
            refine ⟨_, rfl, o.wr 0 rfl rfl, fun w16 hw16 => ?_⟩
            have o := o.set 0 hw16 rfl
            refine ⟨o.wr 0 rfl rfl, fun w17 hw17 => ?_⟩
            have o := o.set 0 hw17 rfl
            intro w18 hw18
            have o := o.drew hw18
            have htk : tokAt (c :: l) p = if (numRes ((c :: l).takeWhile digC) ((c :: l).drop ((c :: l).takeWhile digC).length)).2 = 0 then (⟨2, (c :: l).takeWhile digC, (numRes ((c :: l).takeWhile digC) ((c :: l).drop ((c :: l).takeWhile digC).length)).1, p⟩, p + ((c :: l).takeWhile digC).length, 0)
                else (Tok.zero, p, (numRes ((c :: l).takeWhile digC) ((c :: l).drop ((c :: l).takeWhile digC).length)).2) := by
              rw [tokAt_cons, if_neg (by rw [hlet']; simp), if_pos hdig']
            have hcell := (o.at 0 rfl).cell (i := 1) rfl
            refine ⟨fun u => u.cell? ⟨b1, 1, none⟩ = some (.string (mkS ((c :: l).takeWhile digC))), hcell, _, fun u hu => hu, _, fun u hu => hu, by omega, ?_⟩
            rw [Int.toNat_natCast]
            refine call_then (number_spec _ _ hd0 (mem_takeWhile _ _) (by omega) w18) ?_
            rintro _ w19 ⟨rfl, he⟩
            have o := o.ext he
            refine ⟨_, _, rfl, (o.at 0 rfl).cell rfl, o.wr 0 rfl rfl, fun w20 hw20 => ?_⟩
            have o := o.set 0 hw20 rfl
            refine ⟨(o.at 0 rfl).cell rfl, ⟨2, (c :: l).takeWhile digC, _, p⟩, p + ((c :: l).takeWhile digC).length, ?_, fun _ => ⟨rfl, by dsimp only; omega⟩, o⟩
            rw [htk]
          · have hdig' : digC c = false := hdig
            refine call_then (sign_spec (c :: l) (by simp) w5) ?_
            rintro _ w23 ⟨rfl, he⟩
            have o := o.ext he
            refine ⟨_, rfl, o.wr 0 rfl rfl, fun w24 hw24 => ?_⟩
            have o := o.set 0 hw24 rfl
            refine ⟨o.wr 0 rfl rfl, fun w25 hw25 => ?_⟩
            have o := o.set 0 hw25 rfl
            refine ⟨_, (o.at 0 rfl).cell rfl, ?_⟩
            have htk : tokAt (c :: l) p = if signOf (c :: l) = [] then (Tok.zero, p, 10) else (⟨4, signOf (c :: l), 0, p⟩, p + (signOf (c :: l)).length, 0) := by
              rw [tokAt_cons, if_neg (by rw [hlet']; simp), if_neg (by rw [hdig']; simp)]
            refine cond_intro (fun hsg => ?_) fun hsg => ?_
            · refine ⟨⟨4, signOf (c :: l), 0, p⟩, 0, ?_, fun h => absurd h (by decide), o⟩
              rw [htk, if_pos (by simpa using hsg)]; rfl
            · refine ⟨⟨4, signOf (c :: l), 0, p⟩, _, ?_, fun _ => ⟨rfl, by have := signOf_le (c :: l); dsimp only; omega⟩, o⟩
              rw [htk, if_neg (by simpa using hsg)]; rfl
    · rintro _ e w26 ⟨t, q, htk, hq, o⟩
      rw [htk]
      refine cond_intro (fun he => ?_) fun he => ?_
      · have he' : ¬ e = 0 := by simpa using he
        rw [if_neg he']
        refine ⟨o.wr 1 rfl rfl, fun w27 hw27 => ?_⟩
        have o := o.sets 1 hw27 rfl
        exact ⟨_, _, _, _, (o.at 1 rfl).whole, rfl, o.done⟩
      · have he' : e = 0 := by simpa using he
        subst he'
        obtain ⟨hq, hfit⟩ := hq rfl
        subst hq
        simp only [if_true]
        have hww : IntKind.i64.wrap ((p : Int) + (t.text.length : Nat)) = ((p + t.text.length : Nat) : Int) := by rw [wrap_in (by omega) (by omega)]; omega
        intro w28 hw28
        have o := o.drew hw28
        refine ⟨fun u => Box u b1 (tokC t), o.at 0 rfl, _, _, _, _, fun u hu => hu.whole, _, fun u hu => hu.cell rfl, o.wr 1 rfl rfl, fun w27 hw27 => ?_⟩
        have o := o.sets 1 hw27 rfl
        exact ⟨o.at 0 rfl, _, _, _, _, (o.at 1 rfl).whole, by rw [hww]; rfl, o.done⟩
end Go.Proofs.Ytahppcghgmhkiaa
