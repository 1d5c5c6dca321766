/- The plain law of TokenBack: words with blanks between them are read back. -/
import Derived.Test.YtahppcghgmhkiaaTokK
namespace Go.Tk
open Go.Vc

def GoodW (x : List UInt8) : Prop := x ≠ [] ∧ (nextS x 0).2.2 = 0 ∧ (nextS x 0).1.text = x

theorem tokAt_text (l : List UInt8) (p : Nat) : (tokAt l p).1.text.length ≤ l.length := by
  cases l with
  | nil => simp [tokAt]
  | cons c l =>
    rw [tokAt_cons]
    split
    · split
      · simp [Tok.zero]
      · exact Go.Proofs.Ytahppcghgmhkiaa.takeWhile_le wordC (c :: l)
    · split
      · split
        · exact Go.Proofs.Ytahppcghgmhkiaa.takeWhile_le digC (c :: l)
        · simp [Tok.zero]
      · split
        · simp [Tok.zero]
        · exact Go.Proofs.Ytahppcghgmhkiaa.signOf_le (c :: l)
theorem good_tok {x : List UInt8} (h : GoodW x) : blankN false x = 0 ∧ (tokAt x 0).2.2 = 0 ∧ (tokAt x 0).1.text = x := by
  obtain ⟨h0, h1, h2⟩ := h
  have e : nextS x 0 = tokAt (x.drop (blankN false x)) (blankN false x) := by
    unfold nextS; rw [if_neg (by omega)]; simp
  have hb : blankN false x = 0 := by
    have := tokAt_text (x.drop (blankN false x)) (blankN false x)
    rw [← e, h2] at this
    have hx : 0 < x.length := List.length_pos_iff.2 h0
    simp at this
    omega
  rw [hb] at e
  rw [e] at h1 h2
  exact ⟨hb, h1, h2⟩

theorem takeWhile_stop {α : Type} (p : α → Bool) (c : α) (r : List α) (hc : p c = false) : ∀ (x : List α), x.takeWhile p = x → (x ++ c :: r).takeWhile p = x
  | [], _ => by simp [hc]
  | a :: x, h => by
    rw [List.takeWhile_cons] at h
    cases ha : p a with
    | false => rw [ha] at h; simp at h
    | true =>
      rw [ha] at h
      simp only [if_true, List.cons.injEq, true_and] at h
      rw [List.cons_append, List.takeWhile_cons, ha]
      simp only [if_true]
      rw [takeWhile_stop p c r hc x h]
theorem find_congr {α : Type} {p q : α → Bool} : ∀ {l : List α}, (∀ x ∈ l, p x = q x) → l.find? p = l.find? q
  | [], _ => rfl
  | a :: l, h => by
    rw [List.find?_cons, List.find?_cons, h a (by simp), find_congr fun x hx => h x (by simp [hx])]
theorem sign_space (x r : List UInt8) (hx : x ≠ []) (h : signOf x = x) : signOf (x ++ 32 :: r) = x := by
  cases x with
  | nil => exact absurd rfl hx
  | cons c l =>
    cases l with
    | nil =>
      have hn : signs2.find? (hasPre · ([c] ++ 32 :: r)) = none := by
        rw [List.find?_eq_none]
        intro p hp
        simp only [signs2, List.mem_cons, List.not_mem_nil, or_false] at hp
        rcases hp with rfl | rfl | rfl | rfl | rfl | rfl <;> simp [hasPre]
      have hn' : signs2.find? (hasPre · [c]) = none := by
        rw [List.find?_eq_none]
        intro p hp
        simp only [signs2, List.mem_cons, List.not_mem_nil, or_false] at hp
        rcases hp with rfl | rfl | rfl | rfl | rfl | rfl <;> simp [hasPre]
      unfold signOf at h ⊢
      rw [hn'] at h
      rw [hn]
      exact h
    | cons d l =>
      have h2 : signs2.find? (hasPre · ((c :: d :: l) ++ 32 :: r)) = signs2.find? (hasPre · (c :: d :: l)) := by
        apply find_congr
        intro p hp
        simp only [signs2, List.mem_cons, List.not_mem_nil, or_false] at hp
        rcases hp with rfl | rfl | rfl | rfl | rfl | rfl <;> rfl
      unfold signOf at h ⊢
      rw [h2]
      cases hf : signs2.find? (hasPre · (c :: d :: l)) with
      | some t => rw [hf] at h; exact h
      | none => rw [hf] at h; exact h
theorem tok_space (x r : List UInt8) (p : Nat) (hx : x ≠ []) (h1 : (tokAt x 0).2.2 = 0) (h2 : (tokAt x 0).1.text = x) :
    ∃ t, tokAt (x ++ 32 :: r) p = (t, p + x.length, 0) ∧ t.text = x ∧ t.kind ≠ 0 := by
  cases x with
  | nil => exact absurd rfl hx
  | cons c l =>
    rw [tokAt_cons] at h1 h2
    rw [List.cons_append, tokAt_cons, ← List.cons_append]
    cases hc : letC c with
    | true =>
      simp only [hc, if_true] at h1 h2 ⊢
      by_cases h16 : ((c :: l).takeWhile wordC).length > 16
      · rw [if_pos h16] at h1; cases h1
      · rw [if_neg h16] at h2
        simp only at h2
        have hs := takeWhile_stop wordC 32 r (by decide) _ h2
        rw [hs, if_neg (by rw [h2] at h16; exact h16)]
        refine ⟨_, rfl, rfl, ?_⟩
        simp only; split <;> decide
    | false =>
      simp only [hc, Bool.false_eq_true, if_false] at h1 h2 ⊢
      cases hd : digC c with
      | true =>
        simp only [hd, if_true] at h1 h2 ⊢
        by_cases hq : (numRes ((c :: l).takeWhile digC) ((c :: l).drop ((c :: l).takeWhile digC).length)).2 = 0
        · rw [if_pos hq] at h2
          simp only at h2
          have hs := takeWhile_stop digC 32 r (by decide) _ h2
          have hdr : ((c :: l) ++ 32 :: r).drop (c :: l).length = 32 :: r := List.drop_left
          rw [hs, hdr]
          rw [h2, List.drop_length] at hq
          have hn : numRes (c :: l) (32 :: r) = numRes (c :: l) [] := rfl
          rw [hn, if_pos hq]
          exact ⟨_, rfl, rfl, by simp⟩
        · rw [if_neg hq] at h1; exact absurd h1 hq
      | false =>
        simp only [hd, Bool.false_eq_true, if_false] at h1 h2 ⊢
        by_cases hq : signOf (c :: l) = []
        · rw [if_pos hq] at h1; cases h1
        · rw [if_neg hq] at h2
          simp only at h2
          have hs := sign_space (c :: l) r hx h2
          rw [hs, if_neg hx]
          exact ⟨_, rfl, rfl, by simp⟩
theorem blank_app : ∀ (B y : List UInt8), (∀ c ∈ B, isBl c = true) → blankN false (B ++ y) = B.length + blankN false y
  | [], y, _ => by simp
  | c :: B, y, h => by
    rw [List.cons_append, blank_space c _ (h c (by simp)), blank_app B y (fun c hc => h c (by simp [hc]))]
    simp; omega
theorem blank_zero_app (x r : List UInt8) (hx : x ≠ []) (h : blankN false x = 0) : blankN false (x ++ r) = 0 := by
  cases x with
  | nil => exact absurd rfl hx
  | cons c l =>
    rw [blank_cons] at h
    rw [List.cons_append, blank_cons]
    split at h
    · omega
    · rename_i h10
      rw [if_neg h10]
      split at h
      · omega
      · rename_i h35
        rw [if_neg h35]
        split at h
        · rename_i hh; rw [if_pos hh]
        · omega
def conc (B : List UInt8) (ss : List (List UInt8)) : List UInt8 := ss.flatMap fun x => x ++ 32 :: B
theorem conc_snoc (B : List UInt8) (ss : List (List UInt8)) (x : List UInt8) : conc B (ss ++ [x]) = conc B ss ++ x ++ [32] ++ B := by simp [conc]
theorem conc_len (B : List UInt8) (ss : List (List UInt8)) (h : ∀ x ∈ ss, x.length ≤ 100) (hB : B.length ≤ 50) : (conc B ss).length ≤ ss.length * 151 := by
  induction ss with
  | nil => simp [conc]
  | cons x ss ih =>
    have := ih fun y hy => h y (by simp [hy])
    have hx := h x (by simp)
    simp only [conc, List.flatMap_cons, List.length_append, List.length_cons] at this ⊢
    omega

theorem all_back (s B : List UInt8) (hB : ∀ c ∈ B, isBl c = true) : ∀ (ss : List (List UInt8)) (p f : Nat) (C : List UInt8) (acc : List Tok), s.drop p = C ++ conc B ss → (∀ c ∈ C, isBl c = true) → p ≤ s.length → s.length < f + p → (∀ x ∈ ss, GoodW x) →
    ∃ ts t n, allFrom s f p acc = (acc ++ ts ++ [t], n, 0) ∧ ts.map (·.text) = ss ∧ t.kind = 0 := by
  intro ss
  induction ss with
  | nil =>
    intro p f C acc hs hC hp hf _
    obtain ⟨f, rfl⟩ : ∃ f', f = f' + 1 := ⟨f - 1, by omega⟩
    have hb : blankN false (s.drop p) = s.length - p := by
      have hl : (s.drop p).length = s.length - p := by simp
      rw [hs, blank_app _ _ hC]
      rw [hs] at hl
      simp [conc, blankN] at hl ⊢
      exact hl
    have hn : nextS s (p : Int) = (⟨0, [], 0, s.length⟩, s.length, 0) := by
      unfold nextS
      rw [if_neg (by omega), Int.toNat_natCast, hb, show p + (s.length - p) = s.length by omega, List.drop_length]
      rfl
    refine ⟨[], ⟨0, [], 0, s.length⟩, s.length, ?_, rfl, rfl⟩
    unfold allFrom
    rw [hn]
    simp
  | cons x ss ih =>
    intro p f C acc hs hC hp hf hg
    obtain ⟨f, rfl⟩ : ∃ f', f = f' + 1 := ⟨f - 1, by omega⟩
    have hx := hg x (by simp)
    obtain ⟨hb0, h1, h2⟩ := good_tok hx
    have hc : conc B (x :: ss) = x ++ 32 :: (B ++ conc B ss) := by simp [conc]
    rw [hc] at hs
    have hb : blankN false (s.drop p) = C.length := by
      rw [hs, blank_app _ _ hC, blank_zero_app _ _ hx.1 hb0]; simp
    have hlen : s.length - p = C.length + (x.length + (1 + (B.length + (conc B ss).length))) := by
      have hl : (s.drop p).length = s.length - p := by simp
      rw [hs] at hl
      simp at hl
      omega
    have hd : s.drop (p + C.length) = x ++ 32 :: (B ++ conc B ss) := by
      rw [← List.drop_drop, hs, List.drop_left]
    obtain ⟨t, ht, htx, htk⟩ := tok_space x (B ++ conc B ss) (p + C.length) hx.1 h1 h2
    have hn : nextS s (p : Int) = (t, p + C.length + x.length, 0) := by
      unfold nextS
      rw [if_neg (by omega), Int.toNat_natCast, hb, hd, ht]
    have hxl : 0 < x.length := List.length_pos_iff.2 hx.1
    obtain ⟨ts, t', n, e1, e2, e3⟩ := ih (p + C.length + x.length) f (32 :: B) (acc ++ [t]) (by rw [← List.drop_drop, hd, List.drop_left]; simp) (fun c hc => by
      cases hc with
      | head => rfl
      | tail _ h => exact hB c h) (by omega) (by omega) (fun y hy => hg y (by simp [hy]))
    refine ⟨t :: ts, t', n, ?_, by simp [htx, e2], e3⟩
    unfold allFrom
    rw [hn]
    simp only [ne_eq, not_true_eq_false, if_false, if_neg htk, e1]
    simp
theorem all_conc (B : List UInt8) (hB : ∀ c ∈ B, isBl c = true) (ss : List (List UInt8)) (hl : (conc B ss).length ≤ 65536) (hg : ∀ x ∈ ss, GoodW x) :
    ∃ ts t n, allS (conc B ss) = (ts ++ [t], n, 0) ∧ ts.map (·.text) = ss ∧ t.kind = 0 := by
  obtain ⟨ts, t, n, h, r⟩ := all_back (conc B ss) B hB ss 0 ((conc B ss).length + 1) [] [] (by simp) (by simp) (by omega) (by omega) hg
  exact ⟨ts, t, n, by unfold allS; rw [if_neg (by omega), h]; simp, r⟩
end Go.Tk
