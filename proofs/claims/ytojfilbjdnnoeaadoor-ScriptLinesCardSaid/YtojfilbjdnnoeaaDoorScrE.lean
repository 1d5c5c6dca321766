/- Script: the reference's Read, lines of commands, and the laws. -/
import Derived.Test.YtojfilbjdnnoeaaDoorScrD
namespace Go.Proofs.YtojfilbjdnnoeaaDoor
open Go.Vc Go.Lv Go.Ty Go.Proofs Go.Sc Go.Sp

/-! ## the reference's Read -/
def kindU (x : List UInt8) : Nat → Int
  | 0 => 0
  | k + 1 => if WL.getD k [] = x then (k + 1 : Nat) else kindU x k
theorem kindU_8 (x : List UInt8) : kindU x 8 = kindF x := by
  rcases word_cases x with ⟨hn, h0, _⟩ | rfl | rfl | rfl | rfl | rfl | rfl | rfl | rfl
  · rw [h0]
    simp only [WL, List.mem_cons, not_or] at hn
    obtain ⟨h1, h2, h3, h4, h5, h6, h7, h8, _⟩ := hn
    simp [kindU, WL, Ne.symm h1, Ne.symm h2, Ne.symm h3, Ne.symm h4, Ne.symm h5, Ne.symm h6, Ne.symm h7, Ne.symm h8]
  all_goals decide
def kw (k : Int) : List UInt8 := if k = 1 then wStmt else if k = 2 then wChan else if k = 3 then wProc else []
theorem rkind_v (n : Int) (K : List UInt8 → Prop) (h : K (kw n)) : V_R44_Kind n K := by
  refine R44_Kind_lift _ _ ?_
  unfold kw at h
  refine cond_intro (fun h1 => ?_) fun h1 => cond_intro (fun h2 => ?_) fun h2 => cond_intro (fun h3 => ?_) fun h3 => ?_
  · rw [if_pos (by simpa using h1)] at h; exact h
  · rw [if_neg (by simpa using h1), if_pos (by simpa using h2)] at h; exact h
  · rw [if_neg (by simpa using h1), if_neg (by simpa using h2), if_pos (by simpa using h3)] at h; exact h
  · rw [if_neg (by simpa using h1), if_neg (by simpa using h2), if_neg (by simpa using h3)] at h; exact h
theorem bk_kw {b : List UInt8} {k : Int} (h : kw k = b) (h1 : 1 ≤ k) (h3 : k ≤ 3) : bkF b = k := by
  subst h
  obtain rfl | rfl | rfl : k = 1 ∨ k = 2 ∨ k = 3 := by omega
  all_goals decide
theorem kw_bk {b : List UInt8} (h : bkF b ≠ 0) : 1 ≤ bkF b ∧ bkF b ≤ 3 ∧ kw (bkF b) = b := by
  unfold bkF at h ⊢
  split
  · subst b; decide
  · split
    · subst b; decide
    · split
      · subst b; decide
      · rename_i h1 h2 h3; rw [if_neg h1, if_neg h2, if_neg h3] at h; exact absurd rfl h
theorem rread_v (s : List UInt8) (hs : s.length < 1000000) (K : GR44_Got → Prop) (h : K ⟨(readL (ws none s)).1, (readL (ws none s)).2⟩) : V_R44_Read s K := by
  refine R44_Read_lift _ _ (rwords_v s hs _ ?_)
  have hlen : ∀ x ∈ ws none s, x.length < 1000000 := fun x hx => by have := ws_len s none x hx; simp at this; omega
  generalize ws none s = L at h hlen
  cases L with
  | nil => exact cond_t rfl h
  | cons x l =>
    refine cond_f (by rw [Bool.eq_false_iff]; simp; omega) ⟨fun kind i n => At 8 (fun k => kind = kindU x k) i n, ⟨_, At.start rfl⟩, ?_⟩
    rintro _ _ _ ⟨k, rfl, hk, rfl, rfl⟩
    refine At.cond (len := 8) hk (fun hlt => ?_) fun he => ?_
    · refine ⟨fun kd => kd = kindU x (k + 1), ?_, ?_⟩
      · have hWl : WL.length = 8 := rfl
        refine at_elem (l := WL) (k := k) (by omega) ⟨⟨by omega, by simp only [List.length_cons]; omega⟩, fun x1 hx1 => ?_⟩
        obtain rfl : x1 = x := by simpa using hx1.symm
        have hg : WL.getD k [] = WL[k] := by rw [List.getD_eq_getElem?_getD, List.getElem?_eq_getElem (by omega)]; rfl
        refine cond_intro (fun hc => ?_) fun hc => ?_
        · have hc2 : (WL[k] == x1) = true := hc
          have hc' : WL[k] = x1 := eq_of_beq hc2
          show _ = _
          rw [kindU, if_pos (by rw [hg]; exact hc'), wrap_in (by omega) (by omega)]; rfl
        · have hc2 : (WL[k] == x1) = false := hc
          have hc' : ¬ WL[k] = x1 := by simpa using hc2
          show _ = _
          rw [kindU, if_neg (by rw [hg]; exact hc')]
      · rintro _ rfl
        exact At.next (by decide) hlt rfl
    · subst he
      rw [kindU_8]
      have hl : ∀ y ∈ l, y.length < 1000000 := fun y hy => hlen y (List.mem_cons_of_mem _ hy)
      have h : K ⟨(readK (kindF x) l).1, (readK (kindF x) l).2⟩ := h
      generalize hkd : kindF x = kd at h
      refine ⟨fun _ _ _ _ _ => K ⟨z 0, 1⟩, ?_, fun _ _ _ _ _ h => h⟩
      refine cond_intro (fun h0 => ?_) fun h0 => cond_intro (fun h5 => ?_) fun h5 => ?_
      · have h0 : kd = 0 := by simpa using h0
        subst h0; exact h
      · have h5 : kd = 5 := by simpa using h5
        subst h5
        have h : K ⟨(readTo 5 l).1, (readTo 5 l).2⟩ := h
        match l, hl, h with
        | [], _, h => exact cond_f (by simp) h
        | _ :: _ :: _, _, h => exact cond_f (by rw [Bool.eq_false_iff]; simp; omega) h
        | [t], hl, h =>
          refine cond_t (by simp) ⟨⟨by omega, by simp⟩, fun x2 hx2 => ?_⟩
          obtain rfl : x2 = t := by simpa using hx2.symm
          rw [readTo_one] at h
          refine rnum_v _ (hl _ (by simp)) _ (fun v hv => ?_) fun hn v => ?_
          · rw [hv] at h; exact h
          · rw [hn] at h; exact h
      · refine ⟨fun b => b = true ↔ (kd = 6 ∨ kd = 7), ?_, ?_⟩
        · refine cond_intro (fun h6 => ?_) fun h6 => ?_
          · show _ ↔ _
            have h6' : kd = 6 := by simpa using h6
            simp [h6']
          · show _ ↔ _
            have h6' : ¬ kd = 6 := by simpa using h6
            simp [h6']
        intro b hb
        have h0' : ¬ kd = 0 := by simpa using h0
        have h5' : ¬ kd = 5 := by simpa using h5
        cases b with
        | true =>
          have hb' : kd = 6 ∨ kd = 7 := hb.1 rfl
          have h : K ⟨(readBk kd l).1, (readBk kd l).2⟩ := by
            unfold readK at h; rw [if_neg h0', if_neg h5', if_pos hb'] at h; exact h
          refine cond_t rfl ?_
          by_cases hll : l.length = 2
          · obtain ⟨b, t, rfl⟩ : ∃ b t, l = [b, t] := by
              match l, hll with
              | [b, t], _ => exact ⟨b, t, rfl⟩
            rw [readBk_two] at h
            refine ⟨fun k _ _ _ _ _ n => ∃ j : Nat, k = j + 1 ∧ j ≤ 3 ∧ n = 3 - j ∧ ∀ i : Int, 1 ≤ i → i ≤ j → numF t = none ∨ kw i ≠ b, ⟨3, 0, rfl, by omega, rfl, fun i h1 h2 => by omega⟩, ?_⟩
            rintro _ _ _ _ _ _ _ ⟨j, rfl, hj, rfl, hno⟩
            refine cond_intro (fun hc => ?_) fun hc => ?_
            · have hj3 : j < 3 := by simp at hc; omega
              refine ⟨⟨by omega, by simp⟩, fun x4 hx4 => ?_⟩
              obtain rfl : x4 = t := by simpa using hx4.symm
              have again : (numF x4 = none ∨ kw ((j : Int) + 1) ≠ b) → ∃ n3, n3 < 3 - j ∧ ∃ j' : Nat, IntKind.i64.wrap ((j : Int) + 1 + 1) = j' + 1 ∧ j' ≤ 3 ∧ n3 = 3 - j' ∧ ∀ i : Int, 1 ≤ i → i ≤ j' → numF x4 = none ∨ kw i ≠ b := fun hx =>
                ⟨3 - (j + 1), by omega, j + 1, by rw [wrap_in (by omega) (by omega)]; omega, by omega, rfl, fun i h1 h2 => by
                  by_cases hij : i = (j : Int) + 1
                  · subst hij; exact hx
                  · exact hno i h1 (by omega)⟩
              refine rnum_v _ (hl _ (by simp)) _ (fun v hv => ?_) fun hn v => ?_
              · refine ⟨fun q => q = (kw ((j : Int) + 1) == b), cond_t rfl ⟨⟨by omega, by simp⟩, fun x6 hx6 => ?_⟩, ?_⟩
                · obtain rfl : x6 = b := by simpa using hx6.symm
                  exact rkind_v _ _ rfl
                · rintro _ rfl
                  refine cond_intro (fun hq => ?_) fun hq => again (.inr (by simpa using hq))
                  have := bk_kw (k := (j : Int) + 1) (by simpa using hq) (by omega) (by omega)
                  rw [if_neg (by omega), hv, this] at h
                  exact h
              · exact ⟨fun q => q = false, cond_f rfl rfl, fun _ hq => by subst hq; exact again (.inl hn)⟩
            · have hj3 : j = 3 := by simp at hc; omega
              subst hj3
              show K _
              by_cases hbk : bkF b = 0
              · rw [if_pos hbk] at h; exact h
              · obtain ⟨h1, h2, h3⟩ := kw_bk hbk
                rcases hno (bkF b) h1 (by omega) with hn | hn
                · rw [if_neg hbk, hn] at h; exact h
                · exact absurd h3 hn
          · have hbad : readBk kd l = bad := by
              match l, hll with
              | [], _ => rfl
              | [_], _ => rfl
              | [_, _], h => simp at h
              | _ :: _ :: _ :: _, _ => rfl
            rw [hbad] at h
            refine ⟨fun k _ _ _ _ _ _ => True, ⟨0, trivial⟩, ?_⟩
            intro k _ _ _ _ _ _ _
            refine cond_f ?_ h
            rw [Bool.and_eq_false_iff]
            right
            simp only [List.length_cons]
            apply beq_false_of_ne
            omega
        | false =>
          have hb' : ¬ (kd = 6 ∨ kd = 7) := fun h => by have := hb.2 h; cases this
          have h : K ⟨(readNo kd l).1, (readNo kd l).2⟩ := by
            unfold readK at h; rw [if_neg h0', if_neg h5', if_neg hb'] at h; exact h
          refine cond_f rfl ?_
          cases l with
          | nil => exact cond_t rfl h
          | cons y l => exact cond_f (by rw [Bool.eq_false_iff]; simp; omega) h

/-! ## lines -/
def kdW (k : Int) : List UInt8 := if k = 1 then wStep else if k = 2 then wBack else if k = 3 then wOn else if k = 4 then wRe else if k = 5 then wTo else if k = 6 then wBreak else if k = 7 then wUnbreak else wClear
/-- a command's line -/
def lineF (x : GCommand) : Option (List UInt8) :=
  if x.kind = 1 ∨ x.kind = 2 ∨ x.kind = 3 ∨ x.kind = 4 ∨ x.kind = 8 then (if x.break_ = ⟨0, 0⟩ ∧ x.n = 0 then some (kdW x.kind) else none)
  else if x.kind = 5 then (if x.break_ = ⟨0, 0⟩ then some (wTo ++ 32 :: Lib.itoa x.n) else none)
  else if x.kind = 6 ∨ x.kind = 7 then (if (1 ≤ x.break_.kind ∧ x.break_.kind ≤ 3) ∧ x.n = 0 then some (kdW x.kind ++ 32 :: (kw x.break_.kind ++ 32 :: Lib.itoa x.break_.n)) else none)
  else none
def Jc (x : GCommand) : Prop := J64s x.n ∧ J64s x.break_.n
theorem ws_one (w : List UInt8) (hn : w ≠ []) (hw : ∀ b ∈ w, isW b = false) : ws none w = [w] := by
  have := ws_skip w.length none w (List.length_pos_iff.2 hn) (Nat.le_refl _) (by rw [List.take_length]; exact hw)
  rw [this, List.take_length, List.drop_length]; rfl
theorem ws_app (w r : List UInt8) (hn : w ≠ []) (hw : ∀ b ∈ w, isW b = false) : ws none (w ++ 32 :: r) = w :: ws none r := by
  have := ws_skip w.length none (w ++ 32 :: r) (List.length_pos_iff.2 hn) (by simp) (by rw [List.take_left]; exact hw)
  rw [this, List.take_left, List.drop_left]; rfl
theorem itoa_w (n : Int) : ∀ b ∈ Lib.itoa n, isW b = false := fun b hb => by
  have := Go.Tx.itoa_mem n b hb
  rw [isW_n]
  exact pW_big (by omega) (by omega)
theorem kdW_ok (k : Int) : kdW k ≠ [] ∧ (∀ b ∈ kdW k, isW b = false) ∧ (kdW k).length ≤ 7 := by
  unfold kdW
  repeat' split
  all_goals exact ⟨by decide, by decide, by decide⟩
theorem kw_ok {k : Int} (h1 : 1 ≤ k) (h3 : k ≤ 3) : kw k ≠ [] ∧ (∀ b ∈ kw k, isW b = false) ∧ (kw k).length ≤ 4 ∧ bkF (kw k) = k := by
  obtain rfl | rfl | rfl : k = 1 ∨ k = 2 ∨ k = 3 := by omega
  all_goals exact ⟨by decide, by decide, by decide, by decide⟩
/-- what stands on a line of a command, read -/
theorem read_line (x : GCommand) (hx : Jc x) {s : List UInt8} (h : lineF x = some s) : readL (ws none s) = (x, 0) ∧ s ≠ [] ∧ s.length ≤ 60 := by
  obtain ⟨k, n, ⟨bk, bn⟩⟩ := x
  obtain ⟨h1, h2⟩ := hx
  unfold lineF at h
  dsimp only at h h1 h2
  have hk := kdW_ok k
  split at h
  · rename_i hkd
    split at h
    · rename_i h0
      cases h
      obtain ⟨hb, rfl⟩ := h0
      cases hb
      refine ⟨?_, hk.1, by omega⟩
      rw [ws_one _ hk.1 hk.2.1]
      rcases hkd with rfl | rfl | rfl | rfl | rfl <;> rfl
    · cases h
  · split at h
    · rename_i h5
      subst h5
      split at h
      · rename_i hb
        cases h; cases hb
        have hl := Go.Tx.itoa_len h1.1 h1.2
        refine ⟨?_, by simp [wTo], by simp [wTo]; omega⟩
        rw [ws_app wTo _ (by decide) (by decide), ws_one _ (Go.Tx.itoa_ne n) (itoa_w n)]
        show readTo 5 [_] = _
        rw [readTo_one, numF_itoa h1.1 h1.2]
      · cases h
    · split at h
      · rename_i hkd
        split at h
        · rename_i hb
          obtain ⟨⟨b1, b3⟩, rfl⟩ := hb
          cases h
          have hw := kw_ok b1 b3
          have hl := Go.Tx.itoa_len h2.1 h2.2
          refine ⟨?_, by simp, by simp; omega⟩
          rw [ws_app _ _ hk.1 hk.2.1, ws_app _ _ hw.1 hw.2.1, ws_one _ (Go.Tx.itoa_ne bn) (itoa_w bn)]
          have hr : readL [kdW k, kw bk, Lib.itoa bn] = readBk k [kw bk, Lib.itoa bn] := by rcases hkd with rfl | rfl <;> rfl
          rw [hr, readBk_two, hw.2.2.2, if_neg (by omega), numF_itoa h2.1 h2.2]
        · cases h
      · cases h
theorem rline_v (x : GCommand) (hx : Jc x) (K : List UInt8 → Prop) (h : K ((lineF x).getD [])) : V_R44_Line x K := by
  obtain ⟨k, n, ⟨bk, bn⟩⟩ := x
  obtain ⟨h1, h2⟩ := hx
  dsimp only at h1 h2
  have l1 := Go.Tx.itoa_len h1.1 h1.2
  have l2 := Go.Tx.itoa_len h2.1 h2.2
  have hmax : IntKind.i64.max = 9223372036854775807 := rfl
  refine R44_Line_lift _ _ (rkind_v _ _ ?_)
  dsimp only
  refine ⟨fun b => b = true ↔ (k = 1 ∨ k = 2 ∨ k = 3 ∨ k = 4 ∨ k = 8), ?_, ?_⟩
  · refine cond_intro (fun e => ?_) fun e1 => cond_intro (fun e => ?_) fun e2 => cond_intro (fun e => ?_) fun e3 => cond_intro (fun e => ?_) fun e4 => ?_
    · show _ ↔ _; have := eq_of_beq e; simp [this]
    · show _ ↔ _; have := eq_of_beq e; simp [this]
    · show _ ↔ _; have := eq_of_beq e; simp [this]
    · show _ ↔ _; have := eq_of_beq e; simp [this]
    · show _ ↔ _
      have e1 : ¬ k = 1 := by simpa using e1
      have e2 : ¬ k = 2 := by simpa using e2
      have e3 : ¬ k = 3 := by simpa using e3
      have e4 : ¬ k = 4 := by simpa using e4
      simp [e1, e2, e3, e4]
  intro b hb
  cases b with
  | true =>
    have hkd := hb.1 rfl
    refine cond_t rfl ⟨fun q => q = true ↔ ¬ (bk = 0 ∧ bn = 0 ∧ n = 0), cond_intro (fun hz => ?_) (fun hz => ?_), ?_⟩
    · show _ ↔ _
      simp at hz; simp; intro a b; omega
    · show _ ↔ _
      simp at hz; simp [hz]
    · intro q hq
      unfold lineF at h
      rw [if_pos hkd] at h
      cases q with
      | true =>
        have := hq.1 rfl
        rw [if_neg (by rintro ⟨e, rfl⟩; cases e; exact this ⟨rfl, rfl, rfl⟩)] at h
        exact h
      | false =>
        have : bk = 0 ∧ bn = 0 ∧ n = 0 := by
          apply Classical.byContradiction
          intro hno
          have := hq.2 hno
          cases this
        obtain ⟨rfl, rfl, rfl⟩ := this
        rw [if_pos ⟨rfl, rfl⟩] at h
        refine cond_f rfl (cond_intro (fun h8 => ?_) fun h8 => ?_)
        · have := eq_of_beq h8
          subst this; exact h
        · have h8 : ¬ k = 8 := by simpa using h8
          rcases hkd with rfl | rfl | rfl | rfl | rfl
          · exact ⟨⟨by decide, by decide⟩, fun x2 hx => by cases hx; exact h⟩
          · exact ⟨⟨by decide, by decide⟩, fun x2 hx => by cases hx; exact h⟩
          · exact ⟨⟨by decide, by decide⟩, fun x2 hx => by cases hx; exact h⟩
          · exact ⟨⟨by decide, by decide⟩, fun x2 hx => by cases hx; exact h⟩
          · exact absurd rfl h8
  | false =>
    have hkd : ¬ (k = 1 ∨ k = 2 ∨ k = 3 ∨ k = 4 ∨ k = 8) := fun h => by have := hb.2 h; cases this
    unfold lineF at h
    rw [if_neg hkd] at h
    have hkw : (!(kw bk == [])) = decide (1 ≤ bk ∧ bk ≤ 3) := by
      by_cases hr : 1 ≤ bk ∧ bk ≤ 3
      · rw [decide_eq_true hr, show (kw bk == []) = false by simpa using (kw_ok hr.1 hr.2).1]; rfl
      · rw [decide_eq_false hr]
        have : kw bk = [] := by unfold kw; rw [if_neg (by omega), if_neg (by omega), if_neg (by omega)]
        rw [this]; rfl
    have hkl : (kw bk).length ≤ 4 := by
      unfold kw
      repeat' split
      all_goals decide
    refine cond_f rfl (cond_intro (fun h5 => ?_) fun h5 => ?_)
    · have := eq_of_beq h5
      subst this
      rw [if_pos rfl] at h
      refine cond_intro (fun hz => ?_) fun hz => ?_
      · have : bk = 0 ∧ bn = 0 := by simpa using hz
        obtain ⟨rfl, rfl⟩ := this
        rw [if_pos rfl] at h
        refine itoa_sv _ h1 _ ⟨?_, ?_⟩
        · rw [hmax]; simp only [List.length_cons, List.length_nil]; omega
        · exact h
      · rw [if_neg (by intro e; cases e; simp at hz)] at h; exact h
    · have h5 : ¬ k = 5 := by simpa using h5
      rw [if_neg h5] at h
      refine cond_intro (fun h6 => ?_) fun h6 => cond_intro (fun h7 => ?_) fun h7 => ?_
      · have := eq_of_beq h6
        subst this
        rw [if_pos (.inl rfl)] at h
        refine ⟨fun q => q = decide ((1 ≤ bk ∧ bk ≤ 3) ∧ n = 0), ?_, ?_⟩
        · rw [hkw]
          refine cond_intro (fun hc => ?_) fun hc => ?_
          · show _ = _
            have := of_decide_eq_true hc
            rw [Bool.eq_iff_iff]; simp; omega
          · show _ = _
            have := of_decide_eq_false hc
            rw [Bool.eq_iff_iff]; simp; omega
        · rintro _ rfl
          refine cond_intro (fun hc => ?_) fun hc => ?_
          · rw [if_pos (of_decide_eq_true hc)] at h
            refine ⟨?_, ?_, itoa_sv _ h2 _ ⟨?_, ?_⟩⟩
            · rw [hmax]; simp only [List.length_cons, List.length_nil]; omega
            · rw [hmax]; simp only [List.length_append, List.length_cons, List.length_nil]; omega
            · rw [hmax]; simp only [List.length_append, List.length_cons, List.length_nil]; omega
            · have e : (([98, 114, 101, 97, 107, 32] ++ kw bk) ++ [32]) ++ Lib.itoa bn = kdW 6 ++ 32 :: (kw bk ++ 32 :: Lib.itoa bn) := by
                rw [show kdW 6 = [98, 114, 101, 97, 107] by rfl]; simp
              rw [e]; exact h
          · rw [if_neg (of_decide_eq_false hc)] at h; exact h
      · have := eq_of_beq h7
        subst this
        rw [if_pos (.inr rfl)] at h
        refine ⟨fun q => q = decide ((1 ≤ bk ∧ bk ≤ 3) ∧ n = 0), ?_, ?_⟩
        · rw [hkw]
          refine cond_intro (fun hc => ?_) fun hc => ?_
          · show _ = _
            have := of_decide_eq_true hc
            rw [Bool.eq_iff_iff]; simp; omega
          · show _ = _
            have := of_decide_eq_false hc
            rw [Bool.eq_iff_iff]; simp; omega
        · rintro _ rfl
          refine cond_intro (fun hc => ?_) fun hc => ?_
          · rw [if_pos (of_decide_eq_true hc)] at h
            refine ⟨?_, ?_, itoa_sv _ h2 _ ⟨?_, ?_⟩⟩
            · rw [hmax]; simp only [List.length_cons, List.length_nil]; omega
            · rw [hmax]; simp only [List.length_append, List.length_cons, List.length_nil]; omega
            · rw [hmax]; simp only [List.length_append, List.length_cons, List.length_nil]; omega
            · have e : (([117, 110, 98, 114, 101, 97, 107, 32] ++ kw bk) ++ [32]) ++ Lib.itoa bn = kdW 7 ++ 32 :: (kw bk ++ 32 :: Lib.itoa bn) := by
                rw [show kdW 7 = [117, 110, 98, 114, 101, 97, 107] by rfl]; simp
              rw [e]; exact h
          · rw [if_neg (of_decide_eq_false hc)] at h; exact h
      · have h6 : ¬ k = 6 := by simpa using h6
        have h7 : ¬ k = 7 := by simpa using h7
        rw [if_neg (fun h => h.elim h6 h7)] at h; exact h
end Go.Proofs.YtojfilbjdnnoeaaDoor
