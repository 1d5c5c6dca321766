/- Contract of the reference's Next (layer 8). -/
import Derived.Test.YtahppcghgmhkiaaTokF
namespace Go.Proofs.Ytahppcghgmhkiaa
open Go.Vc Go.Tk

theorem letC_of_digC {c : UInt8} (h : digC c = true) : letC c = false := by
  cases hl : letC c with
  | false => rfl
  | true => rw [digC_of_letC hl] at h; cases h
theorem drop_take_len (s : List UInt8) (p n : Nat) : (s.take (p + n)).drop p = (s.drop p).take n := by rw [List.drop_take]; congr 1; omega

set_option maxHeartbeats 1000000 in
theorem rNext_spec (s : List UInt8) (hs : s.length < 2 ^ 40) (at_ : Int) (w : World) :
    Calls Try.prog 29 #[.string (mkS s), .int .i64 at_] w (Ret fun v w' => v = .agg ⟨gotC (nextS s at_)⟩ ∧ Ext w w') := by
  refine R08_Next_ok _ _ _ _ ?_
  intro b w1 hb hw1
  have o := (Own.start w).alloc hb hw1
  intro _
  refine cond_intro (fun hx => ?_) fun hx => ?_
  · refine ⟨o.wr 0 rfl rfl, fun w2 hw2 => ?_⟩
    have o := o.sets 0 hw2 rfl
    refine ⟨_, _, _, _, _, _, (o.at 0 rfl).whole, ?_, o.done⟩
    have : nextS s at_ = (Tok.zero, 0, 1) := by unfold nextS; rw [if_pos (by simp at hx; omega)]
    rw [this]; rfl
  · simp at hx
    obtain ⟨k, rfl⟩ := Int.eq_ofNat_of_zero_le hx.1
    have hk : k ≤ s.length := by omega
    have hkk : ((k : Nat) : Int).toNat = k := Int.toNat_natCast k
    have hns : nextS s (k : Int) = tokAt (s.drop (k + blankN false (s.drop k))) (k + blankN false (s.drop k)) := by
      unfold nextS; rw [if_neg (by omega), hkk]
    rw [hns]
    have hble := blank_le false (s.drop k)
    simp only [List.length_drop] at hble
    refine call_then (begin_spec s hs k hk w1) ?_
    rintro _ _ ⟨rfl, rfl⟩
    generalize hp : k + blankN false (s.drop k) = p
    have hple : p ≤ s.length := by omega
    refine ⟨_, rfl, ?_⟩
    generalize hl : s.drop p = l
    have hll : l.length = s.length - p := by rw [← hl]; simp
    rw [Int.toNat_natCast]
    refine cond_intro (fun hend => ?_) fun hend => ?_
    · have hpe : p = s.length := by simp at hend; omega
      have : l = [] := by rw [← hl, hpe]; simp
      subst this
      refine ⟨o.wr 0 rfl rfl, fun w2 hw2 => ?_⟩
      have o := o.sets 0 hw2 rfl
      exact ⟨_, _, _, _, _, _, (o.at 0 rfl).whole, rfl, o.done⟩
    · have hplt : p < s.length := by simp at hend; omega
      have hdc := drop_cons s p hplt
      rw [hl] at hdc
      generalize hc : s.getD p 0 = c at hdc ⊢
      generalize s.drop (p + 1) = l' at hdc
      subst hdc
      have hgl : ∀ i, i < (c :: l').length → (c :: l').getD i 0 = s.getD (p + i) 0 := by
        intro i _; rw [← hl]; simp [List.getD]
      refine ⟨by omega, call_then (rDigit_spec _ w1) ?_⟩
      rintro _ _ ⟨rfl, rfl⟩
      refine ⟨_, rfl, cond_intro (fun hdig => ?_) fun hdig => ?_⟩
      · -- digits
        have hdig' : digC c = true := hdig
        have hlet' := letC_of_digC hdig'
        refine ⟨fun x w' => w1 = w' ∧ ∃ n : Nat, x = ((p + n : Nat) : Int) ∧ n ≤ (c :: l').length ∧ ∀ i (h : i < (c :: l').length), i < n → digC (c :: l')[i] = true, fun x _ => s.length - x.toNat, ⟨rfl, 0, rfl, Nat.zero_le _, fun _ _ h => absurd h (Nat.not_lt_zero _)⟩, ?_⟩
        rintro _ _ _ ⟨rfl, n, rfl, hn, hall⟩
        refine ⟨fun x w' => w1 = w' ∧ (x = true → ∃ h : n < (c :: l').length, digC (c :: l')[n] = true) ∧ (x = false → ∀ h : n < (c :: l').length, digC (c :: l')[n] = false), ?_, ?_⟩
        · refine cond_intro (fun hx => ?_) fun hx => ?_
          · have hlt : n < (c :: l').length := by simp at hx; omega
            refine ⟨by omega, call_then (rDigit_spec _ w1) ?_⟩
            rintro _ _ ⟨rfl, rfl⟩
            rw [Int.toNat_natCast, ← hgl n hlt, getD_eq _ _ hlt]
            exact ⟨_, rfl, rfl, fun h => ⟨hlt, h⟩, fun h _ => h⟩
          · exact ⟨rfl, fun h => (by cases h), fun _ h => by simp at hx; omega⟩
        · rintro _ x _ ⟨rfl, h1, h2⟩
          refine cond_intro (fun hx => ?_) fun hx => ?_
          · obtain ⟨hlt, hdn⟩ := h1 hx
            rw [wrap_in (by omega) (by omega)]
            refine ⟨⟨rfl, n + 1, by omega, by omega, fun i h hi => ?_⟩, by dsimp only; omega⟩
            rcases Nat.lt_or_ge i n with h' | h'
            · exact hall i h h'
            · obtain rfl : i = n := by omega
              exact hdn
          · have htw := takeWhile_take digC (c :: l') n hall (h2 hx)
            have hn0 : 0 < n := by
              rcases Nat.eq_zero_or_pos n with h' | h'
              · subst h'; have := h2 hx (by simp); simp [hdig'] at this
              · exact h'
            have htl : ((c :: l').takeWhile digC).length = n := by rw [htw, List.length_take]; omega
            refine call_then (digits_spec s hs p n hn0 (by omega) (by rw [hl, ← htw]; exact mem_takeWhile _ _) w1) ?_
            rintro _ w9 ⟨rfl, he⟩
            have o := o.ext he
            have htk : tokAt (c :: l') p = if (numRes ((c :: l').takeWhile digC) ((c :: l').drop ((c :: l').takeWhile digC).length)).2 = 0 then (⟨2, (c :: l').takeWhile digC, (numRes ((c :: l').takeWhile digC) ((c :: l').drop ((c :: l').takeWhile digC).length)).1, p⟩, p + ((c :: l').takeWhile digC).length, 0)
                else (Tok.zero, p, (numRes ((c :: l').takeWhile digC) ((c :: l').drop ((c :: l').takeWhile digC).length)).2) := by
              rw [tokAt_cons, if_neg (by rw [hlet']; simp), if_pos hdig']
            have hdrop : s.drop (p + n) = (c :: l').drop n := by rw [← hl, List.drop_drop]
            rw [hl, ← htw, hdrop]
            rw [htl] at htk
            rw [← htk]
            refine ⟨_, _, _, _, _, _, rfl, o.wr 0 rfl rfl, fun w2 hw2 => ?_⟩
            have o := o.sets 0 hw2 rfl
            exact ⟨_, _, _, _, _, _, (o.at 0 rfl).whole, rfl, o.done⟩
      · have hdig' : digC c = false := hdig
        refine ⟨by omega, call_then (rLetter_spec _ (UInt8.toNat_lt _) w1) ?_⟩
        rintro _ _ ⟨rfl, rfl⟩
        refine ⟨_, rfl, cond_intro (fun hlet => ?_) fun hlet => ?_⟩
        · -- a word
          have hlet' : letC c = true := hlet
          refine ⟨fun x w' => w1 = w' ∧ ∃ n : Nat, x = ((p + n : Nat) : Int) ∧ n ≤ (c :: l').length ∧ ∀ i (h : i < (c :: l').length), i < n → wordC (c :: l')[i] = true, fun x _ => s.length - x.toNat, ⟨rfl, 0, rfl, Nat.zero_le _, fun _ _ h => absurd h (Nat.not_lt_zero _)⟩, ?_⟩
          rintro _ _ _ ⟨rfl, n, rfl, hn, hall⟩
          refine ⟨fun x w' => w1 = w' ∧ (x = true → ∃ h : n < (c :: l').length, wordC (c :: l')[n] = true) ∧ (x = false → ∀ h : n < (c :: l').length, wordC (c :: l')[n] = false), ?_, ?_⟩
          · refine cond_intro (fun hx => ?_) fun hx => ?_
            · have hlt : n < (c :: l').length := by simp at hx; omega
              refine ⟨by omega, call_then (rLetter_spec _ (UInt8.toNat_lt _) w1) ?_⟩
              rintro _ _ ⟨rfl, rfl⟩
              rw [Int.toNat_natCast, ← hgl n hlt, getD_eq _ _ hlt]
              refine ⟨_, rfl, cond_intro (fun hl1 => ?_) fun hl1 => ?_⟩
              · exact ⟨rfl, fun _ => ⟨hlt, by simp only [wordC, wordN, hl1, Bool.true_or]⟩, fun h => by cases h⟩
              · refine ⟨by omega, call_then (rDigit_spec _ w1) ?_⟩
                rintro _ _ ⟨rfl, rfl⟩
                exact ⟨_, rfl, rfl, fun h => ⟨hlt, by simp only [wordC, wordN, hl1, h, Bool.or_true]⟩, fun h _ => by simp only [wordC, wordN, hl1, h, Bool.or_self]⟩
            · exact ⟨rfl, fun h => (by cases h), fun _ h => by simp at hx; omega⟩
          · rintro _ x _ ⟨rfl, h1, h2⟩
            refine cond_intro (fun hx => ?_) fun hx => ?_
            · obtain ⟨hlt, hdn⟩ := h1 hx
              rw [wrap_in (by omega) (by omega)]
              refine ⟨⟨rfl, n + 1, by omega, by omega, fun i h hi => ?_⟩, by dsimp only; omega⟩
              rcases Nat.lt_or_ge i n with h' | h'
              · exact hall i h h'
              · obtain rfl : i = n := by omega
                exact hdn
            · have htw := takeWhile_take wordC (c :: l') n hall (h2 hx)
              have htl : ((c :: l').takeWhile wordC).length = n := by rw [htw, List.length_take]; omega
              have htk : tokAt (c :: l') p = if ((c :: l').takeWhile wordC).length > 16 then (Tok.zero, p, 5) else (⟨if decide ((c :: l').takeWhile wordC ∈ words) then 3 else 1, (c :: l').takeWhile wordC, 0, p⟩, p + ((c :: l').takeWhile wordC).length, 0) := by
                rw [tokAt_cons, if_pos hlet']
              rw [htl] at htk
              have hcut : (s.take ((p + n : Nat) : Int).toNat).drop p = (c :: l').takeWhile wordC := by rw [Int.toNat_natCast, drop_take_len, hl, htw]
              rw [hcut, wrap_in (n := ((p + n : Nat) : Int) - (p : Int)) (by omega) (by omega)]
              refine cond_intro (fun h16 => ?_) fun h16 => ?_
              · rw [htk, if_pos (by simp at h16; omega)]
                refine ⟨o.wr 0 rfl rfl, fun w2 hw2 => ?_⟩
                have o := o.sets 0 hw2 rfl
                exact ⟨_, _, _, _, _, _, (o.at 0 rfl).whole, rfl, o.done⟩
              · rw [htk, if_neg (by simp at h16; omega)]
                refine ⟨fun kind w' => kind = (if decide ((c :: l').takeWhile wordC ∈ words) then 3 else 1) ∧ Own w.heap.size w w' [(b, gotC (Tok.zero, 0, 0))], ⟨fun x w' => x = decide ((c :: l').takeWhile wordC ∈ words) ∧ Own w.heap.size w w' [(b, gotC (Tok.zero, 0, 0))], ?_, ?_⟩, ?_⟩
                · intro w17 hw17
                  have o := o.drew hw17
                  refine ⟨by omega, call_then (rWords_spec w17) ?_⟩
                  rintro _ w18 ⟨lb, rfl, hcells, he⟩
                  have o := o.ext he
                  refine ⟨_, _, _, rfl, call_then (rIn_spec wordsR (by decide) _ 18 _ w18 hcells) ?_⟩
                  rintro _ _ ⟨rfl, rfl⟩
                  exact ⟨_, rfl, wordsR_iff _, o⟩
                · rintro _ x w20 ⟨rfl, o⟩
                  refine cond_intro (fun hx => ?_) fun hx => ?_
                  · exact ⟨by rw [hx]; rfl, o⟩
                  · exact ⟨by rw [hx]; rfl, o⟩
                · rintro _ kind w21 ⟨rfl, o⟩
                  refine ⟨by omega, o.wr 0 rfl rfl, fun w22 hw22 => ?_⟩
                  have o := o.sets 0 hw22 rfl
                  exact ⟨_, _, _, _, _, _, (o.at 0 rfl).whole, rfl, o.done⟩
        · -- a sign
          have hlet' : letC c = false := hlet
          have htk : tokAt (c :: l') p = if signOf (c :: l') = [] then (Tok.zero, p, 10) else (⟨4, signOf (c :: l'), 0, p⟩, p + (signOf (c :: l')).length, 0) := by
            rw [tokAt_cons, if_neg (by rw [hlet']; simp), if_neg (by rw [hdig']; simp)]
          have hsa := signOf_all (c :: l')
          refine call_then (rSigns_spec w1) ?_
          rintro _ w23 ⟨lb, rfl, hcells, he⟩
          have o := o.ext he
          refine ⟨_, _, _, rfl, fun i w' => CellsAt w' ⟨lb, 0, none⟩ (signsAll.map strV) ∧ Own w.heap.size w w' [(b, gotC (Tok.zero, 0, 0))] ∧ ∃ n : Nat, i = n ∧ n ≤ 25 ∧ ∀ j (h : j < signsAll.length), j < n → hasPre signsAll[j] (c :: l') = false, fun i _ => 25 - i.toNat, ⟨hcells, o, 0, rfl, by omega, fun _ _ h => absurd h (Nat.not_lt_zero _)⟩, ?_⟩
          rintro _ _ w24 ⟨hcells, o, n, rfl, hn, hall⟩
          have hs25 : signsAll.length = 25 := by decide
          refine cond_intro (fun hx => ?_) fun hx => ?_
          · have hlt : n < 25 := by simp at hx; omega
            have hlt' : n < signsAll.length := by omega
            have hcell : ∀ w', CellsAt w' ⟨lb, 0, none⟩ (signsAll.map strV) → w'.cell? ((⟨lb, 0, none⟩ : Addr).add ((n : Int).toNat * 1)) = some (.string (mkS signsAll[n])) := by
              intro w' h
              have := h n (by simpa using hlt')
              simp only [List.getElem_map, strV] at this
              simpa using this
            have hlen : signsAll[n].length ≤ 2 ∧ 0 < signsAll[n].length := by
              have : ∀ t ∈ signsAll, t.length ≤ 2 ∧ 0 < t.length := by decide
              exact this _ (List.getElem_mem hlt')
            refine ⟨by omega, signsAll[n], hcell _ hcells, fun x w' => x = hasPre signsAll[n] (c :: l') ∧ CellsAt w' ⟨lb, 0, none⟩ (signsAll.map strV) ∧ Own w.heap.size w w' [(b, gotC (Tok.zero, 0, 0))], ?_, ?_⟩
            · intro w25 hw25
              have o := o.drew hw25
              have hcells := (Ext.drew hw25).cells hcells
              have hww : IntKind.i64.wrap ((p : Int) + (signsAll[n].length : Int)) = ((p + signsAll[n].length : Nat) : Int) := by rw [wrap_in (by omega) (by omega)]; omega
              rw [hww]
              refine cond_intro (fun hf => ?_) fun hf => ?_
              · refine ⟨by simp at hf; omega, by omega, signsAll[n], hcell _ hcells, ?_, hcells, o⟩
                rw [Int.toNat_natCast, drop_take_len, hl]; rfl
              · refine ⟨?_, hcells, o⟩
                have hshort : (c :: l').length < signsAll[n].length := by simp at hf; omega
                unfold hasPre
                rw [List.take_of_length_le (by omega)]
                symm
                rw [beq_eq_false_iff_ne]
                intro e; rw [← e] at hshort; omega
            · rintro _ x w26 ⟨rfl, hcells, o⟩
              refine cond_intro (fun hp1 => ?_) fun hp1 => ?_
              · have hfind := find_at (hasPre · (c :: l')) signsAll n hlt' hall hp1
                rw [hfind] at hsa
                simp only at hsa
                have hww : IntKind.i64.wrap ((p : Int) + (signsAll[n].length : Int)) = ((p + signsAll[n].length : Nat) : Int) := by rw [wrap_in (by omega) (by omega)]; omega
                refine ⟨by omega, signsAll[n], hcell _ hcells, o.wr 0 rfl rfl, fun w2 hw2 => ?_⟩
                have o := o.sets 0 hw2 rfl
                refine ⟨_, _, _, _, _, _, (o.at 0 rfl).whole, ?_, o.done⟩
                rw [htk, hsa, if_neg (by intro e; rw [e] at hlen; simp at hlen), hww]; rfl
              · rw [wrap_in (by omega) (by omega)]
                refine ⟨⟨hcells, o, n + 1, by omega, by omega, fun j h hj => ?_⟩, by dsimp only; omega⟩
                rcases Nat.lt_or_ge j n with h' | h'
                · exact hall j h h'
                · obtain rfl : j = n := by omega
                  exact hp1
          · have hn25 : n = 25 := by simp at hx; omega
            subst hn25
            have hfind := find_none_of (hasPre · (c :: l')) signsAll fun j h => hall j h (by omega)
            rw [hfind] at hsa
            simp only at hsa
            rw [htk, if_pos hsa]
            refine ⟨o.wr 0 rfl rfl, fun w2 hw2 => ?_⟩
            have o := o.sets 0 hw2 rfl
            exact ⟨_, _, _, _, _, _, (o.at 0 rfl).whole, rfl, o.done⟩
end Go.Proofs.Ytahppcghgmhkiaa
