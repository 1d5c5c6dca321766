/- The law TokenBack. -/
import Derived.Test.YtahppcghgmhkiaaTokL
namespace Go.Proofs.Ytahppcghgmhkiaa
open Go.Vc Go.Tk

theorem SlAt.str {w : World} {a : Option Addr} {ss : List (List UInt8)} (h : SlAt w a (ss.map strV)) {i : Nat} (hi : i < ss.length) : ∃ p, a = some p ∧ w.cell? (p.add (i * 1)) = some (.string (mkS ss[i])) := by
  obtain ⟨p, rfl, hp⟩ := h.some_of (by intro e; simp at e; subst e; simp at hi)
  refine ⟨p, rfl, ?_⟩
  have := hp i (by simpa using hi)
  rw [Nat.mul_one]
  simpa [strV] using this

theorem TokenBack_spec (ss : List (List UInt8)) (a : Option Addr) (c : Nat) (B : List UInt8) (w : World) (h : SlAt w a (ss.map strV)) :
    Calls Try.prog 11 #[.slice a ss.length c, .string (mkS B)] w (Ret fun v w' => v = .bool true ∧ Ext w w') := by
  have live : ∀ w1, Ext w w1 → Calls Try.prog 27 #[] w1 (Ret fun v w' => ∃ x, v = .bool x ∧ (Value.bool x = .bool true ∧ Ext w w')) := fun w1 he => call_then (live8_spec w1) (by
    rintro _ w2 ⟨rfl, he2⟩
    exact ⟨_, rfl, rfl, he.trans he2⟩)
  refine L08_TokenBack_ok _ _ _ _ _ _ ?_
  intro _
  refine cond_intro (fun hx => live w (Ext.refl _)) fun hx => ?_
  have hx1 : ss.length ≤ 100 := by simp at hx; omega
  have hx2 : B.length ≤ 50 := by simp at hx; omega
  refine ⟨fun i w' => ∃ k : Nat, i = k ∧ k ≤ B.length ∧ (∀ j (hj : j < B.length), j < k → isBl B[j] = true) ∧ w = w', fun i _ => B.length - i.toNat, ⟨0, rfl, Nat.zero_le _, fun _ _ h => absurd h (by omega), rfl⟩, ?_⟩
  rintro _ _ _ ⟨k, rfl, hk, hbl, rfl⟩
  refine cond_intro (fun hx => ?_) fun hx => ?_
  · have hlt : k < B.length := by simpa using hx
    have hr : (0 : Int) ≤ k ∧ (k : Int) < B.length := ⟨by omega, by omega⟩
    refine ⟨hr, fun _ => hr, fun _ _ => hr, fun _ _ _ => hr, fun _ _ _ => hr, fun _ _ => hr, fun _ _ _ => hr, fun _ _ _ => hr, ?_⟩
    intro _
    rw [Int.toNat_natCast, getD_eq _ _ hlt]
    refine cond_intro (fun hb => live w (Ext.refl _)) fun hb => ?_
    have hb' : isBl B[k] = true := by
      rw [isBl_of]
      cases hh : (((B[k].toNat : Int) == 9) || ((B[k].toNat : Int) == 10) || ((B[k].toNat : Int) == 13) || ((B[k].toNat : Int) == 32)) with
      | true => rfl
      | false =>
        simp only [Bool.or_eq_false_iff] at hh
        simp only [bne, hh] at hb
        cases hb
    rw [wrap_in (by omega) (by omega)]
    refine ⟨⟨k + 1, by omega, by omega, fun j hj hj' => ?_, rfl⟩, by dsimp only; omega⟩
    rcases Nat.lt_or_ge j k with h | h
    · exact hbl j hj h
    · obtain rfl : j = k := by omega
      exact hb'
  · have hk' : k = B.length := by simp at hx; omega
    subst hk'
    have hB : ∀ c ∈ B, isBl c = true := fun c hc => by
      obtain ⟨j, hj, rfl⟩ := List.getElem_of_mem hc
      exact hbl j hj hj
    refine ⟨fun s i w' => ∃ k : Nat, i = k ∧ k ≤ ss.length ∧ s = conc B (ss.take k) ∧ (∀ x ∈ ss.take k, GoodW x ∧ x.length ≤ 100) ∧ Ext w w', fun _ i _ => ss.length - i.toNat, ⟨0, rfl, Nat.zero_le _, rfl, by simp, Ext.refl _⟩, ?_⟩
    rintro _ _ _ w4 ⟨k, rfl, hk, rfl, hgood, he4⟩
    refine cond_intro (fun hx => ?_) fun hx => ?_
    · have hlt : k < ss.length := by simpa using hx
      have hr : (0 : Int) ≤ k ∧ (k : Int) < ss.length := ⟨by omega, by omega⟩
      rw [Int.toNat_natCast]
      obtain ⟨p, rfl, _⟩ := SlAt.str h hlt
      have hcell : ∀ w', Ext w w' → w'.cell? (p.add (k * 1)) = some (.string (mkS ss[k])) := fun w' he => by
        obtain ⟨_, e, h2⟩ := SlAt.str (h.ext he) hlt
        cases e; exact h2
      refine ⟨hr, _, hcell _ he4, cond_intro (fun hl => live w4 he4) fun hl => ?_⟩
      have hl' : ss[k].length ≤ 100 := by simp at hl; omega
      refine ⟨hr, _, hcell _ he4, call_then (rNext_spec ss[k] (by omega) 0 w4) ?_⟩
      rintro _ w6 ⟨rfl, he6⟩
      refine ⟨_, _, _, _, _, _, rfl, ?_⟩
      intro b w7 hb hw7
      have o := ((Own.start w).ext (he4.trans he6)).alloc hb hw7
      refine ⟨o.wr 0 rfl rfl, fun w8 hw8 => ?_⟩
      have o := o.sets 0 hw8 rfl
      refine ⟨fun x w' => (x = false → GoodW ss[k]) ∧ Ext w w', ?_, ?_⟩
      · intro w9 hw9
        have o := o.drew hw9
        refine ⟨_, (o.at 0 rfl).cell rfl, cond_intro (fun _ => ⟨fun e => (by cases e), o.done⟩) fun h1 => ?_⟩
        refine ⟨_, (o.at 0 rfl).cell rfl, hr, _, hcell _ o.done, cond_intro (fun _ => ⟨fun e => (by cases e), o.done⟩) fun h2 => ?_⟩
        refine ⟨hr, _, hcell _ o.done, fun h3 => ⟨?_, ?_, ?_⟩, o.done⟩
        · simpa using h3
        · simpa using h1
        · simpa using h2
      · rintro _ x w10 ⟨hx, he10⟩
        refine cond_intro (fun _ => live w10 he10) fun hxf => ?_
        have hg := hx hxf
        have hcl := conc_len B (ss.take k) (fun x hx => (hgood x hx).2) hx2
        have htl : (ss.take k).length ≤ 100 := by simp; omega
        have hmax : IntKind.i64.max = 9223372036854775807 := rfl
        refine ⟨hr, _, hcell _ he10, ?_, ?_, ?_, ?_, ?_⟩
        · rw [hmax]; omega
        · rw [hmax]; simp only [List.length_append, List.length_cons, List.length_nil]; omega
        · rw [hmax]; simp only [List.length_append, List.length_cons, List.length_nil]; omega
        · rw [wrap_in (by omega) (by omega)]
          have ht : ss.take (k + 1) = ss.take k ++ [ss[k]] := by rw [List.take_append_getElem]
          refine ⟨k + 1, by omega, by omega, ?_, ?_, he10⟩
          · rw [ht, conc_snoc]
          · rw [ht]
            intro x hx
            rcases List.mem_append.1 hx with h | h
            · exact hgood x h
            · rw [List.mem_singleton.1 h]; exact ⟨hg, hl'⟩
        · rw [wrap_in (by omega) (by omega)]; dsimp only; omega
    · have hk' : k = ss.length := by simp at hx; omega
      subst hk'
      rw [List.take_length] at hgood ⊢
      have hcl := conc_len B ss (fun x hx => (hgood x hx).2) hx2
      obtain ⟨ts, t, n, hall, htx, htk⟩ := all_conc B hB ss (by omega) (fun x hx => (hgood x hx).1)
      have htl : ts.length = ss.length := by rw [← htx]; simp
      refine call_then (All_spec (conc B ss) w4) ?_
      rintro _ w12 ⟨a', c', rfl, hsl, he12⟩
      rw [hall] at hsl ⊢
      have he := he4.trans he12
      refine ⟨_, _, _, _, _, rfl, fun _ => cond_f ?_ ?_⟩
      · rw [wrap_in (by omega) (by omega)]; simp [htl]
      refine ⟨fun i w' => ∃ k : Nat, i = k ∧ k ≤ ss.length ∧ Ext w12 w', fun i _ => ss.length - i.toNat, ⟨0, rfl, Nat.zero_le _, Ext.refl _⟩, ?_⟩
      rintro _ _ w13 ⟨k, rfl, hk, he13⟩
      refine cond_intro (fun hx => ?_) fun hx => ?_
      · have hlt : k < ss.length := by simpa using hx
        intro w14 hw14
        have he14 := he13.trans (.drew hw14)
        obtain ⟨p, rfl, hp⟩ := (hsl.ext he14).elem tokC_len (by decide) (i := k) (by simp; omega)
        obtain ⟨q, rfl, hq⟩ := SlAt.str (h.ext (he.trans he14)) hlt
        have htk : ((ts ++ [t])[k]'(by simp; omega)).text = ss[k] := by
          rw [List.getElem_append_left (by omega)]
          have : ss[k] = (ts.map (·.text))[k]'(by simp; omega) := by simp only [htx]
          rw [this, List.getElem_map]
        rw [Int.toNat_natCast]
        refine ⟨⟨by omega, by simp; omega⟩, ss[k], ?_, ⟨by omega, by omega⟩, _, hq, cond_f (by simp) ?_⟩
        · have := hp 1 (by rw [tokC_len]; decide)
          rw [← htk]
          exact this
        · rw [wrap_in (by omega) (by omega)]
          exact ⟨⟨k + 1, by omega, by omega, he14⟩, by dsimp only; omega⟩
      · obtain ⟨p, rfl, hp⟩ := (hsl.ext he13).elem tokC_len (by decide) (i := ss.length) (by simp; omega)
        have h0 := hp 0 (by rw [tokC_len]; decide)
        have hlast : (ts ++ [t])[ss.length]'(by simp; omega) = t := by simp [← htl]
        refine ⟨⟨by omega, by simp; omega⟩, 0, ?_, cond_t (by simp) (live w13 (he.trans he13))⟩
        rw [hlast] at h0
        rw [Int.toNat_natCast]
        simp only [Addr.add, tokC] at h0 ⊢
        simpa [htk] using h0
end Go.Proofs.Ytahppcghgmhkiaa
