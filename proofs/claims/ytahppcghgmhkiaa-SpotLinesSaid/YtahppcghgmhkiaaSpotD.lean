/- The lines of a text. -/
import Derived.Test.YtahppcghgmhkiaaSpotC
namespace Go.Proofs.Ytahppcghgmhkiaa
open Go.Vc Go.Lv Go.Ty Go.Sp

theorem lns_len : ∀ (s : List UInt8), (lns s).length = s.count 10 + 1
  | [] => by simp [lns]
  | c :: l => by
    have ih := lns_len l
    by_cases hc : c = 10
    · subst hc
      rw [lns_nl, List.length_cons, ih]; simp
    · obtain ⟨x, r, hx⟩ := lns_ne l
      rw [lns_other hc hx, List.count_cons_of_ne hc, ← ih, hx]; simp
theorem lns_snoc (c : UInt8) : ∀ (p : List UInt8) (r : List (List UInt8)) (z : List UInt8), lns p = r ++ [z] → lns (p ++ [c]) = if c = 10 then r ++ [z] ++ [[]] else r ++ [z ++ [c]]
  | [], r, z, h => by
    have hr : r = [] ∧ z = [] := by
      cases r with
      | nil => simp [lns] at h; exact ⟨rfl, h⟩
      | cons a r => simp [lns] at h
    obtain ⟨rfl, rfl⟩ := hr
    by_cases hc : c = 10 <;> simp [lns, hc]
  | d :: q, r, z, h => by
    by_cases hd : d = 10
    · subst hd
      rw [lns_nl] at h
      cases r with
      | nil =>
        obtain ⟨x, t, hx⟩ := lns_ne q
        rw [hx] at h; simp at h
      | cons a r =>
        simp only [List.cons_append, List.cons.injEq] at h
        have ih := lns_snoc c q r z h.2
        rw [List.cons_append, lns_nl, ih, ← h.1]
        by_cases hc : c = 10 <;> simp [hc]
    · obtain ⟨x, t, hx⟩ := lns_ne q
      rw [lns_other hd hx] at h
      cases r with
      | nil =>
        simp only [List.nil_append, List.cons.injEq] at h
        obtain ⟨rfl, rfl⟩ := h
        have ih := lns_snoc c q [] x hx
        by_cases hc : c = 10
        · rw [if_pos hc] at ih ⊢
          rw [List.cons_append, lns_other hd ih]; rfl
        · rw [if_neg hc] at ih ⊢
          rw [List.cons_append, lns_other hd ih]; rfl
      | cons a r =>
        simp only [List.cons_append, List.cons.injEq] at h
        obtain ⟨rfl, rfl⟩ := h
        have ih := lns_snoc c q (x :: r) z hx
        by_cases hc : c = 10
        · rw [if_pos hc] at ih ⊢
          rw [List.cons_append, lns_other hd ih]; rfl
        · rw [if_neg hc] at ih ⊢
          rw [List.cons_append, lns_other hd ih]; rfl
theorem lns_last (p : List UInt8) : ∃ r z, lns p = r ++ [z] := by
  obtain ⟨x, t, h⟩ := lns_ne p
  rw [h]
  exact ⟨(x :: t).dropLast, (x :: t).getLast (by simp), (List.dropLast_concat_getLast _).symm⟩
theorem all_v (s : List UInt8) (hs : s.length ≤ 600) (K : List (List UInt8) → Prop) (h : K (lns s)) : V_R07_All s K := by
  refine R07_All_lift _ _ ⟨fun l i n => ∃ j : Nat, i = j ∧ j ≤ s.length ∧ l = lns (s.take j) ∧ n = s.length - j, ⟨_, 0, rfl, by omega, by simp [lns], rfl⟩, ?_⟩
  rintro _ _ _ ⟨j, rfl, hj, rfl, rfl⟩
  refine cond_intro (fun hc => ?_) fun hc => ?_
  · have hlt : j < s.length := by simpa using hc
    have ht : s.take (j + 1) = s.take j ++ [s.getD j 0] := by
      rw [List.take_add_one, List.getD, List.getElem?_eq_getElem hlt]; rfl
    have hw1 : IntKind.i64.wrap ((j : Int) + 1) = (j + 1 : Nat) := by rw [wrap_in (by omega) (by omega)]; rfl
    obtain ⟨r, z, hrz⟩ := lns_last (s.take j)
    have hsn := lns_snoc (s.getD j 0) (s.take j) r z hrz
    rw [← ht] at hsn
    have hll := lns_len (s.take j)
    have hcnt := List.count_le_length (a := (10 : UInt8)) (l := s.take j)
    have htl : (s.take j).length ≤ j := by simp; omega
    rw [hrz] at hll
    have hrl : r.length = (s.take j).count 10 := by simpa using hll
    refine ⟨fun l => l = lns (s.take (j + 1)), ⟨⟨by omega, by omega⟩, ?_⟩, ?_⟩
    · rw [hrz, hsn, Int.toNat_natCast]
      have e1 : IntKind.i64.wrap (((r ++ [z]).length : Int) - 1) = (r.length : Int) := by rw [wrap_in (by simp only [List.length_append, List.length_cons, List.length_nil]; omega) (by simp only [List.length_append, List.length_cons, List.length_nil]; omega)]; simp
      refine cond_intro (fun hd => ?_) fun hd => ?_
      · have hd' : s.getD j 0 = 10 := by
          have := eq_of_beq hd
          apply UInt8.toNat_inj.1
          have h10 : (10 : UInt8).toNat = 10 := rfl
          omega
        rw [if_pos hd']
        exact ⟨by simp; omega, rfl⟩
      · have hd' : s.getD j 0 ≠ 10 := fun h10 => by rw [h10] at hd; simp at hd
        rw [if_neg hd', e1, hw1, Int.toNat_natCast, Int.toNat_natCast]
        have hb : (0 : Int) ≤ (r.length : Int) ∧ (r.length : Int) < ((r ++ [z]).length : Int) := ⟨by omega, by simp; omega⟩
        refine ⟨hb, fun x hx => ?_⟩
        have hxz : x = z := by simpa using hx.symm
        subst hxz
        have hpc : ((s.take (j + 1)).drop j) = [s.getD j 0] := by
          rw [ht, List.drop_append_of_le_length (by simp; omega), List.drop_of_length_le (by simp; omega)]; rfl
        rw [hpc]
        refine ⟨⟨⟨by omega, by omega⟩, by omega, by omega⟩, ?_, hb, fun x1 _ => ?_⟩
        · have hz : x.length ≤ j := by
            have h1 := lensum_lns (s.take j)
            rw [hrz] at h1
            have h2 : ∀ (r : List (List UInt8)) (z : List UInt8), (z.length : Int) + 1 ≤ lensum (r ++ [z]) := by
              intro r z
              induction r with
              | nil => simp [lensum]
              | cons a r ih => rw [List.cons_append, lensum]; omega
            have := h2 r x
            omega
          have : IntKind.i64.max = 9223372036854775807 := rfl
          rw [this]
          simp only [List.length_cons, List.length_nil]
          omega
        · show List.set _ _ _ = _
          simp
    · rintro _ rfl
      exact ⟨s.length - (j + 1), by omega, j + 1, hw1, by omega, rfl, rfl⟩
  · have : j = s.length := by simp at hc; omega
    subst this
    rw [List.take_length]; exact h
theorem enumF_get : ∀ (l : List (List UInt8)) (k : Int) (i : Nat), (enumF k l)[i]? = (l[i]?).map fun x => (k + i, x)
  | [], k, i => by simp [enumF]
  | x :: l, k, 0 => by simp [enumF]
  | x :: l, k, i + 1 => by
    simp only [enumF, List.getElem?_cons_succ, enumF_get l (k + 1) i]
    congr 1; funext x; simp; omega
theorem enumF_len : ∀ (l : List (List UInt8)) (k : Int), (enumF k l).length = l.length
  | [], _ => rfl
  | x :: l, k => by simp [enumF, enumF_len l]
theorem line_v (s : List UInt8) (n : Int) (hs : s.length ≤ 600) (K : List UInt8 → Bool → Prop) (h1 : ∀ x, 1 ≤ n → (lns s)[(n - 1).toNat]? = some x → K x true) (h2 : n < 1 ∨ n > (lns s).length → K [] false) : V_spot_Line s n K := by
  refine spot_Line_lift _ _ _ (spot_Each_lift _ _ ⟨enumF 1 (lns s), each_it s (by omega), fun pre _ _ => n < 1 ∨ n > pre.length, ?_, ?_, ?_⟩)
  · simp; omega
  · intro pre x x1 _ _ hp hI
    have hg := prefix_get hp
    rw [enumF_get, Option.map_eq_some_iff] at hg
    obtain ⟨y, hy, he⟩ := hg
    cases he
    refine cond_intro (fun hc => ?_) fun hc => ?_
    · have hc := eq_of_beq hc
      refine h1 _ (by omega) ?_
      rw [show (n - 1).toNat = pre.length by omega]; exact hy
    · have hc : ¬ (1 + (pre.length : Int)) = n := fun e => by rw [e] at hc; simp at hc
      simp; omega
  · intro _ _ hI
    rw [enumF_len] at hI
    exact h2 hI
theorem SpotLines_v (s : List UInt8) (n stop : Int) (K : Bool → Prop) (h : K true) : V_L07_SpotLines s n stop K := by
  refine L07_SpotLines_lift _ _ _ _ ⟨fun x => x = decide ((s.length : Int) > 600), cond_intro (fun hc => hc.symm) (fun hc => live_v _ (by rw [hc]; rfl)), ?_⟩
  rintro _ rfl
  refine cond_intro (fun _ => live_v _ h) fun hc => ?_
  have hs : s.length ≤ 600 := by simp at hc; omega
  refine all_v s hs _ ?_
  have hlen := lns_len s
  have hcnt := List.count_le_length (a := (10 : UInt8)) (l := s)
  have fin : V_spot_Lines s (fun x13 => cond (x13 == ((lns s).length : Int)) (V_L07_live (fun x14 => K x14)) (K false)) := by
    refine lines_v s (by omega) _ (cond_t ?_ (live_v _ h))
    rw [hlen]; simp
  have rest : ∀ v : Bool, V_spot_Each s (fun v1 => ∃ xs : List ((Int) × (List UInt8)), It_spot_Each_1 v1 xs ∧
          ∃ (I : List ((Int) × (List UInt8)) → Int → Bool → Prop), I [] 0 v ∧
          (∀ (pre : List ((Int) × (List UInt8))) (x7 : Int) (x8 : List UInt8) (v2 : Int) (v3 : Bool), (pre ++ [(x7, x8)]) <+: xs → I pre v2 v3 →
            ∃ (J4 : Bool → Prop),
            (cond (decide (v2 ≥ ((lns s).length : Int)))
                (J4 true)
                (cond (x7 != (IntKind.i64.wrap (v2 + 1)))
                  (J4 true)
                  (((0 : Int) ≤ v2 ∧ v2 < ((lns s).length : Int)) ∧
                  ∀ x18, (lns s)[v2.toNat]? = some x18 →
                  J4 (!(x8 == x18))))) ∧
            ∀ (x17 : Bool), J4 x17 →
            cond (x17)
              (K false)
              (cond ((IntKind.i64.wrap (v2 + 1)) == stop)
                (cond ((IntKind.i64.wrap (v2 + 1)) == ((lns s).length : Int))
                  (V_spot_Lines s (fun x9 =>
                    cond (x9 == ((lns s).length : Int))
                      (V_L07_live  (fun x10 =>
                        K x10))
                      (K false)))
                  (cond ((IntKind.i64.wrap (v2 + 1)) == stop)
                    (V_spot_Lines s (fun x11 =>
                      cond (x11 == ((lns s).length : Int))
                        (V_L07_live  (fun x12 =>
                          K x12))
                        (K false)))
                    (K false)))
                (I (pre ++ [(x7, x8)]) (IntKind.i64.wrap (v2 + 1)) v3))) ∧
          ∀ (v2 : Int) (v3 : Bool), I xs v2 v3 →
          cond (v2 == ((lns s).length : Int))
            (V_spot_Lines s (fun x13 =>
              cond (x13 == ((lns s).length : Int))
                (V_L07_live  (fun x14 =>
                  K x14))
                (K false)))
            (cond (v2 == stop)
              (V_spot_Lines s (fun x15 =>
                cond (x15 == ((lns s).length : Int))
                  (V_L07_live  (fun x16 =>
                    K x16))
                  (K false)))
              (K false))) := by
    intro v
    refine spot_Each_lift _ _ ⟨enumF 1 (lns s), each_it s (by omega), fun pre v2 _ => v2 = pre.length, rfl, ?_, ?_⟩
    · rintro pre x7 x8 _ _ hp rfl
      have hg := prefix_get hp
      rw [enumF_get, Option.map_eq_some_iff] at hg
      obtain ⟨y, hy, he⟩ := hg
      cases he
      have hlt : pre.length < (lns s).length := (List.getElem?_eq_some_iff.1 hy).1
      have hw : IntKind.i64.wrap ((pre.length : Int) + 1) = (pre.length : Int) + 1 := wrap_in (by omega) (by omega)
      rw [hw]
      refine ⟨fun b => b = false, cond_f (by simp; omega) (cond_f (by simp; omega) ⟨⟨by omega, by omega⟩, fun x18 hx => ?_⟩), ?_⟩
      · rw [Int.toNat_natCast, hy] at hx
        cases hx; simp
      · rintro _ rfl
        refine cond_f rfl (cond_intro (fun hst => ?_) fun _ => ?_)
        · exact cond_intro (fun _ => fin) fun _ => cond_t hst fin
        · show _ = _
          simp
    · rintro _ _ rfl
      exact cond_t (by rw [enumF_len]; simp) fin
  refine line_v s n hs _ (fun x hn hx => ?_) fun hn => ?_
  · have hlt : (n - 1).toNat < (lns s).length := (List.getElem?_eq_some_iff.1 hx).1
    refine ⟨fun b => b = false, ⟨fun b => b = false, cond_f (by simp; omega) (by show _ = _; simp; omega), ?_⟩, fun v _ => rest v⟩
    rintro _ rfl
    have hw : IntKind.i64.wrap (n - 1) = n - 1 := wrap_in (by omega) (by omega)
    rw [cond_false, hw]
    refine ⟨fun b => b = false, ⟨⟨by omega, by omega⟩, fun x6 hx6 => ?_⟩, ?_⟩
    · rw [hx] at hx6
      cases hx6
      exact cond_f (by simp) rfl
    · rintro _ rfl
      rfl
  · refine ⟨fun b => b = false, ⟨fun b => b = true, cond_intro (fun _ => rfl) (fun h' => by show _ = _; simp at h' ⊢; omega), ?_⟩, fun v _ => rest v⟩
    rintro _ rfl
    rfl
theorem SpotLines_spec (s : List UInt8) (i j : Int) (w : World) : Calls Try.prog 12 #[.string (mkS s), .int .i64 i, .int .i64 j] w (Ret fun v w' => v = .bool true ∧ Ext w w') := by
  refine call_then (SpotLines_v s i j (· = true) rfl [] w nofun) ?_
  rintro _ _ ⟨_, rfl, rfl, k⟩
  exact ⟨rfl, k.ext⟩
end Go.Proofs.Ytahppcghgmhkiaa
