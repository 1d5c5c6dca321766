/- Lines: contracts. -/
import Derived.Test.YtojfilbjdnnoeaaDoorLtS
import Derived.Test.YtojfilbjdnnoeaaDoorSpotA
import Derived.Test.YtojfilbjdnnoeaaDoorWspot
import Derived.Test.YtojfilbjdnnoeaaDoorLoop
import Derived.Lib.Bytealg
namespace Go.Proofs.YtojfilbjdnnoeaaDoor
open Go.Vc Go.Lv Go.Ty Go.Sp
theorem indexByteString_spec (s : List UInt8) (c : Nat) (w : World) (K : Value → World → Prop) (hk : K (.int .i64 (Lib.indexByte s c.toUInt8)) w) : ExtOk Tryd.prog 76 #[.string (mkS s), .int .u8 (c : Int)] K w := by
  refine ⟨_, w, ?_, hk⟩
  rw [run_callFunc_extern Tryd.func76 (by kernel_rfl) (by kernel_rfl) (by kernel_rfl) (e := Extern.BytealgIndexByte.indexByte) (by kernel_rfl), Lib.run_indexByteString]
  rfl
theorem count_v (s : List UInt8) (K : Int → Prop) (h : K (s.count 10 : Nat)) : V_strings_Count s [10] K := by
  intro m w hm
  refine strings_Count_ok s [10] _ w (cond_f rfl (cond_t rfl ⟨by simp, _, w, ?_, _, rfl, _, h, rfl, Keep.refl _ _⟩))
  rw [run_callFunc_extern Tryd.func46 (by kernel_rfl) (by kernel_rfl) (by kernel_rfl) (e := Extern.BytealgCount.count) (by kernel_rfl), Lib.run_countString]
  rfl
theorem index_v (s : List UInt8) (K : Int → Prop) (h : K (Lib.indexByte s 10)) : V_internal_stringslite_Index s [10] K := by
  intro m w hm
  refine internal_stringslite_Index_ok s [10] _ w fun _ => cond_intro (fun hc => ?_) fun _ => cond_t rfl ⟨by simp, ?_⟩
  · have : s = [10] := by
      have h' : [10] = s := by simpa using hc
      exact h'.symm
    subst this
    exact ⟨_, h, rfl, Keep.refl _ _⟩
  · refine call_then (internal_stringslite_IndexByte_ok s (10 : Nat) (fun v w' => v = .int .i64 (Lib.indexByte s 10) ∧ w = w') w (indexByteString_spec s 10 w _ ⟨_, rfl, rfl, rfl⟩)) ?_
    rintro _ _ ⟨rfl, rfl⟩
    exact ⟨_, rfl, _, h, rfl, Keep.refl _ _⟩
theorem index_bef : ∀ (s : List UInt8), ((10 : UInt8) ∈ s → Lib.indexByte s 10 = ((bef s).length : Int) ∧ (bef s).length < s.length ∧ s.take (bef s).length = bef s) ∧ ((10 : UInt8) ∉ s → Lib.indexByte s 10 = -1)
  | [] => by simp [Lib.indexByte]
  | c :: l => by
    have ih := index_bef l
    by_cases hc : c = 10
    · subst hc
      refine ⟨fun _ => ?_, fun h => absurd (by simp) h⟩
      have : bef (10 :: l) = [] := by simp [bef, isNl]
      rw [this]
      exact ⟨by simp [Lib.indexByte], by simp, by simp⟩
    · have hb : bef (c :: l) = c :: bef l := by simp [bef, isNl, hc]
      refine ⟨fun h => ?_, fun h => ?_⟩
      · have hl : (10 : UInt8) ∈ l := by simpa [Ne.symm hc] using h
        obtain ⟨h1, h2, h3⟩ := ih.1 hl
        rw [hb]
        refine ⟨?_, by simpa using h2, by simpa using h3⟩
        have : ¬ ((bef l).length : Int) = -1 := by omega
        simp [Lib.indexByte, hc, h1, this]
      · have hl : (10 : UInt8) ∉ l := fun h' => h (by simp [h'])
        simp [Lib.indexByte, hc, ih.2 hl]
theorem cut_v (s : List UInt8) (hs : s.length < 4611686018427387904) (K : List UInt8 → List UInt8 → Bool → Prop) (h1 : (10 : UInt8) ∈ s → K (bef s) (aft s) true) (h2 : (10 : UInt8) ∉ s → K s [] false) : V_strings_Cut s [10] K := by
  refine strings_Cut_lift _ _ _ (internal_stringslite_Cut_lift _ _ _ (index_v s _ ?_))
  obtain ⟨i1, i2⟩ := index_bef s
  by_cases hm : (10 : UInt8) ∈ s
  · obtain ⟨e1, e2, e3⟩ := i1 hm
    rw [e1]
    have hw : IntKind.i64.wrap (((bef s).length : Int) + (([10] : List UInt8).length : Int)) = ((bef s).length : Int) + 1 := wrap_in (by simp; omega) (by simp; omega)
    refine cond_t (by simp) ⟨⟨by omega, by omega⟩, ?_⟩
    rw [hw]
    refine ⟨⟨by omega, by omega⟩, ?_⟩
    rw [Int.toNat_natCast, e3, show (((bef s).length : Int) + 1).toNat = (bef s).length + 1 by omega]
    exact h1 hm
  · rw [i2 hm]
    exact cond_f rfl (h2 hm)
theorem lines_v (s : List UInt8) (hs : s.length < 4611686018427387904) (K : Int → Prop) (h : K ((s.count 10 : Nat) + 1)) : V_spot_Lines s K := by
  refine spot_Lines_lift _ _ (count_v s _ ?_)
  have := List.count_le_length (a := (10 : UInt8)) (l := s)
  rw [wrap_in (by omega) (by omega)]
  exact h
theorem each_it (s : List UInt8) (hs : s.length < 4611686018427387904) : It_spot_Each_1 s (enumF 1 (lns s)) := by
  refine spot_Each_1_it _ _ ⟨fun rest more n pre stop m => stop = false ∧ (more = true → 1 ≤ n ∧ n + rest.length ≤ s.length + 1) ∧ (if more then pre ++ enumF n (lns rest) = enumF 1 (lns s) else pre = enumF 1 (lns s)) ∧ m = (if more then rest.length + 1 else 0) ∧ rest.length ≤ s.length, ⟨_, rfl, fun _ => ⟨by omega, by omega⟩, by simp, rfl, Nat.le_refl _⟩, ?_⟩
  rintro rest more n pre stop m ⟨rfl, hn, hp, rfl, hr⟩
  cases more with
  | false => exact fun _ => hp
  | true =>
    refine ⟨rfl, ?_⟩
    obtain ⟨hn, hnl⟩ := hn rfl
    rw [if_pos rfl] at hp
    rw [← hp]
    refine cut_v rest (by omega) _ (fun hm => ?_) fun hm => ?_
    · have hc := lns_cut rest
      rw [if_pos hm] at hc
      obtain ⟨e1, e2, e3⟩ := (index_bef rest).1 hm
      have ha : (aft rest).length = rest.length - ((bef rest).length + 1) := by simp [aft]
      rw [hc, wrap_in (by omega) (by omega)]
      refine ⟨by simp [enumF], ⟨(aft rest).length + 1, by rw [if_pos rfl]; omega, rfl, fun _ => ⟨by omega, by omega⟩, ?_, rfl, by omega⟩, nofun⟩
      rw [if_pos rfl, List.append_assoc]; rfl
    · have hc := lns_cut rest
      rw [if_neg hm] at hc
      rw [hc]
      exact ⟨by simp [enumF], ⟨0, by rw [if_pos rfl]; omega, rfl, nofun, rfl, rfl, by simp⟩, nofun⟩
def lensum : List (List UInt8) → Int
  | [] => 0
  | x :: r => x.length + 1 + lensum r
theorem lensum_nn : ∀ l, 0 ≤ lensum l
  | [] => by simp [lensum]
  | x :: r => by have := lensum_nn r; rw [lensum]; omega
theorem lensum_lns : ∀ (s : List UInt8), lensum (lns s) = s.length + 1
  | [] => by simp [lns, lensum]
  | c :: l => by
    have ih := lensum_lns l
    by_cases hc : c = 10
    · subst hc
      rw [lns_nl, lensum, ih]; simp; omega
    · obtain ⟨x, r, hx⟩ := lns_ne l
      rw [lns_other hc hx, lensum]
      rw [hx, lensum] at ih
      simp only [List.length_cons]; omega
/-- At, line by line -/
theorem lns_len : ∀ (s : List UInt8), (lns s).length = s.count 10 + 1
  | [] => by simp [lns]
  | c :: l => by
    have ih := lns_len l
    by_cases hc : c = 10
    · subst hc
      rw [lns_nl, List.length_cons, ih]; simp
    · obtain ⟨x, r, hx⟩ := lns_ne l
      rw [lns_other hc hx, List.count_cons_of_ne hc, ← ih, hx]; simp
theorem lns_snoc (c : UInt8) : ∀ (p : List UInt8) (r : List (List UInt8)) (z : List UInt8), lns p = r ++ [z] → lns (p ++ [c]) = if c = 10 then r ++ [z] ++ [[]] else r ++ [z ++ [c]]
  | [], r, z, h => by
    have hr : r = [] ∧ z = [] := by
      cases r with
      | nil => simp [lns] at h; exact ⟨rfl, h⟩
      | cons a r => simp [lns] at h
    obtain ⟨rfl, rfl⟩ := hr
    by_cases hc : c = 10 <;> simp [lns, hc]
  | d :: q, r, z, h => by
    by_cases hd : d = 10
    · subst hd
      rw [lns_nl] at h
      cases r with
      | nil =>
        obtain ⟨x, t, hx⟩ := lns_ne q
        rw [hx] at h; simp at h
      | cons a r =>
        simp only [List.cons_append, List.cons.injEq] at h
        have ih := lns_snoc c q r z h.2
        rw [List.cons_append, lns_nl, ih, ← h.1]
        by_cases hc : c = 10 <;> simp [hc]
    · obtain ⟨x, t, hx⟩ := lns_ne q
      rw [lns_other hd hx] at h
      cases r with
      | nil =>
        simp only [List.nil_append, List.cons.injEq] at h
        obtain ⟨rfl, rfl⟩ := h
        have ih := lns_snoc c q [] x hx
        by_cases hc : c = 10
        · rw [if_pos hc] at ih ⊢
          rw [List.cons_append, lns_other hd ih]; rfl
        · rw [if_neg hc] at ih ⊢
          rw [List.cons_append, lns_other hd ih]; rfl
      | cons a r =>
        simp only [List.cons_append, List.cons.injEq] at h
        obtain ⟨rfl, rfl⟩ := h
        have ih := lns_snoc c q (x :: r) z hx
        by_cases hc : c = 10
        · rw [if_pos hc] at ih ⊢
          rw [List.cons_append, lns_other hd ih]; rfl
        · rw [if_neg hc] at ih ⊢
          rw [List.cons_append, lns_other hd ih]; rfl
theorem lns_last (p : List UInt8) : ∃ r z, lns p = r ++ [z] := by
  obtain ⟨x, t, h⟩ := lns_ne p
  rw [h]
  exact ⟨(x :: t).dropLast, (x :: t).getLast (by simp), (List.dropLast_concat_getLast _).symm⟩
theorem all_v (s : List UInt8) (hs : s.length ≤ 600) (K : List (List UInt8) → Prop) (h : K (lns s)) : V_R07_All s K := by
  refine R07_All_lift _ _ ⟨fun l i n => ∃ j : Nat, i = j ∧ j ≤ s.length ∧ l = lns (s.take j) ∧ n = s.length - j, ⟨_, 0, rfl, by omega, by simp [lns], rfl⟩, ?_⟩
  rintro _ _ _ ⟨j, rfl, hj, rfl, rfl⟩
  refine cond_intro (fun hc => ?_) fun hc => ?_
  · have hlt : j < s.length := by simpa using hc
    have ht : s.take (j + 1) = s.take j ++ [s.getD j 0] := by
      rw [List.take_add_one, List.getD, List.getElem?_eq_getElem hlt]; rfl
    have hw1 : IntKind.i64.wrap ((j : Int) + 1) = (j + 1 : Nat) := by rw [wrap_in (by omega) (by omega)]; rfl
    obtain ⟨r, z, hrz⟩ := lns_last (s.take j)
    have hsn := lns_snoc (s.getD j 0) (s.take j) r z hrz
    rw [← ht] at hsn
    have hll := lns_len (s.take j)
    have hcnt := List.count_le_length (a := (10 : UInt8)) (l := s.take j)
    have htl : (s.take j).length ≤ j := by simp; omega
    rw [hrz] at hll
    have hrl : r.length = (s.take j).count 10 := by simpa using hll
    refine ⟨fun l => l = lns (s.take (j + 1)), ⟨⟨by omega, by omega⟩, ?_⟩, ?_⟩
    · rw [hrz, hsn, Int.toNat_natCast]
      have e1 : IntKind.i64.wrap (((r ++ [z]).length : Int) - 1) = (r.length : Int) := by rw [wrap_in (by simp only [List.length_append, List.length_cons, List.length_nil]; omega) (by simp only [List.length_append, List.length_cons, List.length_nil]; omega)]; simp
      refine cond_intro (fun hd => ?_) fun hd => ?_
      · have hd' : s.getD j 0 = 10 := by
          have := eq_of_beq hd
          apply UInt8.toNat_inj.1
          have h10 : (10 : UInt8).toNat = 10 := rfl
          omega
        rw [if_pos hd']
        exact ⟨by simp; omega, rfl⟩
      · have hd' : s.getD j 0 ≠ 10 := fun h10 => by rw [h10] at hd; simp at hd
        rw [if_neg hd', e1, hw1, Int.toNat_natCast, Int.toNat_natCast]
        have hb : (0 : Int) ≤ (r.length : Int) ∧ (r.length : Int) < ((r ++ [z]).length : Int) := ⟨by omega, by simp; omega⟩
        refine ⟨hb, fun x hx => ?_⟩
        have hxz : x = z := by simpa using hx.symm
        subst hxz
        have hpc : ((s.take (j + 1)).drop j) = [s.getD j 0] := by
          rw [ht, List.drop_append_of_le_length (by simp; omega), List.drop_of_length_le (by simp; omega)]; rfl
        rw [hpc]
        refine ⟨⟨⟨by omega, by omega⟩, by omega, by omega⟩, ?_, hb, fun x1 _ => ?_⟩
        · have hz : x.length ≤ j := by
            have h1 := lensum_lns (s.take j)
            rw [hrz] at h1
            have h2 : ∀ (r : List (List UInt8)) (z : List UInt8), (z.length : Int) + 1 ≤ lensum (r ++ [z]) := by
              intro r z
              induction r with
              | nil => simp [lensum]
              | cons a r ih => rw [List.cons_append, lensum]; omega
            have := h2 r x
            omega
          have : IntKind.i64.max = 9223372036854775807 := rfl
          rw [this]
          simp only [List.length_cons, List.length_nil]
          omega
        · show List.set _ _ _ = _
          simp
    · rintro _ rfl
      exact ⟨s.length - (j + 1), by omega, j + 1, hw1, by omega, rfl, rfl⟩
  · have : j = s.length := by simp at hc; omega
    subst this
    rw [List.take_length]; exact h
end Go.Proofs.YtojfilbjdnnoeaaDoor
