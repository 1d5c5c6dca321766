/- What the functions of spot answer. -/
import Derived.Test.YtahppcghgmhkiaaLtS
import Derived.Test.YtahppcghgmhkiaaSpotA
import Derived.Test.YtahppcghgmhkiaaWspot
import Derived.Test.YtahppcghgmhkiaaTokD
namespace Go.Proofs.Ytahppcghgmhkiaa
open Go.Vc Go.Lv Go.Ty Go.Sp

theorem count_v (s : List UInt8) (K : Int → Prop) (h : K (s.count 10 : Nat)) : V_strings_Count s [10] K := by
  intro m w hm
  refine strings_Count_ok s [10] _ w (cond_f rfl (cond_t rfl ⟨by simp, _, w, ?_, _, rfl, _, h, rfl, Keep.refl _ _⟩))
  rw [run_callFunc_extern Try.func77 (by kernel_rfl) (by kernel_rfl) (by kernel_rfl) (e := Extern.BytealgCount.count) (by kernel_rfl), Lib.run_countString]
  rfl
theorem index_v (s : List UInt8) (K : Int → Prop) (h : K (Lib.indexByte s 10)) : V_internal_stringslite_Index s [10] K := by
  intro m w hm
  refine internal_stringslite_Index_ok s [10] _ w fun _ => cond_intro (fun hc => ?_) fun _ => cond_t rfl ⟨by simp, ?_⟩
  · have : s = [10] := by
      have h' : [10] = s := by simpa using hc
      exact h'.symm
    subst this
    exact ⟨_, h, rfl, Keep.refl _ _⟩
  · refine call_then (internal_stringslite_IndexByte_ok s (10 : Nat) (fun v w' => v = .int .i64 (Lib.indexByte s 10) ∧ w = w') w (indexByteString_spec s 10 w _ ⟨_, rfl, rfl, rfl⟩)) ?_
    rintro _ _ ⟨rfl, rfl⟩
    exact ⟨_, rfl, _, h, rfl, Keep.refl _ _⟩
theorem index_bef : ∀ (s : List UInt8), ((10 : UInt8) ∈ s → Lib.indexByte s 10 = ((bef s).length : Int) ∧ (bef s).length < s.length ∧ s.take (bef s).length = bef s) ∧ ((10 : UInt8) ∉ s → Lib.indexByte s 10 = -1)
  | [] => by simp [Lib.indexByte]
  | c :: l => by
    have ih := index_bef l
    by_cases hc : c = 10
    · subst hc
      refine ⟨fun _ => ?_, fun h => absurd (by simp) h⟩
      have : bef (10 :: l) = [] := by simp [bef, isNl]
      rw [this]
      exact ⟨by simp [Lib.indexByte], by simp, by simp⟩
    · have hb : bef (c :: l) = c :: bef l := by simp [bef, isNl, hc]
      refine ⟨fun h => ?_, fun h => ?_⟩
      · have hl : (10 : UInt8) ∈ l := by simpa [Ne.symm hc] using h
        obtain ⟨h1, h2, h3⟩ := ih.1 hl
        rw [hb]
        refine ⟨?_, by simpa using h2, by simpa using h3⟩
        have : ¬ ((bef l).length : Int) = -1 := by omega
        simp [Lib.indexByte, hc, h1, this]
      · have hl : (10 : UInt8) ∉ l := fun h' => h (by simp [h'])
        simp [Lib.indexByte, hc, ih.2 hl]
theorem cut_v (s : List UInt8) (hs : s.length < 4611686018427387904) (K : List UInt8 → List UInt8 → Bool → Prop) (h1 : (10 : UInt8) ∈ s → K (bef s) (aft s) true) (h2 : (10 : UInt8) ∉ s → K s [] false) : V_strings_Cut s [10] K := by
  refine strings_Cut_lift _ _ _ (internal_stringslite_Cut_lift _ _ _ (index_v s _ ?_))
  obtain ⟨i1, i2⟩ := index_bef s
  by_cases hm : (10 : UInt8) ∈ s
  · obtain ⟨e1, e2, e3⟩ := i1 hm
    rw [e1]
    have hw : IntKind.i64.wrap (((bef s).length : Int) + (([10] : List UInt8).length : Int)) = ((bef s).length : Int) + 1 := wrap_in (by simp; omega) (by simp; omega)
    refine cond_t (by simp) ⟨⟨by omega, by omega⟩, ?_⟩
    rw [hw]
    refine ⟨⟨by omega, by omega⟩, ?_⟩
    rw [Int.toNat_natCast, e3, show (((bef s).length : Int) + 1).toNat = (bef s).length + 1 by omega]
    exact h1 hm
  · rw [i2 hm]
    exact cond_f rfl (h2 hm)
theorem lines_v (s : List UInt8) (hs : s.length < 4611686018427387904) (K : Int → Prop) (h : K ((s.count 10 : Nat) + 1)) : V_spot_Lines s K := by
  refine spot_Lines_lift _ _ (count_v s _ ?_)
  have := List.count_le_length (a := (10 : UInt8)) (l := s)
  rw [wrap_in (by omega) (by omega)]
  exact h
theorem last_v (s : List UInt8) (hs : s.length < 4611686018427387904) (K : Int → Prop) (h : K (lastI s)) : V_internal_bytealg_LastIndexByteString s 10 K := by
  refine internal_bytealg_LastIndexByteString_lift _ _ _ ⟨fun i n => ∃ k : Nat, i = (k : Int) - 1 ∧ n = k ∧ k ≤ s.length ∧ ∀ j, k ≤ j → j < s.length → s.getD j 0 ≠ 10, ⟨s.length, s.length, by rw [wrap_in (by omega) (by omega)], rfl, Nat.le_refl _, fun j h1 h2 => by omega⟩, ?_⟩
  rintro _ n ⟨_, rfl, rfl, hk, hj⟩
  refine cond_intro (fun hc => ?_) fun hc => ?_
  · have hk1 : 1 ≤ n := by simp at hc; omega
    have e : ((n : Int) - 1).toNat = n - 1 := by omega
    refine ⟨⟨by omega, by omega⟩, cond_intro (fun hd => ?_) fun hd => ?_⟩
    · rw [e] at hd
      have hd' : s.getD (n - 1) 0 = 10 := by
        have := eq_of_beq hd
        apply UInt8.toNat_inj.1
        have h10 : (10 : UInt8).toNat = 10 := rfl
        omega
      have := lastI_get s n hk hj (.inr hd')
      have e2 : lastI s = (n : Int) - 1 := by unfold lastI; omega
      rw [← e2]; exact h
    · rw [e] at hd
      refine ⟨n - 1, by omega, n - 1, ?_, rfl, by omega, fun j h1 h2 => ?_⟩
      · rw [wrap_in (by omega) (by omega)]; omega
      · by_cases hjk : j = n - 1
        · subst hjk
          intro h10
          rw [h10] at hd
          simp at hd
        · exact hj j (by omega) h2
  · have : n = 0 := by simp at hc; omega
    subst this
    have := lastI_get s 0 (by omega) hj (.inl rfl)
    have e2 : lastI s = -1 := by unfold lastI; omega
    rw [← e2]; exact h
def clamp (s : List UInt8) (i : Int) : Nat := (min (max i 0) s.length).toNat
theorem of_v (s : List UInt8) (i : Int) (hs : s.length < 4611686018427387904) (K : Int → Int → Prop) (h : K (ofF (s.take (clamp s i))).1 (ofF (s.take (clamp s i))).2) : V_spot_Of s i K := by
  refine spot_Of_lift _ _ _ ?_
  unfold spot_Of_vwp
  have e : (if (s.length : Int) < (if 0 > i then 0 else i) then (s.length : Int) else (if 0 > i then 0 else i)) = (clamp s i : Int) := by
    unfold clamp
    split <;> split <;> omega
  rw [e]
  have hle : clamp s i ≤ s.length := by unfold clamp; omega
  refine ⟨⟨by omega, by omega⟩, ?_⟩
  rw [Int.toNat_natCast]
  have hl : (s.take (clamp s i)).length = clamp s i := by simp [hle]
  generalize s.take (clamp s i) = p at hl h ⊢
  refine lines_v p (by omega) _ ?_
  refine strings_LastIndexByte_lift _ _ _ (last_v p (by omega) _ ?_)
  have hp := of_pos p
  unfold lastI
  show K _ (IntKind.i64.wrap _)
  rw [← of_count, wrap_in (by omega) (by omega), show (p.length : Int) - ((p.length : Int) - (ofF p).2) = (ofF p).2 by omega]
  exact h
theorem rof_v (s : List UInt8) (i : Int) (hs : s.length < 4611686018427387904) (K : GArr2_int → Prop) (h : K ⟨(ofF (s.take (clamp s i))).1, (ofF (s.take (clamp s i))).2⟩) : V_R07_Of s i K := by
  refine R07_Of_lift _ _ _ ⟨fun a b k n => ∃ j : Nat, k = j ∧ j ≤ clamp s i ∧ a = (ofF (s.take j)).1 ∧ b = (ofF (s.take j)).2 ∧ n = s.length - j, ⟨_, 0, rfl, by omega, by simp [ofF], by simp [ofF], rfl⟩, ?_⟩
  rintro _ _ _ _ ⟨j, rfl, hj, rfl, rfl, rfl⟩
  have hle : clamp s i ≤ s.length := by unfold clamp; omega
  have hcl : ((j : Int) < i ∧ j < s.length) ↔ j < clamp s i := by unfold clamp; omega
  refine cond_intro (fun hc => ?_) fun hc => ?_
  · have hlt : j < clamp s i := hcl.1 (by simpa using hc)
    have hjl : j < s.length := by omega
    have ht : s.take (j + 1) = s.take j ++ [s.getD j 0] := by
      rw [List.take_add_one, List.getD, List.getElem?_eq_getElem hjl]; rfl
    have hp := of_pos (s.take j)
    have hl : (s.take j).length = j := by simp; omega
    rw [hl] at hp
    refine ⟨fun a b => a = (ofF (s.take (j + 1))).1 ∧ b = (ofF (s.take (j + 1))).2, ⟨⟨by omega, by omega⟩, ?_⟩, ?_⟩
    · rw [ht, ofF_snoc, Int.toNat_natCast]
      refine cond_intro (fun hd => ?_) fun hd => ?_
      · have hd' : s.getD j 0 = 10 := by
          have := eq_of_beq hd
          apply UInt8.toNat_inj.1
          have h10 : (10 : UInt8).toNat = 10 := rfl
          omega
        rw [hd', wrap_in (by omega) (by omega)]
        exact ⟨rfl, rfl⟩
      · have hd' : s.getD j 0 ≠ 10 := fun h10 => by rw [h10] at hd; simp at hd
        rw [wrap_in (by omega) (by omega)]
        unfold ofStep
        rw [if_neg hd']
        exact ⟨rfl, rfl⟩
    · rintro _ _ ⟨rfl, rfl⟩
      exact ⟨s.length - (j + 1), by omega, j + 1, by rw [wrap_in (by omega) (by omega)]; omega, by omega, rfl, rfl, rfl⟩
  · have : j = clamp s i := by
      have : ¬ j < clamp s i := fun h' => by
        have := hcl.2 h'
        simp at hc
        omega
      omega
    subst this
    exact h
theorem clamp_nat (s : List UInt8) (i : Nat) (h : i ≤ s.length) : clamp s i = i := by unfold clamp; omega
theorem live_v (K : Bool → Prop) (h : K true) : V_L07_live K := by
  refine L07_live_lift _ (of_v _ _ (by decide) _ (lines_v _ (by decide) _ ?_))
  exact h
/-- the lines, one after another -/
theorem each_it (s : List UInt8) (hs : s.length < 4611686018427387904) : It_spot_Each_1 s (enumF 1 (lns s)) := by
  refine spot_Each_1_it _ _ ⟨fun rest more n pre stop m => stop = false ∧ (more = true → 1 ≤ n ∧ n + rest.length ≤ s.length + 1) ∧ (if more then pre ++ enumF n (lns rest) = enumF 1 (lns s) else pre = enumF 1 (lns s)) ∧ m = (if more then rest.length + 1 else 0) ∧ rest.length ≤ s.length, ⟨_, rfl, fun _ => ⟨by omega, by omega⟩, by simp, rfl, Nat.le_refl _⟩, ?_⟩
  rintro rest more n pre stop m ⟨rfl, hn, hp, rfl, hr⟩
  cases more with
  | false => exact fun _ => hp
  | true =>
    refine ⟨rfl, ?_⟩
    obtain ⟨hn, hnl⟩ := hn rfl
    rw [if_pos rfl] at hp
    rw [← hp]
    refine cut_v rest (by omega) _ (fun hm => ?_) fun hm => ?_
    · have hc := lns_cut rest
      rw [if_pos hm] at hc
      obtain ⟨e1, e2, e3⟩ := (index_bef rest).1 hm
      have ha : (aft rest).length = rest.length - ((bef rest).length + 1) := by simp [aft]
      rw [hc, wrap_in (by omega) (by omega)]
      refine ⟨by simp [enumF], ⟨(aft rest).length + 1, by rw [if_pos rfl]; omega, rfl, fun _ => ⟨by omega, by omega⟩, ?_, rfl, by omega⟩, nofun⟩
      rw [if_pos rfl, List.append_assoc]; rfl
    · have hc := lns_cut rest
      rw [if_neg hm] at hc
      rw [hc]
      exact ⟨by simp [enumF], ⟨0, by rw [if_pos rfl]; omega, rfl, nofun, rfl, rfl, by simp⟩, nofun⟩
end Go.Proofs.Ytahppcghgmhkiaa
