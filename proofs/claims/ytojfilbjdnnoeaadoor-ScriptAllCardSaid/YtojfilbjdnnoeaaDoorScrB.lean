/- Script: the library's contracts (Itoa, Atoi). -/
import Derived.Test.YtojfilbjdnnoeaaDoorScrA
import Derived.Test.YtojfilbjdnnoeaaDoorShIns
namespace Go.Proofs.YtojfilbjdnnoeaaDoor
open Go.Vc Go.Lv Go.Ty
def J64s (n : Int) : Prop := -9223372036854775808 ≤ n ∧ n ≤ 9223372036854775807
theorem itoa_sv (n : Int) (h : J64s n) (K : List UInt8 → Prop) (hK : K (Lib.itoa n)) : V_strconv_Itoa n K := by
  intro m w hm
  have hc := Any.strconv_Itoa Tryd.laysM171 n h.1 h.2 w hm.tab.1
  change Calls Tryd.prog 16 _ _ _ at hc
  refine hc.mono ?_
  rintro e w' ⟨rfl, k, os, rfl⟩
  refine ⟨_, hK, rfl, rfl, rfl, rfl, ?_, fun j hj _ => ?_⟩
  · show w.heap.size ≤ (w.heap ++ os).size
    simp
  · show (w.heap ++ os)[j]? = _
    rw [Array.getElem?_append_left hj]
theorem atoi_js {s : List UInt8} {v : Int} (h : Lib.atoiAll s = .ok v) : J64s v := by
  unfold Lib.atoiAll at h
  split at h
  · cases h
  · simp only at h
    split at h
    · cases h
    · cases h
    · rename_i u _
      split at h
      · cases h
      · split at h
        · cases h
        · cases h
          rename_i h1 h2
          unfold J64s
          split <;> constructor <;> omega
theorem atoi_sv (s : List UInt8) (hs : s.length < 1000000) (K : Int → Value → Prop) (h1 : ∀ v, Lib.atoiAll s = .ok v → K v .nilIface) (h2 : ∀ n t p, J64s n → (∀ v, Lib.atoiAll s ≠ .ok v) → K n (.iface t p)) : V_strconv_Atoi s K := by
  intro m w hm
  obtain ⟨tp1, p1, hv1⟩ := hm.tab.2.2.1
  obtain ⟨tp2, p2, hv2⟩ := hm.tab.2.2.2
  have fin : Calls Tryd.prog 39 #[.string (mkS s)] w (Ret fun v w' => ∃ (r0 : Int) (r1 : Value), K r0 r1 ∧ (v = .tuple #[.int .i64 r0, r1]) ∧ Keep [] w w') := by
    cases h : Lib.atoiAll s
    case ok v =>
      have hc := Any.strconv_Atoi_ok Tryd.laysC172 (mkS s) (by show s.length ≤ _; omega) v h w
      change Calls Tryd.prog 39 _ _ _ at hc
      refine hc.mono ?_
      rintro e w' ⟨rfl, hw⟩
      refine ⟨v, _, h1 v h, rfl, ?_⟩
      rcases hw with rfl | ⟨t, rfl⟩
      · exact Keep.refl _ _
      · exact Keep.ofExt (Lib.bytesWorld_below _ _ _)
    case range =>
      have hc := Any.strconv_Atoi_range_var Tryd.laysC172 (mkS s) (by show s.length ≤ _; omega) h tp2 p2 w hv2
      change Calls Tryd.prog 39 _ _ _ at hc
      refine hc.mono ?_
      rintro e w' ⟨N, rfl, _, _, hb⟩
      exact ⟨_, _, h2 _ _ _ (by unfold Lib.atoiSat J64s; split <;> decide) (fun v hv => by rw [h] at hv; cases hv), rfl, Keep.ofExt hb⟩
    · have hc := Any.strconv_Atoi_syntax_var Tryd.laysC172 (mkS s) (by show s.length ≤ _; omega) h tp1 p1 w hv1
      change Calls Tryd.prog 39 _ _ _ at hc
      refine hc.mono ?_
      rintro e w' ⟨N, rfl, _, _, hb⟩
      exact ⟨0, _, h2 _ _ _ ⟨by decide, by decide⟩ (fun v hv => by rw [h] at hv; cases hv), rfl, Keep.ofExt hb⟩
  exact fin
end Go.Proofs.YtojfilbjdnnoeaaDoor
