/- A part of the proof: conditions of the code, contracts, the plain law. -/
import Derived.Test.YtdbdkdmgfiiljaaM4
namespace Go.Proofs.Ytdbdkdmgfiiljaa
open Go.Vc Go.Lv Go.Ty Go.Tk Go.Tm
theorem deep_v (n : Nat) (hn : n ≤ 255) (last : Bool) : V_L11_ParseDeep (n : Int) last (fun b => b = true) := by
  have hmax : IntKind.i64.max = 9223372036854775807 := rfl
  have hw : IntKind.i64.wrap (n : Int) = n := wrap_in (by omega) (by omega)
  refine L11_ParseDeep_lift _ _ _ ⟨fun sx i m => ∃ k : Nat, i = k ∧ k ≤ n ∧ sx = [109, 97, 105, 110, 32, 123] ++ reps k cIf ∧ m = n - k, ⟨n, 0, rfl, Nat.zero_le _, rfl, rfl⟩, ?_⟩
  rintro _ _ _ ⟨k, rfl, hk, rfl, rfl⟩
  rw [hw]
  refine cond_intro (fun hi => ?_) fun hi => ?_
  · have hi : k < n := by have : (k : Int) < n := (by simpa using hi)
                          omega
    rw [wrap_in (n := (k : Int) + 1) (by omega) (by omega)]
    refine ⟨by simp only [List.length_append, reps_len, List.length_cons, List.length_nil, cIf]; omega, n - (k + 1), by omega, k + 1, by omega, by omega, ?_, rfl⟩
    rw [reps_snoc, List.append_assoc]; rfl
  obtain rfl : k = n := by have : ¬ (k : Int) < n := (by simpa using hi)
                           omega
  refine ⟨fun sx => sx = [109, 97, 105, 110, 32, 123] ++ reps k cIf ++ (if last then cWh else []), cond_intro (fun hl => ⟨by simp only [List.length_append, reps_len, List.length_cons, List.length_nil, cIf]; omega, ?_⟩) (fun hl => ?_), ?_⟩
  · show _ = _
    rw [hl]; rfl
  · show _ = _
    rw [hl]; simp
  rintro _ rfl
  have hwl : (if last = true then cWh else []).length ≤ 12 := by cases last <;> decide
  refine ⟨fun sx i m => ∃ j : Nat, i = j ∧ j ≤ k + 1 ∧ sx = [109, 97, 105, 110, 32, 123] ++ reps k cIf ++ (if last then cWh else []) ++ reps j cCl ∧ m = k + 1 - j, ⟨k + 1, 0, rfl, Nat.zero_le _, by simp [reps], rfl⟩, ?_⟩
  rintro _ _ _ ⟨j, rfl, hj, rfl, rfl⟩
  refine cond_intro (fun hi => ?_) fun hi => ?_
  · have hi : j ≤ k := by have : (j : Int) ≤ k := (by simpa using hi)
                          omega
    rw [wrap_in (n := (j : Int) + 1) (by omega) (by omega)]
    refine ⟨by simp only [List.length_append, reps_len, List.length_cons, List.length_nil, cIf, cCl]; omega, k + 1 - (j + 1), by omega, j + 1, by omega, by omega, ?_, rfl⟩
    rw [reps_snoc]; simp only [List.append_assoc]; rfl
  obtain rfl : j = k + 1 := by have : ¬ (j : Int) ≤ k := (by simpa using hi)
                               omega
  refine ⟨fun d => d = ((k + 1 + (if last then 1 else 0) : Nat) : Int), cond_intro (fun hl => ?_) (fun hl => ?_), ?_⟩
  · show _ = _
    rw [hl, wrap_in (n := (k : Int) + 1) (by omega) (by omega), wrap_in (by omega) (by omega), if_pos rfl]; omega
  · show _ = _
    rw [hl, wrap_in (by omega) (by omega), if_neg (by simp)]; omega
  rintro _ rfl
  have hs : [109, 97, 105, 110, 32, 123] ++ reps k cIf ++ (if last = true then cWh else []) ++ reps (k + 1) cCl = deepT k last := by
    unfold deepT; simp only [List.append_assoc]
  rw [hs]
  refine text_v _ _ ?_
  have hk := deep_ok k last hn
  unfold okB at hk
  dsimp only at hk
  generalize textF (deepT k last) = x at hk ⊢
  refine cond_intro (fun hd => ?_) fun hd => ?_
  · have hd0 := of_decide_eq_true hd
    have hd : k + 1 + (if last = true then 1 else 0) > 24 := by omega
    rw [if_pos hd] at hk
    simp only [Bool.and_eq_true, decide_eq_true_eq, List.isEmpty_iff, beq_iff_eq] at hk
    obtain ⟨⟨⟨⟨h1, h2⟩, h3⟩, h4⟩, h5⟩ := hk
    refine cond_t (by rw [h1]; rfl) (cond_t (decide_eq_true h3) ?_)
    rw [if_neg (by omega)]
    refine ⟨⟨h2, h3⟩, cond_t (by rw [h4]; rfl) (cond_t (by rw [h5]; rfl) (live_v _ rfl))⟩
  · have hd0 := of_decide_eq_false hd
    have hd : ¬ k + 1 + (if last = true then 1 else 0) > 24 := by omega
    rw [if_neg hd] at hk
    simp only [Bool.and_eq_true, decide_eq_true_eq, Bool.not_eq_true', List.isEmpty_eq_false_iff] at hk
    obtain ⟨⟨h1, h2⟩, h3⟩ := hk
    have := List.length_pos_iff.2 h1
    exact cond_t (by simp; omega) (cond_t (by rw [h2]; rfl) (cond_t (by rw [h3]; rfl) (live_v _ rfl)))
theorem ParseDeep_spec (n : Int) (last : Bool) (h0 : 0 ≤ n) (h1 : n ≤ 255) (w : World) : Calls Try.prog 4 #[.int .u8 n, .bool last] w (Ret fun v w' => v = .bool true ∧ Ext w w') := by
  obtain ⟨k, rfl⟩ : ∃ k : Nat, n = k := ⟨n.toNat, by omega⟩
  refine call_then (deep_v k (by omega) last [] w (MOk.nil trivial)) ?_
  rintro _ _ ⟨_, rfl, rfl, k⟩
  exact ⟨rfl, k.ext⟩
end Go.Proofs.Ytdbdkdmgfiiljaa
