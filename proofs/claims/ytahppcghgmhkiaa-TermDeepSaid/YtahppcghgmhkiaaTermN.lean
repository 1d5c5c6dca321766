/- Layer 10: the law TermDeep. -/
import Derived.Test.YtahppcghgmhkiaaTermM
namespace Go.Proofs.Ytahppcghgmhkiaa
open Go.Vc Go.Tk Go.Tm

theorem mod_in {n : Int} (h1 : 0 ≤ n) (h2 : n ≤ 100000) : IntKind.i64.wrap n = n := wrap_in (by omega) (by omega)
theorem flat_snoc (k : Nat) : (List.replicate (k + 1) [(45 : UInt8), 32]).flatten = (List.replicate k [(45 : UInt8), 32]).flatten ++ [45, 32] := by
  rw [List.replicate_succ']; simp
theorem TermDeep_spec (n m : Int) (op : Bool) (hn0 : 0 ≤ n) (hn : n ≤ 255) (hm0 : 0 ≤ m) (hm : m ≤ 255) (w : World) :
    Calls Try.prog 5 #[.int .u8 n, .int .u8 m, .bool op] w (Ret fun v w' => v = .bool true ∧ Ext w w') := by
  obtain ⟨n, rfl⟩ : ∃ k : Nat, n = k := ⟨n.toNat, by omega⟩
  obtain ⟨m, rfl⟩ : ∃ k : Nat, m = k := ⟨m.toNat, by omega⟩
  have hn : n ≤ 255 := by omega
  have hm : m ≤ 255 := by omega
  have hmax : IntKind.i64.max = 9223372036854775807 := rfl
  have hfl : ∀ k : Nat, ((List.replicate k [(45 : UInt8), 32]).flatten).length = 2 * k := by
    intro k
    induction k with
    | zero => rfl
    | succ k ih => rw [flat_snoc, List.length_append, ih]; simp; omega
  refine L10_TermDeep_ok _ _ _ _ _ ?_
  refine ⟨fun s i w' => ∃ k : Nat, i = k ∧ k ≤ n ∧ s = List.replicate k 40 ∧ w = w', fun _ i _ => n - i.toNat, ⟨0, rfl, by omega, rfl, rfl⟩, ?_⟩
  rintro _ _ _ _ ⟨k, rfl, hk, rfl, rfl⟩
  rw [mod_in (by omega) (by omega)]
  refine cond_intro (fun hi => ?_) fun hi => ?_
  · have hi : k < n := by have : (k : Int) < n := (by simpa using hi); omega
    rw [wrap_in (n := (k : Int) + 1) (by omega) (by omega)]
    refine ⟨by simp; omega, ⟨k + 1, by omega, by omega, by rw [List.replicate_succ'], rfl⟩, ?_⟩
    show n - ((k : Int) + 1).toNat < n - (k : Int).toNat
    omega
  obtain rfl : k = n := by have : ¬ (k : Int) < n := (by simpa using hi); omega
  refine ⟨fun s i w' => ∃ j : Nat, i = j ∧ j ≤ m ∧ s = List.replicate k 40 ++ (List.replicate j [45, 32]).flatten ∧ w = w', fun _ i _ => m - i.toNat, ⟨0, rfl, by omega, by simp, rfl⟩, ?_⟩
  rintro _ _ _ _ ⟨j, rfl, hj, rfl, rfl⟩
  rw [mod_in (n := (m : Int)) (by omega) (by omega)]
  refine cond_intro (fun hi => ?_) fun hi => ?_
  · have hi : j < m := by have : (j : Int) < m := (by simpa using hi); omega
    rw [wrap_in (n := (j : Int) + 1) (by omega) (by omega)]
    refine ⟨by simp [hfl]; omega, ⟨j + 1, by omega, by omega, by rw [flat_snoc, List.append_assoc], rfl⟩, ?_⟩
    show m - ((j : Int) + 1).toNat < m - (j : Int).toNat
    omega
  obtain rfl : j = m := by have : ¬ (j : Int) < m := (by simpa using hi); omega
  refine ⟨by simp [hfl]; omega, ?_⟩
  refine ⟨fun s i w' => ∃ i' : Nat, i = i' ∧ i' ≤ k ∧ (op = true → i' = 0) ∧ s = List.replicate k 40 ++ (List.replicate j [45, 32]).flatten ++ [120] ++ List.replicate i' 41 ∧ w = w', fun _ i _ => k - i.toNat, ⟨0, rfl, by omega, fun _ => rfl, by simp, rfl⟩, ?_⟩
  rintro _ _ _ _ ⟨i, rfl, hik, hop, rfl, rfl⟩
  refine ⟨fun x w' => x = decide (i < k ∧ op = false) ∧ w = w', cond_intro (fun hi => ?_) fun hi => ?_, ?_⟩
  · have hi : i < k := by have : (i : Int) < k := (by simpa using hi); omega
    cases op <;> simp [hi]
  · have hi : ¬ i < k := by have : ¬ (i : Int) < k := (by simpa using hi); omega
    simp [hi]
  rintro _ _ _ ⟨rfl, rfl⟩
  refine cond_intro (fun hi => ?_) fun hi => ?_
  · have hi := of_decide_eq_true hi
    rw [wrap_in (n := (i : Int) + 1) (by omega) (by omega)]
    refine ⟨by simp [hfl]; omega, ⟨i + 1, by omega, by omega, fun h => (by rw [hi.2] at h; cases h), by rw [List.replicate_succ', ← List.append_assoc], rfl⟩, ?_⟩
    show k - ((i : Int) + 1).toNat < k - (i : Int).toNat
    omega
  have hi := of_decide_eq_false hi
  have hs : List.replicate k 40 ++ (List.replicate j [45, 32]).flatten ++ [120] ++ List.replicate i 41 = deepS k j op := by
    unfold deepS
    cases op with
    | true => rw [hop rfl]; simp
    | false =>
      have : i = k := by simp at hi; omega
      rw [this]; simp
  rw [hs]
  refine call_then (rAll_spec _ w) ?_
  rintro _ w1 ⟨a1, c1, rfl, hs1, he1⟩
  have hkt := all_deep k j op hn hm
  have hlen := allS_len (deepS k j op)
  rw [deepS_len] at hlen
  generalize (allS (deepS k j op)).1 = toks at hkt hlen hs1 ⊢
  refine ⟨_, _, _, _, _, rfl, call_then (Parse_spec toks (by split at hlen <;> omega) a1 c1 0 w1 hs1) ?_⟩
  rintro _ w2 ⟨a2, c2, rfl, hs2, he2⟩
  have he := he1.trans he2
  have hp := parse_deep hkt
  refine ⟨_, _, _, _, _, rfl, ?_⟩
  generalize parseOf toks 0 = r at hp ⊢
  have hlive : Calls Try.prog 15 #[] w2 (Ret fun v2 w7 => ∃ (x3 : Bool), v2 = .bool x3 ∧ Value.bool x3 = .bool true ∧ Ext w w7) := by
    refine call_then (live10_spec w2) ?_
    rintro _ w3 ⟨rfl, he3⟩
    exact ⟨_, rfl, rfl, he.trans he3⟩
  rw [wrap_in (n := (k : Int) + j) (by omega) (by omega)]
  refine cond_intro (fun h => ?_) fun h => ?_
  · have h : 24 < k + j := by have : (24 : Int) < (k : Int) + j := (by simpa using h); omega
    rw [if_pos h] at hp
    subst hp
    exact cond_t rfl (cond_t rfl (cond_t rfl hlive))
  have h : ¬ 24 < k + j := by have : ¬ (24 : Int) < (k : Int) + j := (by simpa using h); omega
  rw [if_neg h] at hp
  intro _
  refine cond_intro (fun ho => ?_) fun ho => ?_
  · have ho : op = true ∧ 0 < k := by simp at ho; omega
    rw [if_pos ho] at hp
    subst hp
    rw [wrap_in (by omega) (by omega)]
    refine cond_t rfl (cond_t (by simp) (cond_t rfl hlive))
  have ho : ¬ (op = true ∧ 0 < k) := by intro h; simp [h.1] at ho; omega
  rw [if_neg ho] at hp
  refine ⟨fun want w' => want = ((k + j + 1 + (if op then 0 else k) : Nat) : Int) ∧ w2 = w', ?_, ?_⟩
  · refine cond_intro (fun ho => ?_) fun ho => ?_
    · subst ho
      rw [wrap_in (by omega) (by omega)]
      refine ⟨?_, rfl⟩
      have : k = 0 := by simp at ho; omega
      simp [this]
    · subst ho
      rw [wrap_in (n := (k : Int) * 2) (by omega) (by omega), wrap_in (n := (k : Int) * 2 + j) (by omega) (by omega), wrap_in (by omega) (by omega)]
      refine ⟨?_, rfl⟩
      simp
      omega
  · rintro _ _ _ ⟨rfl, rfl⟩
    rw [wrap_in (by omega) (by omega)]
    refine cond_t ?_ (cond_t ?_ (cond_t ?_ hlive))
    · rw [hp.1]; simp
    · rw [hp.2.1]; simp
    · rw [hp.2.2]; rfl
end Go.Proofs.Ytahppcghgmhkiaa
