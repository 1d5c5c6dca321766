/- Contracts of package token's small functions. -/
import Derived.Test.YtahppcghgmhkiaaTokA
import Derived.Test.YtahppcghgmhkiaaWtok
namespace Go.Proofs.Ytahppcghgmhkiaa
open Go.Vc Go.Tk

theorem letter_spec (n : Nat) (h : n < 256) (w : World) : Calls Try.prog 50 #[.int .u8 (n : Int)] w (Ret fun v w' => v = .bool (letN n) ∧ w = w') := by
  refine token_letter_ok _ _ _ ?_
  intro _
  exact ⟨by rw [← letterB_eq n h]; rfl, rfl⟩
theorem digit_spec (n : Nat) (w : World) : Calls Try.prog 53 #[.int .u8 (n : Int)] w (Ret fun v w' => v = .bool (digN n) ∧ w = w') := by
  refine token_digit_ok _ _ _ ?_
  intro _
  refine ⟨?_, rfl⟩
  have e : ((decide ((n : Int) ≥ 48)) && (decide ((n : Int) ≤ 57))) = digN n := by unfold digN; rw [Bool.eq_iff_iff]; simp; omega
  rw [e]
theorem wordly_spec (n : Nat) (h : n < 256) (w : World) : Calls Try.prog 52 #[.int .u8 (n : Int)] w (Ret fun v w' => v = .bool (wordN n) ∧ w = w') := by
  refine token_wordly_ok _ _ _ (call_then (letter_spec n h w) ?_)
  rintro _ _ ⟨rfl, rfl⟩
  refine ⟨_, rfl, cond_intro (fun hx => ?_) fun hx => ?_⟩
  · exact ⟨by simp [wordN, hx], rfl⟩
  · refine call_then (digit_spec n w) ?_
    rintro _ _ ⟨rfl, rfl⟩
    exact ⟨_, rfl, by simp [wordN, hx], rfl⟩

theorem run_wordly_spec (s : List UInt8) (hs : s.length < 2 ^ 40) (w : World) : Calls Try.prog 51 #[.string (mkS s), .func (.func 52) #[] #[]] w (Ret fun v w' => v = .string (mkS (s.takeWhile wordC)) ∧ w = w') := by
  refine token_run_wordly_ok _ _ _ ?_
  refine ⟨fun x w' => w = w' ∧ ∃ k : Nat, x = k ∧ k ≤ s.length ∧ ∀ i (h : i < s.length), i < k → wordC s[i] = true, fun x _ => s.length - x.toNat, ⟨rfl, 0, rfl, Nat.zero_le _, fun _ _ h => absurd h (Nat.not_lt_zero _)⟩, ?_⟩
  rintro _ _ _ ⟨rfl, k, rfl, hk, hall⟩
  refine cond_intro (fun hx => ?_) fun hx => ?_
  · have hlt : k < s.length := by simpa using hx
    refine ⟨by omega, call_then (wordly_spec _ (UInt8.toNat_lt _) w) ?_⟩
    rintro _ _ ⟨rfl, rfl⟩
    refine ⟨_, rfl, cond_intro (fun hb => ?_) fun hb => ?_⟩
    · refine ⟨by omega, ?_, rfl⟩
      rw [takeWhile_take wordC s k hall (fun h => by simpa [wordC, List.getD, hlt] using hb)]
      simp
    · rw [wrap_in (by omega) (by omega)]
      refine ⟨⟨rfl, k + 1, by omega, by omega, fun i h hi => ?_⟩, by dsimp only; omega⟩
      rcases Nat.lt_or_ge i k with h' | h'
      · exact hall i h h'
      · obtain rfl : i = k := by omega
        simpa [wordC, List.getD, hlt] using hb
  · have hge : ¬ k < s.length := by simpa using hx
    refine ⟨?_, rfl⟩
    rw [takeWhile_take wordC s k hall (fun h => absurd h hge), List.take_of_length_le (by omega)]

theorem run_digit_spec (s : List UInt8) (hs : s.length < 2 ^ 40) (w : World) : Calls Try.prog 51 #[.string (mkS s), .func (.func 53) #[] #[]] w (Ret fun v w' => v = .string (mkS (s.takeWhile digC)) ∧ w = w') := by
  refine token_run_digit_ok _ _ _ ?_
  refine ⟨fun x w' => w = w' ∧ ∃ k : Nat, x = k ∧ k ≤ s.length ∧ ∀ i (h : i < s.length), i < k → digC s[i] = true, fun x _ => s.length - x.toNat, ⟨rfl, 0, rfl, Nat.zero_le _, fun _ _ h => absurd h (Nat.not_lt_zero _)⟩, ?_⟩
  rintro _ _ _ ⟨rfl, k, rfl, hk, hall⟩
  refine cond_intro (fun hx => ?_) fun hx => ?_
  · have hlt : k < s.length := by simpa using hx
    refine ⟨by omega, call_then (digit_spec _ w) ?_⟩
    rintro _ _ ⟨rfl, rfl⟩
    refine ⟨_, rfl, cond_intro (fun hb => ?_) fun hb => ?_⟩
    · refine ⟨by omega, ?_, rfl⟩
      rw [takeWhile_take digC s k hall (fun h => by simpa [digC, List.getD, hlt] using hb)]
      simp
    · rw [wrap_in (by omega) (by omega)]
      refine ⟨⟨rfl, k + 1, by omega, by omega, fun i h hi => ?_⟩, by dsimp only; omega⟩
      rcases Nat.lt_or_ge i k with h' | h'
      · exact hall i h h'
      · obtain rfl : i = k := by omega
        simpa [digC, List.getD, hlt] using hb
  · have hge : ¬ k < s.length := by simpa using hx
    refine ⟨?_, rfl⟩
    rw [takeWhile_take digC s k hall (fun h => absurd h hge), List.take_of_length_le (by omega)]

/-! words -/
theorem isNaN_spec (x : List UInt8) (w : World) : Calls Try.prog 84 #[.string (mkS x)] w (Ret fun v w' => v = .bool false ∧ w = w') :=
  cmp_isNaN_string_ok _ _ _ ⟨by simp, rfl⟩
theorem isNaN2_spec (x : List UInt8) (w : World) : Calls Try.prog 74 #[.string (mkS x)] w (Ret fun v w' => v = .bool false ∧ w = w') :=
  slices_isNaN_string_ok _ _ _ ⟨by simp, rfl⟩
theorem less_spec (x y : List UInt8) (w : World) : Calls Try.prog 73 #[.string (mkS x), .string (mkS y)] w (Ret fun v w' => v = .bool (Op.bytesLess x y) ∧ w = w') := by
  refine cmp_Less_string_ok _ _ _ _ (call_then (isNaN_spec x w) ?_)
  rintro _ _ ⟨rfl, rfl⟩
  exact ⟨_, rfl, rfl, rfl⟩
theorem words_spec (w : World) : Calls Try.prog 62 #[] w (Ret fun v w' => ∃ b, v = .slice (some ⟨b, 0, none⟩) 18 18 ∧ Box w' b (words.map fun s => .string (mkS s)) ∧ Ext w w') := by
  refine token_words_ok _ _ ?_
  intro b w1 hb hw
  exact ⟨b, rfl, Box.new hb hw, .alloc hw⟩

def mid (i j : Nat) : Nat := (i + j) / 2
theorem mid_eq (i j : Nat) (h : i + j < 2 ^ 40) : IntKind.i64.wrap ((IntKind.u64.wrap (IntKind.i64.wrap ((i : Int) + (j : Int)))).fdiv (2 ^ (min 1 IntKind.u64.bits))) = (mid i j : Nat) := by
  have e0 : IntKind.i64.wrap ((i : Int) + (j : Int)) = (i : Int) + j := wrap_in (by omega) (by omega)
  have e : IntKind.u64.wrap ((i : Int) + (j : Int)) = (i : Int) + j := by rw [IntKind.wrap_u64]; omega
  have e2 : (min 1 IntKind.u64.bits) = 1 := by decide
  have e3 : ((i : Int) + (j : Int)).fdiv (2 ^ 1) = (mid i j : Nat) := by
    rw [Int.fdiv_eq_ediv_of_nonneg _ (by decide)]; unfold mid; omega
  rw [e0, e, e2, e3]
  exact wrap_in (by omega) (by unfold mid; omega)

theorem search_spec (l : List (List UInt8)) (hl : Sorted l) (hn : l.length < 1000) (b c : Nat) (t : List UInt8) (w : World) (hb : Box w b (l.map fun s => .string (mkS s))) :
    Calls Try.prog 61 #[.slice (some ⟨b, 0, none⟩) l.length c, .string (mkS t)] w (Ret fun v w' => ∃ i : Int, v = .tuple #[.int .i64 i, .bool (decide (t ∈ l))] ∧ w = w') := by
  refine slices_BinarySearch_Slstring_string_ok _ _ _ _ _ _ ?_
  have hcell : ∀ (k : Nat) (h : k < l.length), w.cell? ⟨b, k, none⟩ = some (.string (mkS l[k])) := fun k h => hb.cell (by simp [h])
  refine ⟨fun i j w' => w = w' ∧ ∃ i' j' : Nat, i = i' ∧ j = j' ∧ i' ≤ j' ∧ j' ≤ l.length ∧ (∀ k (h : k < l.length), k < i' → Op.bytesLess l[k] t = true) ∧ (∀ k (h : k < l.length), j' ≤ k → Op.bytesLess l[k] t = false), fun i j _ => (j - i).toNat,
    ⟨rfl, 0, l.length, rfl, rfl, Nat.zero_le _, Nat.le_refl _, fun _ _ h => absurd h (Nat.not_lt_zero _), fun k h h' => by omega⟩, ?_⟩
  rintro _ _ _ _ ⟨rfl, i, j, rfl, rfl, hij, hj, hlo, hhi⟩
  refine cond_intro (fun hx => ?_) fun hx => ?_
  · have hlt : i < j := by simpa using hx
    rw [mid_eq i j (by omega)]
    have hm1 : i ≤ mid i j := by unfold mid; omega
    have hm2 : mid i j < j := by unfold mid; omega
    generalize mid i j = m at hm1 hm2
    have hml : m < l.length := by omega
    refine ⟨by omega, by omega, l[m], by rw [add_mk]; simpa using hcell m hml, call_then (less_spec _ _ w) ?_⟩
    rintro _ _ ⟨rfl, rfl⟩
    refine ⟨_, rfl, cond_intro (fun hb => ?_) fun hb => ?_⟩
    · rw [wrap_in (by omega) (by omega)]
      refine ⟨⟨rfl, m + 1, j, by omega, rfl, by omega, hj, fun k h hk => ?_, hhi⟩, by dsimp only; omega⟩
      rcases Nat.lt_or_ge k m with h' | h'
      · exact less_trans _ _ _ (hl k m h hml h') hb
      · obtain rfl : k = m := by omega
        exact hb
    · refine ⟨⟨rfl, i, m, rfl, rfl, hm1, by omega, hlo, fun k h hk => ?_⟩, by dsimp only; omega⟩
      rcases Nat.lt_or_ge m k with h' | h'
      · cases hh : Op.bytesLess l[k] t with
        | false => rfl
        | true => rw [less_trans _ _ _ (hl m k hml h h') hh] at hb; cases hb
      · obtain rfl : k = m := by omega
        exact hb
  · have hge : i = j := by have : ¬ i < j := by simpa using hx
                           omega
    subst hge
    refine cond_intro (fun hx2 => ?_) fun hx2 => ?_
    · have hil : i < l.length := by simpa using hx2
      have hcell' : w.cell? ((⟨b, 0, none⟩ : Addr).add ((i : Int).toNat * 1)) = some (.string (mkS l[i])) := by rw [add_mk]; simpa using hcell i hil
      refine ⟨by omega, l[i], hcell', cond_intro (fun hb => ?_) fun hb => ?_⟩
      · have : l[i] = t := by simpa using hb
        refine ⟨(i : Int), ?_, rfl⟩
        rw [decide_eq_true (this ▸ List.getElem_mem hil)]
      · have hne : l[i] ≠ t := by simpa using hb
        refine ⟨by omega, l[i], hcell', call_then (isNaN2_spec _ w) ?_⟩
        rintro _ _ ⟨rfl, rfl⟩
        refine ⟨_, rfl, (i : Int), ?_, rfl⟩
        have hnot : t ∉ l := by
          intro hm
          obtain ⟨p, hp, rfl⟩ := List.getElem_of_mem hm
          rcases Nat.lt_trichotomy p i with h' | h' | h'
          · have := hlo p hp h'; rw [less_irrefl] at this; cases this
          · subst h'; exact hne rfl
          · have := hl i p hil hp h'
            rw [hhi i hil (Nat.le_refl _)] at this; cases this
        rw [decide_eq_false hnot]
    · have hil : ¬ i < l.length := by simpa using hx2
      refine ⟨(i : Int), ?_, rfl⟩
      have hnot : t ∉ l := by
        intro hm
        obtain ⟨p, hp, rfl⟩ := List.getElem_of_mem hm
        have := hlo p hp (by omega); rw [less_irrefl] at this; cases this
      rw [decide_eq_false hnot]

theorem Word_spec (s : List UInt8) (w : World) : Calls Try.prog 32 #[.string (mkS s)] w (Ret fun v w' => v = .bool (decide (s ∈ words)) ∧ Ext w w') := by
  refine token_Word_ok _ _ _ (call_then (words_spec w) ?_)
  rintro _ w1 ⟨b, rfl, hb, he⟩
  refine ⟨_, _, _, rfl, call_then (search_spec words words_sorted (by decide) b 18 s w1 hb) ?_⟩
  rintro _ _ ⟨i, rfl, rfl⟩
  exact ⟨_, _, rfl, rfl, he⟩
end Go.Proofs.Ytahppcghgmhkiaa
