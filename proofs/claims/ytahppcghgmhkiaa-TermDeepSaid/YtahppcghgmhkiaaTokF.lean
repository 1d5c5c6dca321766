/- Contracts of the reference of layer 8, up to Next. -/
import Derived.Test.YtahppcghgmhkiaaTokE
import Derived.Test.YtahppcghgmhkiaaWref8
namespace Go.Proofs.Ytahppcghgmhkiaa
open Go.Vc Go.Tk

def rLetB (n : Nat) : Bool := cond (decide ((n : Int) ≥ 97)) ((decide ((n : Int) ≤ 122)) || (cond (decide ((n : Int) ≥ 65)) ((decide ((n : Int) ≤ 90)) || ((n : Int) == 95)) ((n : Int) == 95))) (cond (decide ((n : Int) ≥ 65)) ((decide ((n : Int) ≤ 90)) || ((n : Int) == 95)) ((n : Int) == 95))
theorem rLetB_eq (n : Nat) (h : n < 256) : rLetB n = letN n := by
  have : ∀ n : Fin 256, rLetB n.val = letN n.val := by decide +kernel
  exact this ⟨n, h⟩
theorem rLetter_spec (n : Nat) (h : n < 256) (w : World) : Calls Try.prog 59 #[.int .u8 (n : Int)] w (Ret fun v w' => v = .bool (letN n) ∧ w = w') := by
  refine R08_Letter_ok _ _ _ ?_
  intro _
  exact ⟨by rw [← rLetB_eq n h]; rfl, rfl⟩
theorem rDigit_spec (n : Nat) (w : World) : Calls Try.prog 57 #[.int .u8 (n : Int)] w (Ret fun v w' => v = .bool (digN n) ∧ w = w') := by
  refine R08_Digit_ok _ _ _ ?_
  intro _
  refine ⟨?_, rfl⟩
  have e : ((decide ((n : Int) ≥ 48)) && (decide ((n : Int) ≤ 57))) = digN n := by unfold digN; rw [Bool.eq_iff_iff]; simp; omega
  rw [e]

def strV (s : List UInt8) : Value := .string (mkS s)
theorem rIn_spec (l : List (List UInt8)) (hl : l.length < 2 ^ 40) (p : Addr) (c : Nat) (s : List UInt8) (w : World) (hc : CellsAt w p (l.map strV)) :
    Calls Try.prog 33 #[.slice (some p) l.length c, .string (mkS s)] w (Ret fun v w' => v = .bool (decide (s ∈ l)) ∧ w = w') := by
  refine R08_In_ok _ _ _ _ _ _ ?_
  refine ⟨fun i w' => w = w' ∧ ∃ k : Nat, i = k ∧ k ≤ l.length ∧ ∀ j (h : j < l.length), j < k → l[j] ≠ s, fun i _ => l.length - i.toNat, ⟨rfl, 0, rfl, Nat.zero_le _, fun _ _ h => absurd h (Nat.not_lt_zero _)⟩, ?_⟩
  rintro _ _ _ ⟨rfl, k, rfl, hk, hall⟩
  refine cond_intro (fun hx => ?_) fun hx => ?_
  · have hlt : k < l.length := by simpa using hx
    have hcell := hc k (by simpa using hlt)
    simp only [List.getElem_map, strV] at hcell
    refine ⟨by omega, l[k], by simpa using hcell, cond_intro (fun hb => ?_) fun hb => ?_⟩
    · have : l[k] = s := by simpa using hb
      exact ⟨by rw [decide_eq_true (this ▸ List.getElem_mem hlt)], rfl⟩
    · have hne : l[k] ≠ s := by simpa using hb
      rw [wrap_in (by omega) (by omega)]
      refine ⟨⟨rfl, k + 1, by omega, by omega, fun j h hj => ?_⟩, by dsimp only; omega⟩
      rcases Nat.lt_or_ge j k with h' | h'
      · exact hall j h h'
      · obtain rfl : j = k := by omega
        exact hne
  · have hge : ¬ k < l.length := by simpa using hx
    refine ⟨?_, rfl⟩
    have hnot : s ∉ l := by
      intro hm
      obtain ⟨j, hj, rfl⟩ := List.getElem_of_mem hm
      exact hall j hj (by omega) rfl
    rw [decide_eq_false hnot]
def wordsR : List (List UInt8) := [[99, 104, 97, 110], [112, 114, 111, 99], [109, 97, 105, 110], [118, 97, 114], [105, 102], [101, 108, 115, 101], [119, 104, 105, 108, 101], [115, 101, 108, 101, 99, 116], [99, 97, 115, 101], [119, 104, 101, 110], [97, 102, 116, 101, 114], [115, 116, 97, 114, 116], [115, 108, 101, 101, 112], [114, 97, 110, 100, 111, 109], [112, 114, 105, 110, 116], [97, 115, 115, 101, 114, 116], [115, 107, 105, 112], [115, 116, 111, 112]]
theorem wordsR_iff (s : List UInt8) : decide (s ∈ wordsR) = decide (s ∈ words) := by
  have h1 : ∀ x ∈ wordsR, x ∈ words := by decide
  have h2 : ∀ x ∈ words, x ∈ wordsR := by decide
  rw [Bool.eq_iff_iff]; simp only [decide_eq_true_eq]
  exact ⟨h1 s, h2 s⟩
theorem rWords_spec (w : World) : Calls Try.prog 34 #[] w (Ret fun v w' => ∃ b, v = .slice (some ⟨b, 0, none⟩) 18 18 ∧ CellsAt w' ⟨b, 0, none⟩ (wordsR.map strV) ∧ Ext w w') := by
  refine R08_Words_ok _ _ ?_
  intro b w1 hb hw
  exact ⟨b, rfl, (Box.new hb hw).whole, .alloc hw⟩
theorem rSigns_spec (w : World) : Calls Try.prog 60 #[] w (Ret fun v w' => ∃ b, v = .slice (some ⟨b, 0, none⟩) 25 25 ∧ CellsAt w' ⟨b, 0, none⟩ (signsAll.map strV) ∧ Ext w w') := by
  refine R08_Signs_ok _ _ ?_
  intro b w1 hb hw
  exact ⟨b, rfl, (Box.new hb hw).whole, .alloc hw⟩

theorem beq_10 (c : UInt8) : ((c.toNat : Int) == 10) = (c == 10) := by rw [Bool.eq_iff_iff]; simp [← UInt8.toNat_inj]; omega
theorem beq_35 (c : UInt8) : ((c.toNat : Int) == 35) = (c == 35) := by rw [Bool.eq_iff_iff]; simp [← UInt8.toNat_inj]; omega
theorem bne_9 (c : UInt8) : ((c.toNat : Int) != 9) = (c != 9) := by rw [Bool.eq_iff_iff]; simp [← UInt8.toNat_inj]; omega
theorem bne_13 (c : UInt8) : ((c.toNat : Int) != 13) = (c != 13) := by rw [Bool.eq_iff_iff]; simp [← UInt8.toNat_inj]; omega
theorem bne_32 (c : UInt8) : ((c.toNat : Int) != 32) = (c != 32) := by rw [Bool.eq_iff_iff]; simp [← UInt8.toNat_inj]; omega

theorem begin_spec (s : List UInt8) (hs : s.length < 2 ^ 40) (a : Nat) (ha : a ≤ s.length) (w : World) :
    Calls Try.prog 56 #[.string (mkS s), .int .i64 (a : Int)] w (Ret fun v w' => v = .int .i64 ((a + blankN false (s.drop a) : Nat) : Int) ∧ w = w') := by
  refine R08_begin_ok _ _ _ _ ?_
  refine ⟨fun x r w' => w = w' ∧ ∃ k : Nat, x = k ∧ a ≤ k ∧ k ≤ s.length ∧ a + blankN false (s.drop a) = k + blankN r (s.drop k), fun x _ _ => s.length - x.toNat, ⟨rfl, a, rfl, Nat.le_refl _, ha, rfl⟩, ?_⟩
  rintro _ _ r _ ⟨rfl, k, rfl, hak, hk, hb⟩
  refine cond_intro (fun hx => ?_) fun hx => ?_
  · have hlt : k < s.length := by simpa using hx
    have hd := drop_cons s k hlt
    rw [Int.toNat_natCast]
    generalize hc : s.getD k 0 = c at hd ⊢
    rw [hd, blank_cons] at hb
    simp only [beq_10, beq_35, bne_9, bne_13, bne_32]
    refine ⟨by omega, fun r' w' => w = w' ∧ a + blankN false (s.drop a) = k + 1 + blankN r' (s.drop (k + 1)), ?_, ?_⟩
    · refine cond_intro (fun h10 => ?_) fun h10 => ?_
      · refine ⟨rfl, ?_⟩
        rw [hb, if_pos h10]; omega
      · rw [if_neg (by rw [h10]; simp)] at hb
        refine cond_intro (fun h35 => ?_) fun h35 => ?_
        · refine ⟨rfl, ?_⟩
          rw [hb, if_pos h35]; omega
        · rw [if_neg (by rw [h35]; simp)] at hb
          intro _
          have e : ((!r) && ((c != 9) && ((c != 13) && (c != 32)))) = (!r && c != 9 && c != 13 && c != 32) := by simp [Bool.and_assoc]
          rw [e]
          refine cond_intro (fun hst => ?_) fun hst => ?_
          · refine ⟨?_, by trivial⟩
            rw [hb, if_pos hst]; rfl
          · refine ⟨rfl, ?_⟩
            rw [hb, if_neg (by rw [hst]; simp)]; omega
    · rintro _ r' _ ⟨rfl, hb'⟩
      rw [wrap_in (by omega) (by omega)]
      exact ⟨⟨rfl, k + 1, by omega, by omega, by omega, hb'⟩, by omega⟩
  · have hge : ¬ k < s.length := by simpa using hx
    refine ⟨?_, rfl⟩
    rw [hb, List.drop_of_length_le (by omega)]; simp [blankN]

/-- a token, the place behind it, and the error, as the reference tells them -/
def gotC (x : Tok × Nat × Int) : List Value := tokC x.1 ++ [.int .i64 (x.2.1 : Int), .int .i64 x.2.2]

theorem digits_spec (s : List UInt8) (hs : s.length < 2 ^ 40) (p n : Nat) (hn : 0 < n) (hpn : p + n ≤ s.length) (hdig : ∀ c ∈ (s.drop p).take n, digC c = true) (w : World) :
    Calls Try.prog 58 #[.string (mkS s), .int .i64 (p : Int), .int .i64 ((p + n : Nat) : Int)] w (Ret fun v w' => v = .agg ⟨gotC (if (numRes ((s.drop p).take n) (s.drop (p + n))).2 = 0 then (⟨2, (s.drop p).take n, (numRes ((s.drop p).take n) (s.drop (p + n))).1, p⟩, p + n, 0) else (Tok.zero, p, (numRes ((s.drop p).take n) (s.drop (p + n))).2))⟩ ∧ Ext w w') := by
  refine R08_digits_ok _ _ _ _ _ ?_
  intro b w1 hb hw1
  have o := (Own.start w).alloc hb hw1
  have hdl : ((s.drop p).take n).length = n := by simp; omega
  have hget : ∀ i, i < n → ((s.drop p).take n).getD i 0 = s.getD (p + i) 0 := by
    intro i hi
    simp [List.getD, hi]
  have h0 := hget 0 hn
  rw [Nat.add_zero] at h0
  refine ⟨by omega, fun _ => ?_⟩
  rw [Int.toNat_natCast]
  have e48 : ((((s.getD p 0).toNat : Int) == 48) && decide (((p + n : Nat) : Int) > IntKind.i64.wrap ((p : Int) + 1))) = (((s.drop p).take n).getD 0 0 == 48 && decide (((s.drop p).take n).length > 1)) := by
    rw [h0, hdl, wrap_in (by omega) (by omega)]
    have : (((s.getD p 0).toNat : Int) == 48) = (s.getD p 0 == 48) := by
      rw [Bool.eq_iff_iff]; simp [← UInt8.toNat_inj]; omega
    rw [this]; congr 1
    rw [Bool.eq_iff_iff]; simp; omega
  rw [e48]
  generalize hd : (s.drop p).take n = d at *
  refine cond_intro (fun h => ?_) fun h => ?_
  · have hr : numRes d (s.drop (p + n)) = (0, 3) := by unfold numRes; rw [if_pos h]
    rw [hr]
    refine ⟨o.wr 0 rfl rfl, fun w2 hw2 => ?_⟩
    have o := o.sets 0 hw2 rfl
    exact ⟨_, _, _, _, _, _, (o.at 0 rfl).whole, rfl, o.done⟩
  · rw [wrap_in (n := ((p + n : Nat) : Int) - (p : Int)) (by omega) (by omega)]
    refine cond_intro (fun h18 => ?_) fun h18 => ?_
    · have hr : numRes d (s.drop (p + n)) = (0, 5) := by unfold numRes; rw [if_neg (by rw [h]; simp), if_pos (by simp at h18; omega)]
      rw [hr]
      refine ⟨o.wr 0 rfl rfl, fun w2 hw2 => ?_⟩
      have o := o.sets 0 hw2 rfl
      exact ⟨_, _, _, _, _, _, (o.at 0 rfl).whole, rfl, o.done⟩
    · have h18' : ¬ d.length > 18 := by simp at h18; omega
      refine ⟨fun x w' => w1 = w' ∧ x = headLet (s.drop (p + n)), ?_, ?_⟩
      · refine cond_intro (fun hx => ?_) fun hx => ?_
        · have hlt : p + n < s.length := by simp at hx; omega
          refine ⟨by omega, call_then (rLetter_spec _ (UInt8.toNat_lt _) w1) ?_⟩
          rintro _ _ ⟨rfl, rfl⟩
          refine ⟨_, rfl, rfl, ?_⟩
          rw [Int.toNat_natCast, drop_cons s (p + n) hlt]; rfl
        · have hge : ¬ p + n < s.length := by simp at hx; omega
          refine ⟨rfl, ?_⟩
          rw [List.drop_of_length_le (by omega)]; rfl
      · rintro _ x _ ⟨rfl, rfl⟩
        refine cond_intro (fun hx => ?_) fun hx => ?_
        · have hr : numRes d (s.drop (p + n)) = (0, 3) := by unfold numRes; rw [if_neg (by rw [h]; simp), if_neg h18', if_pos hx]
          rw [hr]
          refine ⟨o.wr 0 rfl rfl, fun w2 hw2 => ?_⟩
          have o := o.sets 0 hw2 rfl
          exact ⟨_, _, _, _, _, _, (o.at 0 rfl).whole, rfl, o.done⟩
        · have hr : numRes d (s.drop (p + n)) = (((numVal d : Nat) : Int), 0) := by unfold numRes; rw [if_neg (by rw [h]; simp), if_neg h18', if_neg (by rw [hx]; simp)]
          rw [hr]
          refine ⟨fun v i w' => w1 = w' ∧ ∃ k : Nat, i = ((p + k : Nat) : Int) ∧ k ≤ n ∧ v = (numVal (d.take k) : Nat), fun _ i _ => p + n - i.toNat, ⟨rfl, 0, rfl, Nat.zero_le _, rfl⟩, ?_⟩
          rintro _ _ _ _ ⟨rfl, k, rfl, hk, rfl⟩
          refine cond_intro (fun hx => ?_) fun hx => ?_
          · have hlt : k < n := by simp at hx; omega
            refine ⟨by omega, ?_⟩
            have hltd : k < d.length := by omega
            rw [Int.toNat_natCast, ← hget k hlt, getD_eq d k hltd]
            have hdk := hdig d[k] (List.getElem_mem hltd)
            simp [digC, digN] at hdk
            have hbd : numVal (d.take k) < 10 ^ k := by
              have := numVal_bd (d.take k) (fun c hc => hdig c (List.mem_of_mem_take hc))
              rwa [List.length_take, Nat.min_eq_left (by omega)] at this
            have hbd2 : 10 ^ k ≤ 10 ^ 17 := Nat.pow_le_pow_right (by omega) (by omega)
            rw [wrap_in (n := (d[k].toNat : Int)) (by omega) (by omega), wrap_in (n := (numVal (d.take k) : Nat) * 10) (by omega) (by omega), wrap_in (n := (numVal (d.take k) : Nat) * 10 + (d[k].toNat : Int)) (by omega) (by omega), wrap_in (by omega) (by omega), wrap_in (n := ((p + k : Nat) : Int) + 1) (by omega) (by omega)]
            refine ⟨⟨rfl, k + 1, by omega, by omega, ?_⟩, by dsimp only; omega⟩
            rw [List.take_succ_eq_append_getElem hltd, numVal_snoc]; omega
          · have hkn : k = n := by simp at hx; omega
            subst hkn
            refine ⟨by omega, o.wr 0 rfl rfl, fun w2 hw2 => ?_⟩
            have o := o.sets 0 hw2 rfl
            refine ⟨_, _, _, _, _, _, (o.at 0 rfl).whole, ?_, o.done⟩
            have ht : (s.take ((p + k : Nat) : Int).toNat).drop p = d := by rw [Int.toNat_natCast, List.drop_take, ← hd]; congr 1; omega
            rw [ht, List.take_of_length_le (by omega)]; rfl
end Go.Proofs.Ytahppcghgmhkiaa
