/- Contracts: token.All, Name, the law's live. -/
import Derived.Test.YtahppcghgmhkiaaTokG
import Derived.Test.YtahppcghgmhkiaaWlaw8
namespace Go.Tk
open Go.Vc

theorem tokAt_adv (l : List UInt8) (p : Nat) (h : (tokAt l p).2.2 = 0) (hk : (tokAt l p).1.kind ≠ 0) : p < (tokAt l p).2.1 ∧ (tokAt l p).2.1 ≤ p + l.length := by
  cases l with
  | nil => exact absurd rfl hk
  | cons c l =>
    rw [tokAt_cons] at *
    split at h
    · rename_i hc
      split at h
      · cases h
      · rename_i h16
        simp only [hc, if_true, if_neg h16]
        have h1 := Go.Proofs.Ytahppcghgmhkiaa.takeWhile_le wordC (c :: l)
        have h2 : 0 < ((c :: l).takeWhile wordC).length := by
          rw [List.takeWhile_cons, if_pos (by simp only [wordC, wordN]; simp only [letC] at hc; rw [hc]; rfl)]; simp
        omega
    · rename_i hc
      split at h
      · rename_i hd
        split at h
        · rename_i hq
          simp only [hc, hd, if_true, if_pos hq, Bool.false_eq_true, if_false]
          have h1 := Go.Proofs.Ytahppcghgmhkiaa.takeWhile_le digC (c :: l)
          have h2 : 0 < ((c :: l).takeWhile digC).length := by rw [List.takeWhile_cons, if_pos hd]; simp
          omega
        · rename_i hq; exact absurd h hq
      · rename_i hd
        split at h
        · cases h
        · rename_i hq
          simp only [hc, hd, if_neg hq, Bool.false_eq_true, if_false]
          have h1 := Go.Proofs.Ytahppcghgmhkiaa.signOf_le (c :: l)
          have h2 : 0 < (signOf (c :: l)).length := by cases hh : signOf (c :: l) with | nil => exact absurd hh hq | cons _ _ => simp
          omega
theorem tokAt_err (l : List UInt8) (p : Nat) (h : (tokAt l p).2.2 ≠ 0) : (tokAt l p).2.1 = p := by
  cases l with
  | nil => exact absurd rfl h
  | cons c l =>
    rw [tokAt_cons] at *
    split at h
    · rename_i hc
      split at h
      · rename_i h16; simp only [hc, if_true, if_pos h16]
      · exact absurd rfl h
    · rename_i hc
      split at h
      · rename_i hd
        split at h
        · exact absurd rfl h
        · rename_i hq; simp only [hc, hd, if_true, if_neg hq, Bool.false_eq_true, if_false]
      · rename_i hd
        split at h
        · rename_i hq; simp only [hc, hd, if_pos hq, Bool.false_eq_true, if_false]
        · exact absurd rfl h
theorem nextS_adv (s : List UInt8) (a : Nat) (ha : a ≤ s.length) (h : (nextS s a).2.2 = 0) (hk : (nextS s a).1.kind ≠ 0) : a < (nextS s a).2.1 ∧ (nextS s a).2.1 ≤ s.length := by
  have e : nextS s (a : Int) = tokAt (s.drop (a + blankN false (s.drop a))) (a + blankN false (s.drop a)) := by
    unfold nextS; rw [if_neg (by omega), Int.toNat_natCast]
  rw [e] at h hk ⊢
  have hb := blank_le false (s.drop a)
  have := tokAt_adv _ _ h hk
  simp only [List.length_drop] at hb this
  omega

/-- P8.2: the tokens from a place on; fuel, the place, what there is already -/
def allFrom (s : List UInt8) : Nat → Nat → List Tok → List Tok × Int × Int
  | 0, _, acc => (acc, 0, 0)
  | f + 1, a, acc =>
    if (nextS s a).2.2 ≠ 0 then ([], (nextS s a).2.1, (nextS s a).2.2)
    else if (nextS s a).1.kind = 0 then (acc ++ [(nextS s a).1], (nextS s a).1.at_, 0)
    else allFrom s f (nextS s a).2.1 (acc ++ [(nextS s a).1])
def allS (s : List UInt8) : List Tok × Int × Int := if s.length > 65536 then ([], 0, 5) else allFrom s (s.length + 1) 0 []
def nameS (s : List UInt8) : Bool :=
  match s with
  | [] => false
  | c :: l => decide ((c :: l).length ≤ 16) && (letC c && ((c :: l).all wordC && !decide ((c :: l) ∈ words)))
theorem nameS_cons (c : UInt8) (l : List UInt8) : nameS (c :: l) = (decide ((c :: l).length ≤ 16) && (letC c && ((c :: l).all wordC && !decide ((c :: l) ∈ words)))) := rfl
theorem takeWhile_all {α : Type} [BEq α] [LawfulBEq α] (p : α → Bool) : ∀ (l : List α), (l.takeWhile p == l) = l.all p
  | [] => by simp
  | a :: l => by
    rw [List.takeWhile_cons, List.all_cons]
    cases h : p a with
    | true => simp only [if_true, Bool.true_and]; rw [← takeWhile_all p l]; rw [Bool.eq_iff_iff]; simp
    | false => simp
theorem tokC_len (t : Tok) : (tokC t).length = 4 := rfl
end Go.Tk
namespace Go.Proofs.Ytahppcghgmhkiaa
open Go.Vc Go.Tk

theorem Name_spec (s : List UInt8) (w : World) : Calls Try.prog 35 #[.string (mkS s)] w (Ret fun v w' => v = .bool (nameS s) ∧ Ext w w') := by
  refine token_Name_ok _ _ _ ?_
  cases s with
  | nil => exact ⟨rfl, Ext.refl _⟩
  | cons c l =>
    refine cond_t rfl (cond_intro (fun h16 => ?_) fun h16 => ?_)
    · have h16' : (c :: l).length ≤ 16 := by simp at h16; simp; omega
      refine ⟨⟨by omega, by simp⟩, call_then (letter_spec _ (UInt8.toNat_lt _) w) ?_⟩
      rintro _ _ ⟨rfl, rfl⟩
      have e0 : (c :: l).getD 0 0 = c := rfl
      rw [e0]
      refine ⟨_, rfl, cond_intro (fun hl => ?_) fun hl => ?_⟩
      · refine call_then (run_wordly_spec (c :: l) (by omega) w) ?_
        rintro _ _ ⟨rfl, rfl⟩
        refine ⟨_, rfl, ?_⟩
        rw [takeWhile_all]
        refine cond_intro (fun ha => ?_) fun ha => ?_
        · refine call_then (Word_spec _ w) ?_
          rintro _ w3 ⟨rfl, he⟩
          refine ⟨_, rfl, ?_, he⟩
          rw [nameS_cons, decide_eq_true h16', show letC c = true from hl, ha]; simp
        · exact ⟨by rw [nameS_cons, ha]; simp, Ext.refl _⟩
      · exact ⟨by rw [nameS_cons, show letC c = false from hl]; simp, Ext.refl _⟩
    · have h16' : ¬ (c :: l).length ≤ 16 := by simp at h16; simp; omega
      exact ⟨by rw [nameS_cons, decide_eq_false h16']; simp, Ext.refl _⟩

theorem sl_tok : SlTy Try.prog 22 47 4 40 := ⟨Try.t47, .agg #[.int .i64 0, .string (mkS []), .int .i64 0, .int .i64 0], by kernel_rfl, by kernel_rfl, by kernel_rfl, by kernel_rfl, by kernel_rfl, by kernel_rfl, by decide⟩

theorem tokC_one (t : Tok) : ∀ u ∈ tokC t, u.oneCell' = true := by
  intro u hu
  simp only [tokC, List.mem_cons, List.not_mem_nil, or_false] at hu
  rcases hu with rfl | rfl | rfl | rfl <;> rfl

theorem All_spec (s : List UInt8) (w : World) :
    Calls Try.prog 30 #[.string (mkS s)] w (Ret fun v w' => ∃ a c, v = .tuple #[.slice a (allS s).1.length c, .int .i64 (allS s).2.1, .int .i64 (allS s).2.2] ∧ SlAt w' a (flat tokC (allS s).1) ∧ Ext w w') := by
  refine token_All_ok _ _ _ ?_
  refine cond_intro (fun hx => ?_) fun hx => ?_
  · have : allS s = ([], 0, 5) := by unfold allS; rw [if_pos (by simp at hx; omega)]
    rw [this]
    exact ⟨none, 0, rfl, rfl, Ext.refl _⟩
  · have hs : s.length ≤ 65536 := by simp at hx; omega
    have hall : allS s = allFrom s (s.length + 1) 0 [] := by unfold allS; rw [if_neg (by omega)]
    rw [hall]
    refine ⟨fun a n c x w' => ∃ (acc : List Tok) (f k : Nat), x = k ∧ n = acc.length ∧ acc.length ≤ k ∧ k ≤ s.length ∧ s.length < f + k ∧ allFrom s (s.length + 1) 0 [] = allFrom s f k acc ∧ Rw w' w.heap.size 47 4 a n c (flat tokC acc) ∧ Own w.heap.size w w' [],
      fun _ _ _ x _ => s.length - x.toNat, ⟨[], s.length + 1, 0, rfl, rfl, Nat.zero_le _, Nat.zero_le _, by omega, rfl, Rw.nil _ _ _ _, Own.start w⟩, ?_⟩
    rintro _ oa on oc x w1 ⟨acc, f, k, rfl, rfl, hacc, hk, hf, heq, hrow, o⟩
    rw [heq]
    obtain ⟨f, rfl⟩ : ∃ f', f = f' + 1 := ⟨f - 1, by omega⟩
    refine call_then (Next_spec s (by omega) k w1) ?_
    rintro _ w2 ⟨rfl, he⟩
    have o := o.ext he
    have hrow := hrow.ext he
    refine ⟨_, _, _, _, _, _, rfl, ?_⟩
    intro b w3 hb hw3
    have hne : blk oa ≠ some b := fun e => by have := (hrow.lt b e).2; omega
    have hrow := hrow.ext (.alloc hw3)
    have o := o.alloc hb hw3
    refine ⟨o.wr 0 rfl rfl, fun w4 hw4 => ?_⟩
    have o := o.sets 0 hw4 rfl
    have hrow := hrow.sets hw4 hne
    have hadv := nextS_adv s k hk
    have hstep : allFrom s (f + 1) k acc = if (nextS s k).2.2 ≠ 0 then (([] : List Tok), ((nextS s k).2.1 : Int), (nextS s k).2.2) else if (nextS s k).1.kind = 0 then (acc ++ [(nextS s k).1], (nextS s k).1.at_, 0) else allFrom s f (nextS s k).2.1 (acc ++ [(nextS s k).1]) := rfl
    generalize nextS s k = x at *
    obtain ⟨t, nx, e⟩ := x
    simp only at hadv hstep ⊢
    refine cond_intro (fun he => ?_) fun he => ?_
    · have he' : e ≠ 0 := by simpa using he
      rw [hstep, if_pos he']
      exact ⟨none, 0, rfl, rfl, o.done⟩
    · have he' : e = 0 := by simpa using he
      subst he'
      rw [if_neg (fun h => h rfl)] at hstep
      refine ⟨_, _, _, _, (o.at 0 rfl).whole, ?_⟩
      intro b1 w5 hb1 hw5
      have hne1 : blk oa ≠ some b1 := fun e => by have := (hrow.lt b1 e).2; omega
      have hrow := hrow.ext (.alloc hw5)
      have o := o.alloc hb1 hw5
      refine append_own sl_tok hrow (news := tokC t) (o.at 0 rfl).whole rfl (tokC_one t) (by omega) (by decide) o.le fun a' c' w6 hrow6 hg => ?_
      have o := o.grown hg (fun j hj => ⟨(hrow.lt j hj).1, fun p hp => by
        simp only [List.set_cons_zero, List.mem_cons, List.not_mem_nil, or_false] at hp
        rcases hp with rfl | rfl
        · exact fun e => hne1 (by rw [hj]; exact congrArg some e.symm)
        · exact fun e => hne (by rw [hj]; exact congrArg some e.symm)⟩)
      rw [← flat_snoc] at hrow6
      refine ⟨_, _, _, rfl, _, (o.at 1 rfl).cell rfl, cond_intro (fun hk0 => ?_) fun hk0 => ?_⟩
      · have hk0' : t.kind = 0 := by simpa using hk0
        rw [hstep, if_pos hk0']
        intro w7 hw7
        have o := o.drew hw7
        refine ⟨_, (o.at 1 rfl).cell rfl, a', c', ?_, hrow6.sl.ext (.drew hw7), o.done⟩
        simp
      · have hk0' : t.kind ≠ 0 := by simpa using hk0
        rw [if_neg hk0'] at hstep
        obtain ⟨h1, h2⟩ := hadv rfl hk0'
        refine ⟨⟨acc ++ [t], f, nx, rfl, by simp, by simp; omega, h2, by omega, hstep, hrow6, ⟨o.below, o.le, fun _ h => (by cases h), List.Pairwise.nil⟩⟩, by omega⟩
end Go.Proofs.Ytahppcghgmhkiaa
