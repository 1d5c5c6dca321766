/- Layer 10: Parse of the program and of the reference; the law's same. -/
import Derived.Test.YtahppcghgmhkiaaTermI
import Derived.Test.YtahppcghgmhkiaaWlaw10
namespace Go.Proofs.Ytahppcghgmhkiaa
open Go.Vc Go.Tk Go.Tm

/-- the program reads as P tells -/
theorem pWalk (toks : List Tok) (hN : toks.length < 2 ^ 30) (rb : Nat) (ta : Option Addr) (tc : Nat) (hoff : Off ta (flat tokC toks) rb) : ∀ f, ∀ f1, f1 ≤ f →
    (∀ p d r, P toks f1 (.one p d) = some r → d ≤ 24 → ∀ w, Box w rb (rdC ta toks.length tc p d 0) → SlAt w ta (flat tokC toks) → Calls Try.prog 66 #[.pointer (some ⟨rb, 0, none⟩)] w (Ret (RG toks rb ta tc d (25 - d) w r))) ∧
    (∀ (n : Nat) p d r, 1 ≤ n → n ≤ 6 → P toks f1 (.lev n p d) = some r → d ≤ 24 → ∀ w, Box w rb (rdC ta toks.length tc p d 0) → SlAt w ta (flat tokC toks) → Calls Try.prog 42 #[.pointer (some ⟨rb, 0, none⟩), .int .i64 n] w (Ret (RG toks rb ta tc d (25 - d) w r))) := by
  intro f
  induction f with
  | zero =>
    intro f1 hf
    obtain rfl : f1 = 0 := by omega
    exact ⟨fun _ _ _ h => by simp [P] at h, fun _ _ _ _ _ _ h => by simp [P] at h⟩
  | succ f ih =>
    intro f1 hf
    by_cases hle : f1 ≤ f
    · exact ih f1 hle
    · obtain rfl : f1 = f + 1 := by omega
      refine ⟨fun p d r h hd w hr hs => ?_, fun n p d r h1 h6 h hd w hr hs => pFrom_step toks hN rb ta tc hoff f (fun f1 p d r hf => (ih f1 hf).1 p d r) (fun f1 n p d r hf => (ih f1 hf).2 n p d r) n p d r h1 h6 h hd w hr hs⟩
      simp only [P] at h
      have ih := ih f (Nat.le_refl _)
      exact pOne_step toks hN rb ta tc hoff _ _ ih.1 (fun p d r h hd w hr hs => ih.2 1 p d r (by omega) (by omega) h hd w hr hs) (fun p d r h => (P_ok toks f).2.1 1 p d r h) p d r h hd w hr hs

def parseOf (toks : List Tok) (at_ : Int) : Res := if at_ < 0 then ⟨[], 0, 1⟩ else (P toks (3 * (toks.length - at_.toNat) + 2) (.lev 1 at_.toNat 0)).getD ⟨[], 0, 0⟩
theorem parseOf_pos (toks : List Tok) (at_ : Int) (h : ¬ at_ < 0) : P toks (3 * (toks.length - at_.toNat) + 2) (.lev 1 at_.toNat 0) = some (parseOf toks at_) := by
  obtain ⟨r, hr⟩ := (P_total toks _).2.1 1 at_.toNat 0 (Nat.le_refl _)
  unfold parseOf
  rw [if_neg h, hr]
  rfl
theorem parseOf_nil (toks : List Tok) (at_ : Int) (h : (parseOf toks at_).e ≠ 0) : (parseOf toks at_).l = [] := by
  by_cases h0 : at_ < 0
  · unfold parseOf; rw [if_pos h0]
  · exact ((P_ok toks _).2.1 _ _ _ _ (parseOf_pos toks at_ h0)).2 h

theorem Parse_spec (toks : List Tok) (hN : toks.length < 2 ^ 30) (ta : Option Addr) (tc : Nat) (at_ : Int) (w : World) (hs : SlAt w ta (flat tokC toks)) :
    Calls Try.prog 16 #[.slice ta toks.length tc, .int .i64 at_] w (Ret fun v w' => ∃ a c, v = .tuple #[.slice a (parseOf toks at_).l.length c, .int .i64 (parseOf toks at_).at_, .int .i64 (parseOf toks at_).e] ∧ SlAt w' a (flat ndC (parseOf toks at_).l) ∧ Ext w w') := by
  refine term_Parse_ok _ _ _ _ _ _ (cond_intro (fun h0 => ?_) fun h0 => ?_)
  · have h0 : at_ < 0 := by simpa using h0
    unfold parseOf
    rw [if_pos h0]
    exact ⟨none, 0, rfl, rfl, Ext.refl _⟩
  · have h0 : ¬ at_ < 0 := by simpa using h0
    have hP := parseOf_pos toks at_ h0
    have hnil := parseOf_nil toks at_
    generalize parseOf toks at_ = r at hP hnil ⊢
    obtain ⟨p, rfl⟩ : ∃ p : Nat, at_ = p := ⟨at_.toNat, by omega⟩
    intro b w1 hb hw1
    have o := (Own.start w).alloc hb hw1
    have hoff := hs.off (b := b) (by omega)
    have e1 := Ext.alloc hw1
    refine call_then ((pWalk toks hN b ta tc hoff _ _ (Nat.le_refl _)).2 1 p 0 r (by omega) (by omega) hP (by omega) w1 (o.at 0 rfl) (hs.ext e1)) ?_
    rintro _ w2 ⟨a, m, c, l, rfl, rfl, hsl, hfr, hle, hl, hb', hg⟩
    have ext : Ext w w2 := by
      have hsz := e1.size
      exact ⟨hg.os.trans e1.os, hg.tape.trans e1.tape, hg.output.trans e1.output, Nat.le_trans e1.size hg.size, fun k hk => (hg.block k (by omega) (fun h => by cases h; omega)).trans (Go.RowKit.Below.block e1 k hk)⟩
    refine ⟨_, _, _, rfl, _, hb'.cell rfl, cond_intro (fun he => ?_) fun he => ?_⟩
    · have he : r.e ≠ 0 := by simpa using he
      intro w3 hw3
      have hb' := hb'.ext (.drew hw3)
      refine ⟨_, hb'.cell rfl, _, hb'.cell rfl, none, 0, ?_, by rw [hnil he]; rfl, ext.trans (.drew hw3)⟩
      rw [hnil he]; rfl
    · have he : r.e = 0 := by simpa using he
      intro w3 hw3
      have hb' := hb'.ext (.drew hw3)
      refine ⟨_, hb'.cell rfl, a, c, ?_, ?_, ext.trans (.drew hw3)⟩
      · rw [he, ← hl he]
      · rw [← hl he]; exact hsl.ext (.drew hw3)

theorem rParse_spec (toks : List Tok) (hN : toks.length < 2 ^ 30) (ta : Option Addr) (tc : Nat) (at_ : Int) (w : World) (hs : SlAt w ta (flat tokC toks)) :
    Calls Try.prog 18 #[.slice ta toks.length tc, .int .i64 at_] w (Ret fun v w' => ∃ a c, v = .agg ⟨resC a c (parseOf toks at_)⟩ ∧ SlAt w' a (flat ndC (parseOf toks at_).l) ∧ Ext w w') := by
  refine R10_Parse_ok _ _ _ _ _ _ ?_
  intro b w1 hb hw1
  have o := (Own.start w).alloc hb hw1
  have e1 := Ext.alloc hw1
  refine cond_intro (fun h0 => ?_) fun h0 => ?_
  · have h0 : at_ < 0 := by simpa using h0
    refine ⟨o.wr 0 rfl rfl, fun w2 hw2 => ?_⟩
    have o := o.sets 0 hw2 rfl
    unfold parseOf
    rw [if_pos h0]
    exact ⟨_, _, _, _, _, (o.at 0 rfl).whole, none, 0, rfl, rfl, o.done⟩
  · have h0 : ¬ at_ < 0 := by simpa using h0
    have hP := parseOf_pos toks at_ h0
    generalize parseOf toks at_ = r at hP ⊢
    obtain ⟨p, rfl⟩ : ∃ p : Nat, at_ = p := ⟨at_.toNat, by omega⟩
    obtain ⟨g, hg⟩ := (P_R toks _).2.1 1 _ _ _ (by omega) (by omega) hP
    refine call_then ((rWalk toks hN ta tc g).2 1 p 0 r (by omega) (by omega) hg (by omega) w1 (hs.ext e1)) ?_
    rintro _ w3 ⟨a, c, rfl, hsl, hfr, he3⟩
    have o := o.ext he3
    refine ⟨_, _, _, _, _, rfl, o.wr 0 rfl rfl, fun w4 hw4 => ?_⟩
    have hsl := hsl.sets hw4 (fresh_off hfr (by have := alloc_size hw1; omega) _)
    have o := o.sets 0 hw4 rfl
    exact ⟨_, _, _, _, _, (o.at 0 rfl).whole, a, c, rfl, hsl, o.done⟩

theorem rSame_spec (l m : List Nd) (hl : l.length < 2 ^ 60) (a b : Option Addr) (c d : Nat) (w : World) (ha : SlAt w a (flat ndC l)) (hb : SlAt w b (flat ndC m)) :
    Calls Try.prog 43 #[.slice a l.length c, .slice b m.length d] w (Ret fun v w' => v = .bool (decide (l = m)) ∧ Ext w w') := by
  refine R10_Same_ok _ _ _ _ _ _ _ _ (cond_intro (fun h => ?_) fun h => ?_)
  · have h : l.length ≠ m.length := by have : ¬ (l.length : Int) = m.length := (by simpa using h); omega
    exact ⟨by rw [decide_eq_false (fun e => h (by rw [e]))], Ext.refl _⟩
  · have h : l.length = m.length := by have : (l.length : Int) = m.length := (by simpa using h); omega
    refine ⟨fun i w1 => ∃ k : Nat, i = k ∧ k ≤ l.length ∧ l.take k = m.take k ∧ Ext w w1, fun i _ => l.length - i.toNat, ⟨0, rfl, by omega, rfl, Ext.refl _⟩, ?_⟩
    rintro _ _ w1 ⟨k, rfl, hk, ht, he1⟩
    refine cond_intro (fun hi => ?_) fun hi => ?_
    · have hi : k < l.length := by simpa using hi
      have hi2 : k < m.length := by omega
      intro w2 hw2
      have he2 := he1.trans (.drew hw2)
      obtain ⟨p, hp, hcp⟩ := (ha.ext he2).elem ndC_len (by decide) hi
      obtain ⟨q, hq, hcq⟩ := (hb.ext he2).elem ndC_len (by decide) hi2
      refine ⟨⟨by omega, by omega⟩, ptrOr_some hp ⟨_, _, _, _, _, hcp, ⟨by omega, by omega⟩, ptrOr_some hq ⟨_, _, _, _, _, hcq, ?_⟩⟩⟩
      have hx : ((l[k].op == m[k].op) && ((l[k].name == m[k].name) && ((l[k].n == m[k].n) && ((l[k].kids == m[k].kids) && ((l[k].at_ == m[k].at_) && true))))) = decide (l[k] = m[k]) := by
        rw [Bool.eq_iff_iff]
        generalize l[k] = x
        generalize m[k] = y
        cases x; cases y
        simp
      rw [hx]
      refine cond_intro (fun hc => ?_) fun hc => ?_
      · have hc : l[k] ≠ m[k] := by simpa using hc
        exact ⟨by rw [decide_eq_false (fun e => hc (by simp [e]))], he2⟩
      · have hc : l[k] = m[k] := by simpa using hc
        rw [wrap_in (by omega) (by omega)]
        refine ⟨⟨k + 1, by omega, by omega, ?_, he2⟩, (show l.length - ((k : Int) + 1).toNat < l.length - (k : Int).toNat by omega)⟩
        rw [List.take_succ_eq_append_getElem hi, List.take_succ_eq_append_getElem hi2, ht, hc]
    · have hi : k = l.length := by have : ¬ ((k : Int) < l.length) := (by simpa using hi); omega
      subst hi
      rw [List.take_length, h, List.take_length] at ht
      exact ⟨by rw [decide_eq_true ht], he1⟩

theorem same_spec (l m : List Nd) (hl : l.length < 2 ^ 60) (a b : Option Addr) (c d : Nat) (at1 e1 at2 e2 : Int) (w : World) (ha : SlAt w a (flat ndC l)) (hb : SlAt w b (flat ndC m)) :
    Calls Try.prog 17 #[.slice a l.length c, .int .i64 at1, .int .i64 e1, .agg #[.slice b m.length d, .int .i64 at2, .int .i64 e2]] w (Ret fun v w' => v = .bool (decide (l = m ∧ at1 = at2 ∧ e1 = e2)) ∧ Ext w w') := by
  refine L10_same_ok _ _ _ _ _ _ _ _ _ _ _ _ ?_
  intro x w1 hx hw1
  have o := (Own.start w).alloc hx hw1
  refine ⟨_, _, _, (o.at 0 rfl).cell rfl, call_then (rSame_spec l m hl a b c d w1 (ha.ext (.alloc hw1)) (hb.ext (.alloc hw1))) ?_⟩
  rintro _ w2 ⟨rfl, he2⟩
  have o := o.ext he2
  refine ⟨_, rfl, cond_intro (fun h1 => ?_) fun h1 => ?_⟩
  · have h1 := of_decide_eq_true h1
    refine ⟨_, (o.at 0 rfl).cell rfl, cond_intro (fun h2 => ?_) fun h2 => ?_⟩
    · have h2 : at1 = at2 := by simpa using h2
      refine ⟨_, (o.at 0 rfl).cell rfl, ?_, o.done⟩
      congr 1
      rw [Bool.eq_iff_iff]
      simp [h1, h2]
    · have h2 : at1 ≠ at2 := by simpa using h2
      exact ⟨by simp [h2], o.done⟩
  · have h1 := of_decide_eq_false h1
    exact ⟨by simp [h1], o.done⟩
end Go.Proofs.Ytahppcghgmhkiaa
