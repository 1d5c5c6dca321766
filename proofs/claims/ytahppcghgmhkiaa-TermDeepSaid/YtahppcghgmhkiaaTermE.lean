/- Layer 10: the reference reads as R tells. -/
import Derived.Test.YtahppcghgmhkiaaTermD
namespace Go.Proofs.Ytahppcghgmhkiaa
open Go.Vc Go.Tk Go.Tm

theorem alloc_size {w w' : World} {o : Obj} (h : w' = w.alloc o) : w'.heap.size = w.heap.size + 1 := by
  subst h; show (Array.push _ _).size = _; simp

set_option maxHeartbeats 1000000 in
theorem rLev_step (toks : List Tok) (hN : toks.length < 2 ^ 30) (ta : Option Addr) (tc f : Nat)
    (hone : ∀ p d r, R toks f (.one p d) = some r → d ≤ 24 → ∀ w, SlAt w ta (flat tokC toks) → Calls Try.prog 68 #[.slice ta toks.length tc, .int .i64 p, .int .i64 d] w (Ret (Gives w r)))
    (hlev : ∀ (n : Nat) p d r, 1 ≤ n → n ≤ 6 → R toks f (.lev n p d) = some r → d ≤ 24 → ∀ w, SlAt w ta (flat tokC toks) → Calls Try.prog 44 #[.slice ta toks.length tc, .int .i64 p, .int .i64 n, .int .i64 d] w (Ret (Gives w r)))
    (n p d : Nat) (r : Res) (hn1 : 1 ≤ n) (hn6 : n ≤ 6) (h : R toks (f + 1) (.lev n p d) = some r) (hd : d ≤ 24) (w : World) (hs : SlAt w ta (flat tokC toks)) :
    Calls Try.prog 44 #[.slice ta toks.length tc, .int .i64 p, .int .i64 n, .int .i64 d] w (Ret (Gives w r)) := by
  refine R10_level_ok _ _ _ _ _ _ _ _ ?_
  intro b w1 hb hw1
  have o : Own w.heap.size w w1 [(b, zero3)] := (Own.start w).alloc hb hw1
  have hbl1 := (o.at 0 rfl).lt
  have hs1 := hs.ext (.alloc hw1)
  rw [R] at h
  refine cond_intro (fun h6 => ?_) fun h6 => ?_
  · have h6 : n = 6 := by simp at h6; omega
    rw [if_pos h6] at h
    refine call_then (hone _ _ _ h hd w1 hs1) ?_
    rintro _ w2 ⟨a, c, rfl, hsl, hfr, he2⟩
    have o := o.ext he2
    refine ⟨_, _, _, _, _, rfl, o.wr 0 rfl rfl, fun w3 hw3 => ?_⟩
    have hsl := hsl.sets hw3 (fresh_off hfr hbl1 _)
    have hle := (Ext.alloc hw1).size
    have o := o.sets 0 hw3 rfl
    exact ⟨_, _, _, _, _, (o.at 0 rfl).whole, a, c, rfl, hsl, fun k hk => Nat.le_trans hle (hfr k hk), o.done⟩
  · have h6 : n ≠ 6 := by simp at h6; omega
    rw [if_neg h6] at h
    obtain ⟨x0, hx0, hr0⟩ := Option.bind_eq_some_iff.1 h
    have hn' : IntKind.i64.wrap ((n : Int) + 1) = ((n + 1 : Nat) : Int) := by rw [wrap_in (by omega) (by omega)]; omega
    rw [hn']
    refine call_then (hlev (n + 1) _ _ _ (by omega) (by omega) hx0 hd w1 hs1) ?_
    rintro _ w4 ⟨a0, c0, rfl, hsl, hfr, he4⟩
    have o := o.ext he4
    refine ⟨_, _, _, _, _, rfl, ?_⟩
    intro b1 w5 hb1 hw5
    have hoff1 := hsl.off (b := b1) (by omega)
    have hsl := hsl.ext (.alloc hw5)
    have o := o.alloc hb1 hw5
    refine ⟨o.wr 0 rfl rfl, fun w6 hw6 => ?_⟩
    have o : Own w.heap.size w w6 [(b1, resC a0 c0 x0), (b, zero3)] := o.sets 0 hw6 rfl
    have hsl := hsl.sets hw6 hoff1
    have hok0 := (R_ok toks f).2.1 _ _ _ _ hx0
    have hle1 := (Ext.alloc hw1).size
    refine ⟨fun w7 => ∃ f' x a c, f' ≤ f ∧ R toks f' (.loop n 0 d x) = some r ∧ (x.e = 0 → x.at_ ≤ toks.length ∧ x.l.length ≤ x.at_) ∧ SlAt w7 a (flat ndC x.l) ∧ Off a (flat ndC x.l) b ∧ Off a (flat ndC x.l) b1 ∧
        (∀ k, blk a = some k → w.heap.size ≤ k) ∧ Own w.heap.size w w7 [(b1, resC a c x), (b, zero3)],
      fun w7 => match w7.cell? ⟨b1, 1, none⟩ with | some (.int _ i) => toks.length + 1 - i.toNat | _ => 0,
      ⟨f, x0, a0, c0, Nat.le_refl _, hr0, fun he => by have := hok0.1 he; omega, hsl, fresh_off hfr hbl1 _, hoff1, fun k hk => Nat.le_trans hle1 (hfr k hk), o⟩, ?_⟩
    clear hsl hoff1 hfr o hok0 hr0 hx0
    rintro _ w7 ⟨f', x, a, c, hf', hr, hxo, hsl, hoffb, hoffb1, hfr, o⟩
    obtain ⟨g, rfl⟩ : ∃ g, f' = g + 1 := by
      cases f' with
      | zero => simp [R] at hr
      | succ g => exact ⟨g, rfl⟩
    rw [R] at hr
    have e7 : w7.cell? ⟨b1, 1, none⟩ = some (.int .i64 (x.at_ : Int)) := (o.at 0 rfl).cell rfl
    refine ⟨_, (o.at 0 rfl).cell rfl, cond_intro (fun he => ?_) fun he => ?_⟩
    · have he : x.e = 0 := by simpa using he
      have hxo := hxo he
      rw [if_neg (by simpa using he)] at hr
      refine ⟨_, (o.at 0 rfl).cell rfl, call_then (rTok_spec toks ta tc x.at_ w7 (hs.ext o.done)) ?_⟩
      rintro _ w8 ⟨rfl, he8⟩
      have o := o.ext he8
      have hsl := hsl.ext he8
      have hmine : mine toks x.at_ = if (T toks x.at_).kind = 4 then levO (opOf (T toks x.at_).text) else 0 := rfl
      have hjoin : ∀ y, join toks x y = ⟨⟨opOf (T toks x.at_).text, [], 0, 2, (T toks x.at_).at_⟩ :: x.l ++ y.l, y.at_, 0⟩ := fun _ => rfl
      have hmlt := mine_lt (toks := toks) (p := x.at_)
      generalize T toks x.at_ = t at hmine hjoin ⊢
      refine ⟨_, _, _, _, rfl, ?_⟩
      intro b2 w9 hb2 hw9
      have hoff2 := hsl.off (b := b2) (by omega)
      have hsl := hsl.ext (.alloc hw9)
      have o := o.alloc hb2 hw9
      refine ⟨o.wr 0 rfl rfl, fun w10 hw10 => ?_⟩
      have o : Own w.heap.size w w10 [(b2, tokC t), (b1, resC a c x), (b, zero3)] := o.sets 0 hw10 rfl
      have hsl := hsl.sets hw10 hoff2
      refine ⟨_, (o.at 0 rfl).cell rfl, call_then (rOp_spec t.text w10) ?_⟩
      rintro _ w11 ⟨rfl, he11⟩
      have o := o.ext he11
      have hsl := hsl.ext he11
      have hlb := lev_bd t.text
      refine ⟨_, rfl, fun x5 w' => x5 = decide (mine toks x.at_ = 0 ∨ mine toks x.at_ ≠ n) ∧ Ext w11 w', ?_, ?_⟩
      · refine ⟨_, (o.at 0 rfl).cell rfl, cond_intro (fun h4 => ?_) fun h4 => ?_⟩
        · have h4 : t.kind ≠ 4 := by simpa using h4
          exact ⟨by rw [hmine, if_neg h4]; simp, Ext.refl _⟩
        · have h4 : t.kind = 4 := by simpa using h4
          rw [if_pos h4] at hmine
          refine cond_intro (fun h0 => ?_) fun h0 => ?_
          · have h0 : opOf t.text = 0 := by simpa using h0
            exact ⟨by rw [hmine, h0]; exact (decide_eq_true (.inl (by decide))).symm, Ext.refl _⟩
          · have h0 : opOf t.text ≠ 0 := by simpa using h0
            refine call_then (rLevel_spec _ w11) ?_
            rintro _ w12 ⟨rfl, he12⟩
            refine ⟨_, rfl, ?_, he12⟩
            rw [hmine, Bool.eq_iff_iff]
            simp
            omega
      · rintro _ x5 w13 ⟨rfl, he13⟩
        have o := o.ext he13
        have hsl := hsl.ext he13
        refine cond_intro (fun hc => ?_) fun hc => ?_
        · have hc : mine toks x.at_ = 0 ∨ mine toks x.at_ ≠ n := of_decide_eq_true hc
          rw [if_pos hc] at hr
          cases hr
          refine ⟨_, _, _, _, _, (o.at 1 rfl).whole, o.wr 2 rfl rfl, fun w14 hw14 => ?_⟩
          have hsl := hsl.sets hw14 hoffb
          have o := o.sets 2 hw14 rfl
          exact ⟨_, _, _, _, _, (o.at 2 rfl).whole, a, c, rfl, hsl, hfr, o.done⟩
        · have hc : ¬ (mine toks x.at_ = 0 ∨ mine toks x.at_ ≠ n) := of_decide_eq_false hc
          rw [if_neg hc] at hr
          have hlt := hmlt (by omega)
          obtain ⟨y, hy, hr⟩ := Option.bind_eq_some_iff.1 hr
          have hyk := (R_ok toks g).2.1 _ _ _ _ hy
          have hx1 : IntKind.i64.wrap ((x.at_ : Int) + 1) = ((x.at_ + 1 : Nat) : Int) := by rw [wrap_in (by omega) (by omega)]; omega
          refine ⟨_, (o.at 1 rfl).cell rfl, ?_⟩
          rw [hx1]
          have hbl := (o.at 2 rfl).lt
          have hbl1 := (o.at 1 rfl).lt
          have hww := o.le
          refine call_then (hlev (n + 1) _ _ _ (by omega) (by omega) (R_mono toks (by omega) hy) hd w13 (hs.ext o.done)) ?_
          rintro _ w15 ⟨a2, c2, rfl, hsl2, hfr2, he15⟩
          have o := o.ext he15
          have hsl := hsl.ext he15
          refine ⟨_, _, _, _, _, rfl, ?_⟩
          intro b3 w16 hb3 hw16
          have hoff3 := hsl.off (b := b3) (by omega)
          have hoff23 := hsl2.off (b := b3) (by omega)
          have hsl := hsl.ext (.alloc hw16)
          have hsl2 := hsl2.ext (.alloc hw16)
          have o := o.alloc hb3 hw16
          refine ⟨o.wr 0 rfl rfl, fun w17 hw17 => ?_⟩
          have o : Own w.heap.size w w17 [(b3, resC a2 c2 y), (b2, tokC t), (b1, resC a c x), (b, zero3)] := o.sets 0 hw17 rfl
          have hsl := hsl.sets hw17 hoff3
          have hsl2 := hsl2.sets hw17 hoff23
          refine ⟨_, (o.at 0 rfl).cell rfl, cond_intro (fun hye => ?_) fun hye => ?_⟩
          · have hye : y.e ≠ 0 := by simpa using hye
            rw [if_pos hye] at hr
            cases hr
            refine ⟨_, _, _, _, _, (o.at 0 rfl).whole, o.wr 3 rfl rfl, fun w18 hw18 => ?_⟩
            have hsl2 := hsl2.sets hw18 (fresh_off hfr2 hbl _)
            have o := o.sets 3 hw18 rfl
            exact ⟨_, _, _, _, _, (o.at 3 rfl).whole, a2, c2, rfl, hsl2, fun k hk => Nat.le_trans hww (hfr2 k hk), o.done⟩
          · have hye : y.e = 0 := by simpa using hye
            rw [if_neg (by simpa using hye)] at hr
            have hyk := hyk.1 hye
            refine ⟨_, (o.at 1 rfl).cell rfl, ?_⟩
            intro b4 w19 hb4 hw19
            have hlts : b3 < b4 ∧ b2 < b4 ∧ b1 < b4 ∧ b < b4 := ⟨by have := (o.at 0 rfl).lt; omega, by have := (o.at 1 rfl).lt; omega, by have := (o.at 2 rfl).lt; omega, by have := (o.at 3 rfl).lt; omega⟩
            have hwb4 : w.heap.size ≤ b4 := by have := o.le; omega
            have hrow : Rw w19 w.heap.size 72 5 (some ⟨b4, 0, none⟩) 1 1 _ := Rw.lit hb4 hw19 hwb4 (by decide) rfl
            have hoff24 := hsl2.off (b := b4) (by omega)
            have hsl := hsl.ext (.alloc hw19)
            have hsl2 := hsl2.ext (.alloc hw19)
            have o := o.ext (.alloc hw19)
            have hsz19 := alloc_size hw19
            refine ⟨_, _, _, (o.at 2 rfl).cell rfl, append_sl sl_nd hrow hsl (flat_len ndC_len _) (ndC_one _) (by omega) (by decide) o.le fun a3 c3 w20 hrow3 hg3 hat3 => ?_⟩
            have ne4 : ∀ k, b4 ≤ k → ∀ q ∈ [(b3, resC a2 c2 y), (b2, tokC t), (b1, resC a c x), (b, zero3)], q.1 ≠ k := fun k hk q hq => by
              simp only [List.mem_cons, List.not_mem_nil, or_false] at hq
              rcases hq with rfl | rfl | rfl | rfl <;> simp only <;> omega
            have o := o.grown hg3 (fun j hj => by cases hj; exact ⟨hwb4, ne4 _ (Nat.le_refl _)⟩)
            have hsl2 := hsl2.grown hg3 (fun j hj => by cases hj; exact hoff24)
            have hge3 : ∀ k, blk a3 = some k → b4 ≤ k := fun k hk => by
              rcases hat3 with e | e
              · rw [e] at hk; cases hk; exact Nat.le_refl _
              · rw [e] at hk; cases hk; omega
            refine ⟨_, _, _, rfl, fun w24 => ∃ a4 c4, Own w.heap.size w w24 [(b1, resC a4 c4 (join toks x y)), (b, zero3)] ∧ SlAt w24 a4 (flat ndC (join toks x y).l) ∧ (∀ k, blk a4 = some k → b4 ≤ k), ?_, ?_⟩
            · intro w21 hw21
              have o := o.drew hw21
              have hsl2 := hsl2.ext (.drew hw21)
              have hrow3 := hrow3.ext (.drew hw21)
              have hsz21 := (Ext.drew hw21).size
              have hsz20 := hg3.size
              refine ⟨fun u => Box u b3 (resC a2 c2 y), o.at 0 rfl, _, _, _, fun u hu => hu.cell rfl, _, fun u hu => hu.cell rfl, append_sl sl_nd hrow3 hsl2 (flat_len ndC_len _) (ndC_one _) (by omega) (by decide) o.le fun a4 c4 w22 hrow4 hg4 hat4 => ?_⟩
              have o := o.grown hg4 (fun j hj => ⟨(hrow3.lt j hj).1, ne4 _ (hge3 j hj)⟩)
              have hge4 : ∀ k, blk a4 = some k → b4 ≤ k := fun k hk => by
                rcases hat4 with e | e
                · rw [e] at hk; exact hge3 k hk
                · rw [e] at hk; cases hk; omega
              refine ⟨_, _, _, rfl, o.at 0 rfl, o.wr 2 rfl rfl, fun w23 hw23 => ?_⟩
              have hsl4 := hrow4.sl.sets hw23 (fresh_off hge4 hlts.2.2.1 _)
              have o := o.sets 2 hw23 rfl
              refine ⟨o.at 0 rfl, a4, c4, ⟨o.below, o.le, fun q hq => ?_, ?_⟩, ?_, hge4⟩
              · simp only [List.mem_cons, List.not_mem_nil, or_false] at hq
                rcases hq with rfl | rfl
                · have := o.box (b1, _) (by simp only [List.set_cons_succ, List.set_cons_zero, List.mem_cons]; exact .inr (.inr (.inl rfl)))
                  refine ⟨this.1, ?_⟩
                  have h2 := this.2
                  rw [hjoin]
                  simp only [resC, List.length_append, List.length_cons]
                  rw [show 1 + x.l.length + y.l.length = x.l.length + 1 + y.l.length by omega] at h2
                  exact h2
                · exact o.box _ (by simp)
              · have := o.dif
                simp only [List.set_cons_zero, List.set_cons_succ, List.map_cons, List.map_nil, List.pairwise_cons] at this ⊢
                exact this.2.2
              · rw [hjoin]
                simp only [List.cons_append]
                show SlAt w23 a4 (ndC _ ++ flat ndC (x.l ++ y.l))
                rw [flat_app, ← List.append_assoc]
                exact hsl4
            · rintro _ w24 ⟨a4, c4, o, hsl4, hge4⟩
              have hjo : (join toks x y).at_ ≤ toks.length ∧ (join toks x y).l.length ≤ (join toks x y).at_ := by
                rw [hjoin]; simp only [List.length_append, List.length_cons]; omega
              refine cond_intro (fun h3 => ?_) fun h3 => ?_
              · have h3 : n = 3 := by simp at h3; omega
                rw [if_pos h3] at hr
                cases hr
                refine ⟨_, _, _, _, _, (o.at 0 rfl).whole, o.wr 1 rfl rfl, fun w25 hw25 => ?_⟩
                have hsl4 := hsl4.sets hw25 (fresh_off hge4 hlts.2.2.2 _)
                have o := o.sets 1 hw25 rfl
                exact ⟨_, _, _, _, _, (o.at 1 rfl).whole, a4, c4, rfl, hsl4, fun k hk => Nat.le_trans hwb4 (hge4 k hk), o.done⟩
              · have h3 : n ≠ 3 := by simp at h3; omega
                rw [if_neg h3] at hr
                refine ⟨⟨g, join toks x y, a4, c4, by omega, hr, fun _ => hjo, hsl4, fresh_off hge4 hlts.2.2.2 _, fresh_off hge4 hlts.2.2.1 _, fun k hk => Nat.le_trans hwb4 (hge4 k hk), o⟩, ?_⟩
                have e24 : w24.cell? ⟨b1, 1, none⟩ = some (.int .i64 ((join toks x y).at_ : Int)) := (o.at 0 rfl).cell rfl
                have hat : (join toks x y).at_ = y.at_ := by rw [hjoin]
                simp only [e7, e24, Int.toNat_natCast, hat]
                omega
    · have he : x.e ≠ 0 := by simpa using he
      rw [if_pos he] at hr
      cases hr
      refine ⟨_, _, _, _, _, (o.at 0 rfl).whole, o.wr 1 rfl rfl, fun w26 hw26 => ?_⟩
      have hsl := hsl.sets hw26 hoffb
      have o := o.sets 1 hw26 rfl
      exact ⟨_, _, _, _, _, (o.at 1 rfl).whole, a, c, rfl, hsl, hfr, o.done⟩

/-- the reference reads as R tells -/
theorem rWalk (toks : List Tok) (hN : toks.length < 2 ^ 30) (ta : Option Addr) (tc : Nat) : ∀ f,
    (∀ p d r, R toks f (.one p d) = some r → d ≤ 24 → ∀ w, SlAt w ta (flat tokC toks) → Calls Try.prog 68 #[.slice ta toks.length tc, .int .i64 p, .int .i64 d] w (Ret (Gives w r))) ∧
    (∀ (n : Nat) p d r, 1 ≤ n → n ≤ 6 → R toks f (.lev n p d) = some r → d ≤ 24 → ∀ w, SlAt w ta (flat tokC toks) → Calls Try.prog 44 #[.slice ta toks.length tc, .int .i64 p, .int .i64 n, .int .i64 d] w (Ret (Gives w r))) := by
  intro f
  induction f with
  | zero => exact ⟨fun _ _ _ h => by simp [R] at h, fun _ _ _ _ _ _ h => by simp [R] at h⟩
  | succ f ih =>
    refine ⟨fun p d r h hd w hs => ?_, fun n p d r h1 h6 h hd w hs => rLev_step toks hN ta tc f ih.1 ih.2 n p d r h1 h6 h hd w hs⟩
    simp only [R] at h
    exact rOne_step toks hN ta tc _ _ ih.1 (fun p d r h hd w hs => ih.2 1 p d r (by omega) (by omega) h hd w hs) (fun p d r h => (R_ok toks f).1 p d r h) (fun p d r h => (R_ok toks f).2.1 1 p d r h) p d r h hd w hs
end Go.Proofs.Ytahppcghgmhkiaa
