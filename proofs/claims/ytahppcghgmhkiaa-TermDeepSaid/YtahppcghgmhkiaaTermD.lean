/- Layer 10: the reference's level and one. -/
import Derived.Test.YtahppcghgmhkiaaTermC
import Derived.Test.YtahppcghgmhkiaaMemD
namespace Go.Proofs.Ytahppcghgmhkiaa
open Go.Vc Go.Tk Go.Tm

theorem sl_nd : SlTy Try.prog 24 72 5 48 := ⟨Try.t72, .agg #[.int .i64 0, .string (mkS []), .int .i64 0, .int .i64 0, .int .i64 0], by kernel_rfl, by kernel_rfl, by kernel_rfl, by kernel_rfl, by kernel_rfl, by kernel_rfl, by decide⟩
theorem ndC_one (l : List Nd) : ∀ u ∈ flat ndC l, u.oneCell' = true := by
  intro u hu
  simp only [flat, List.mem_flatMap] at hu
  obtain ⟨x, _, hu⟩ := hu
  simp only [ndC, List.mem_cons, List.not_mem_nil, or_false] at hu
  rcases hu with rfl | rfl | rfl | rfl | rfl <;> rfl
theorem flat_app {α : Type} (f : α → List Value) (l m : List α) : flat f (l ++ m) = flat f l ++ flat f m := by simp [flat]
theorem flat_one {α : Type} (f : α → List Value) (x : α) : flat f [x] = f x := by simp [flat]
def resC (a : Option Addr) (c : Nat) (r : Res) : List Value := [.slice a r.l.length c, .int .i64 (r.at_ : Int), .int .i64 r.e]
def zero3 : List Value := [.slice none 0 0, .int .i64 0, .int .i64 0]
/-- what a function of the reference gives -/
def Gives (w0 : World) (r : Res) (v : Value) (w' : World) : Prop := ∃ a c, v = .agg ⟨resC a c r⟩ ∧ SlAt w' a (flat ndC r.l) ∧ (∀ k, blk a = some k → w0.heap.size ≤ k) ∧ Ext w0 w'
theorem fresh_off {a : Option Addr} {n b : Nat} (h : ∀ k, blk a = some k → n ≤ k) (hb : b < n) (xs : List Value) : Off a xs b := .inr fun e => by have := h b e; omega
theorem none_fresh {n : Nat} : ∀ k, blk (none : Option Addr) = some k → n ≤ k := fun k h => by cases h
theorem box_fresh {b n : Nat} (h : n ≤ b) : ∀ k, blk (some ⟨b, 0, none⟩ : Option Addr) = some k → n ≤ k := fun k e => by cases e; exact h

set_option maxHeartbeats 1000000 in
theorem rOne_step (toks : List Tok) (hN : toks.length < 2 ^ 30) (ta : Option Addr) (tc : Nat) (r1 rl : Nat → Nat → Option Res)
    (hr1 : ∀ p d r, r1 p d = some r → d ≤ 24 → ∀ w, SlAt w ta (flat tokC toks) → Calls Try.prog 68 #[.slice ta toks.length tc, .int .i64 p, .int .i64 d] w (Ret (Gives w r)))
    (hrl : ∀ p d r, rl p d = some r → d ≤ 24 → ∀ w, SlAt w ta (flat tokC toks) → Calls Try.prog 44 #[.slice ta toks.length tc, .int .i64 p, .int .i64 1, .int .i64 d] w (Ret (Gives w r)))
    (hk1 : ∀ p d r, r1 p d = some r → Ok toks p r) (hkl : ∀ p d r, rl p d = some r → Ok toks p r)
    (p d : Nat) (r : Res) (h : oneStep toks r1 rl p d = some r) (hd : d ≤ 24) (w : World) (hs : SlAt w ta (flat tokC toks)) :
    Calls Try.prog 68 #[.slice ta toks.length tc, .int .i64 p, .int .i64 d] w (Ret (Gives w r)) := by
  have hp1 : p < toks.length → IntKind.i64.wrap ((p : Int) + 1) = ((p + 1 : Nat) : Int) := fun hp => by rw [wrap_in (by omega) (by omega)]; omega
  have hd1 : IntKind.i64.wrap ((d : Int) + 1) = ((d + 1 : Nat) : Int) := by rw [wrap_in (by omega) (by omega)]; omega
  refine R10_one_ok _ _ _ _ _ _ _ ?_
  intro b w1 hb hw1
  have o := (Own.start w).alloc hb hw1
  have hs1 := hs.ext (.alloc hw1)
  refine call_then (rTok_spec toks ta tc p w1 hs1) ?_
  rintro _ w2 ⟨rfl, he2⟩
  have o := o.ext he2
  have hlt : (T toks p).kind ≠ 0 → p < toks.length := T_lt
  unfold oneStep at h
  generalize T toks p = t at h hlt ⊢
  refine ⟨_, _, _, _, rfl, ?_⟩
  intro b1 w3 hb1 hw3
  have o := o.alloc hb1 hw3
  refine ⟨o.wr 0 rfl rfl, fun w4 hw4 => ?_⟩
  have o : Own w.heap.size w w4 [(b1, tokC t), (b, zero3)] := o.sets 0 hw4 rfl
  have hbw : w.heap.size ≤ b := hb ▸ Nat.le_refl _
  refine ⟨_, (o.at 0 rfl).cell rfl, cond_intro (fun h2 => ?_) fun h2 => ?_⟩
  · have h2 : t.kind = 2 := by simpa using h2
    rw [if_pos h2] at h
    cases h
    refine ⟨_, (o.at 0 rfl).cell rfl, _, (o.at 0 rfl).cell rfl, ?_⟩
    intro b2 w5 hb2 hw5
    have o := o.alloc hb2 hw5
    refine ⟨o.wr 2 rfl rfl, fun w6 hw6 => ?_⟩
    have o := o.sets 2 hw6 rfl
    exact ⟨_, _, _, _, _, (o.at 2 rfl).whole, some ⟨b2, 0, none⟩, 1, by rw [hp1 (hlt (by rw [h2]; decide))]; rfl, (o.at 0 rfl).whole, box_fresh (o.ge 0 rfl), o.done⟩
  · have h2 : t.kind ≠ 2 := by simpa using h2
    rw [if_neg h2] at h
    refine ⟨_, (o.at 0 rfl).cell rfl, cond_intro (fun h3 => ?_) fun h3 => ?_⟩
    · have h3 : t.kind = 1 := by simpa using h3
      rw [if_pos h3] at h
      cases h
      refine ⟨_, (o.at 0 rfl).cell rfl, _, (o.at 0 rfl).cell rfl, ?_⟩
      intro b2 w5 hb2 hw5
      have o := o.alloc hb2 hw5
      refine ⟨o.wr 2 rfl rfl, fun w6 hw6 => ?_⟩
      have o := o.sets 2 hw6 rfl
      exact ⟨_, _, _, _, _, (o.at 2 rfl).whole, some ⟨b2, 0, none⟩, 1, by rw [hp1 (hlt (by rw [h3]; decide))]; rfl, (o.at 0 rfl).whole, box_fresh (o.ge 0 rfl), o.done⟩
    · have h3 : t.kind ≠ 1 := by simpa using h3
      rw [if_neg h3] at h
      refine ⟨fun x w' => w4 = w' ∧ (x = false → t.kind = 4 ∧ (t.text = [45] ∨ t.text = [33] ∨ t.text = [40])) ∧ (x = true → ¬ (t.kind = 4 ∧ (t.text = [45] ∨ t.text = [33])) ∧ ¬ (t.kind = 4 ∧ t.text = [40])), ?_, ?_⟩
      · refine ⟨_, (o.at 0 rfl).cell rfl, cond_intro (fun h4 => ?_) fun h4 => ?_⟩
        · have h4 : t.kind ≠ 4 := by simpa using h4
          exact ⟨rfl, fun e => (by cases e), fun _ => ⟨fun c => h4 c.1, fun c => h4 c.1⟩⟩
        · have h4 : t.kind = 4 := by simpa using h4
          refine ⟨_, (o.at 0 rfl).cell rfl, cond_intro (fun h5 => ?_) fun h5 => ?_⟩
          · have h5 : t.text ≠ [45] := by simpa using h5
            refine ⟨_, (o.at 0 rfl).cell rfl, cond_intro (fun h6 => ?_) fun h6 => ?_⟩
            · have h6 : t.text ≠ [33] := by simpa using h6
              refine ⟨_, (o.at 0 rfl).cell rfl, rfl, fun h7 => ?_, fun h7 => ?_⟩
              · exact ⟨h4, .inr (.inr (by simpa using h7))⟩
              · have h7 : t.text ≠ [40] := by simpa using h7
                exact ⟨fun c => c.2.elim h5 h6, fun c => h7 c.2⟩
            · have h6 : t.text = [33] := by simpa using h6
              exact ⟨rfl, fun _ => ⟨h4, .inr (.inl h6)⟩, fun e => by cases e⟩
          · have h5 : t.text = [45] := by simpa using h5
            exact ⟨rfl, fun _ => ⟨h4, .inl h5⟩, fun e => by cases e⟩
      · rintro _ x _ ⟨rfl, hxf, hxt⟩
        refine cond_intro (fun hx => ?_) fun hx => ?_
        · obtain ⟨c1, c2⟩ := hxt hx
          rw [if_neg c1, if_neg c2] at h
          cases h
          refine ⟨o.wr 1 rfl rfl, fun w10 hw10 => ?_⟩
          have o := o.sets 1 hw10 rfl
          exact ⟨_, _, _, _, _, (o.at 1 rfl).whole, none, 0, rfl, rfl, none_fresh, o.done⟩
        · obtain ⟨c4, ctx⟩ := hxf hx
          have hlt := hlt (by rw [c4]; decide)
          refine cond_intro (fun h24 => ?_) fun h24 => ?_
          · have h24 : d = 24 := by simp at h24; omega
            have h : r = ⟨[], p, 5⟩ := by
              rw [if_pos h24, if_pos h24] at h
              split at h
              · exact (Option.some.inj h).symm
              · rename_i c
                have e40 : t.text = [40] := by
                  rcases ctx with e | e | e
                  · exact absurd ⟨c4, .inl e⟩ c
                  · exact absurd ⟨c4, .inr e⟩ c
                  · exact e
                rw [if_pos ⟨c4, e40⟩] at h
                exact (Option.some.inj h).symm
            subst h
            refine ⟨o.wr 1 rfl rfl, fun w10 hw10 => ?_⟩
            have o := o.sets 1 hw10 rfl
            exact ⟨_, _, _, _, _, (o.at 1 rfl).whole, none, 0, rfl, rfl, none_fresh, o.done⟩
          · have h24 : d ≠ 24 := by simp at h24; omega
            rw [if_neg h24, if_neg h24] at h
            have hs4 : SlAt w4 ta (flat tokC toks) := hs.ext o.done
            refine ⟨_, (o.at 0 rfl).cell rfl, cond_intro (fun h40 => ?_) fun h40 => ?_⟩
            · have h40 : t.text = [40] := by simpa using h40
              rw [if_neg (by rw [h40]; simp), if_pos ⟨c4, h40⟩] at h
              obtain ⟨y, hy, hr⟩ := Option.map_eq_some_iff.1 h
              rw [hp1 hlt, hd1]
              have hbl := (o.at 1 rfl).lt
              have hww4 := o.le
              refine call_then (hrl _ _ _ hy (by omega) w4 hs4) ?_
              rintro _ w12 ⟨a, c, rfl, hsl, hfr, he12⟩
              have o := o.ext he12
              refine ⟨_, _, _, _, _, rfl, ?_⟩
              intro b4 w13 hb4 hw13
              have hoff4 := hsl.off (b := b4) (by omega)
              have hsl := hsl.ext (.alloc hw13)
              have o := o.alloc hb4 hw13
              refine ⟨o.wr 0 rfl rfl, fun w14 hw14 => ?_⟩
              have o : Own w.heap.size w w14 [(b4, resC a c y), (b1, tokC t), (b, zero3)] := o.sets 0 hw14 rfl
              have hsl := hsl.sets hw14 hoff4
              have hoffb := fresh_off hfr hbl (flat ndC y.l)
              have hfr' : ∀ k, blk a = some k → w.heap.size ≤ k := fun k hk => Nat.le_trans hww4 (hfr k hk)
              refine ⟨_, (o.at 0 rfl).cell rfl, cond_intro (fun hye => ?_) fun hye => ?_⟩
              · have hye : y.e ≠ 0 := by simpa using hye
                rw [if_pos hye] at hr
                subst hr
                refine ⟨_, _, _, _, _, (o.at 0 rfl).whole, o.wr 2 rfl rfl, fun w15 hw15 => ?_⟩
                have o := o.sets 2 hw15 rfl
                exact ⟨_, _, _, _, _, (o.at 2 rfl).whole, a, c, rfl, hsl.sets hw15 hoffb, hfr', o.done⟩
              · have hye : y.e = 0 := by simpa using hye
                rw [if_neg (by simpa using hye)] at hr
                have hyk := (hkl _ _ _ hy).1 hye
                refine ⟨_, (o.at 0 rfl).cell rfl, call_then (rTok_spec toks ta tc y.at_ w14 (hs.ext o.done)) ?_⟩
                rintro _ w16 ⟨rfl, he16⟩
                have o := o.ext he16
                have hsl := hsl.ext he16
                generalize T toks y.at_ = u at hr ⊢
                refine ⟨_, _, _, _, rfl, ?_⟩
                intro b5 w17 hb5 hw17
                have hoff5 := hsl.off (b := b5) (by omega)
                have hsl := hsl.ext (.alloc hw17)
                have o := o.alloc hb5 hw17
                refine ⟨o.wr 0 rfl rfl, fun w18 hw18 => ?_⟩
                have o : Own w.heap.size w w18 [(b5, tokC u), (b4, resC a c y), (b1, tokC t), (b, zero3)] := o.sets 0 hw18 rfl
                have hsl := hsl.sets hw18 hoff5
                refine ⟨fun x w' => w18 = w' ∧ x = !(decide (u.kind = 4 ∧ u.text = [41])), ?_, ?_⟩
                · refine ⟨_, (o.at 0 rfl).cell rfl, cond_intro (fun h7 => ?_) fun h7 => ?_⟩
                  · have h7 : u.kind ≠ 4 := by simpa using h7
                    exact ⟨rfl, by simp [h7]⟩
                  · have h7 : u.kind = 4 := by simpa using h7
                    exact ⟨_, (o.at 0 rfl).cell rfl, rfl, by rw [Bool.eq_iff_iff]; simp [h7]⟩
                · rintro _ x _ ⟨rfl, rfl⟩
                  refine cond_intro (fun h8 => ?_) fun h8 => ?_
                  · have h8 : ¬ (u.kind = 4 ∧ u.text = [41]) := fun c => by rw [decide_eq_true c] at h8; cases h8
                    rw [if_neg h8] at hr
                    subst hr
                    refine ⟨_, (o.at 1 rfl).cell rfl, o.wr 3 rfl rfl, fun w20 hw20 => ?_⟩
                    have o := o.sets 3 hw20 rfl
                    exact ⟨_, _, _, _, _, (o.at 3 rfl).whole, none, 0, rfl, rfl, none_fresh, o.done⟩
                  · have h8 : u.kind = 4 ∧ u.text = [41] := by simpa using h8
                    rw [if_pos h8] at hr
                    subst hr
                    refine ⟨_, _, _, (o.at 1 rfl).cell rfl, _, (o.at 1 rfl).cell rfl, o.wr 3 rfl rfl, fun w20 hw20 => ?_⟩
                    have o := o.sets 3 hw20 rfl
                    refine ⟨_, _, _, _, _, (o.at 3 rfl).whole, a, c, ?_, hsl.sets hw20 hoffb, hfr', o.done⟩
                    rw [wrap_in (by omega) (by omega)]
                    rfl
            · have h40 : t.text ≠ [40] := by simpa using h40
              have hm : t.kind = 4 ∧ (t.text = [45] ∨ t.text = [33]) := ⟨c4, by
                rcases ctx with e | e | e
                · exact .inl e
                · exact .inr e
                · exact absurd e h40⟩
              rw [if_pos hm] at h
              obtain ⟨y, hy, hr⟩ := Option.map_eq_some_iff.1 h
              rw [hp1 hlt, hd1]
              have hbl := (o.at 1 rfl).lt
              have hww4 := o.le
              refine call_then (hr1 _ _ _ hy (by omega) w4 hs4) ?_
              rintro _ w12 ⟨a, c, rfl, hsl, hfr, he12⟩
              have o := o.ext he12
              refine ⟨_, _, _, _, _, rfl, ?_⟩
              intro b6 w13 hb6 hw13
              have hoff6 := hsl.off (b := b6) (by omega)
              have hsl := hsl.ext (.alloc hw13)
              have o := o.alloc hb6 hw13
              refine ⟨o.wr 0 rfl rfl, fun w14 hw14 => ?_⟩
              have o : Own w.heap.size w w14 [(b6, resC a c y), (b1, tokC t), (b, zero3)] := o.sets 0 hw14 rfl
              have hsl := hsl.sets hw14 hoff6
              have hoffb := fresh_off hfr hbl (flat ndC y.l)
              have hfr' : ∀ k, blk a = some k → w.heap.size ≤ k := fun k hk => Nat.le_trans hww4 (hfr k hk)
              refine ⟨_, (o.at 0 rfl).cell rfl, cond_intro (fun hye => ?_) fun hye => ?_⟩
              · have hye : y.e ≠ 0 := by simpa using hye
                rw [if_neg hye] at hr
                subst hr
                refine ⟨_, _, _, _, _, (o.at 0 rfl).whole, o.wr 2 rfl rfl, fun w15 hw15 => ?_⟩
                have o := o.sets 2 hw15 rfl
                exact ⟨_, _, _, _, _, (o.at 2 rfl).whole, a, c, rfl, hsl.sets hw15 hoffb, hfr', o.done⟩
              · have hye : y.e = 0 := by simpa using hye
                rw [if_pos hye] at hr
                have hyk := (hk1 _ _ _ hy).1 hye
                refine ⟨fun op w' => w14 = w' ∧ op = (if t.text = [33] then 4 else 3), ?_, ?_⟩
                · refine ⟨_, (o.at 1 rfl).cell rfl, cond_intro (fun h7 => ?_) fun h7 => ?_⟩
                  · have h7 : t.text = [33] := by simpa using h7
                    exact ⟨rfl, by rw [if_pos h7]⟩
                  · have h7 : t.text ≠ [33] := by simpa using h7
                    exact ⟨rfl, by rw [if_neg h7]⟩
                · rintro _ op _ ⟨rfl, hop⟩
                  intro w27 hw27
                  have o := o.drew hw27
                  have hsl := hsl.ext (.drew hw27)
                  refine ⟨fun u => Box u b1 (tokC t) ∧ Box u b6 (resC a c y), ⟨o.at 1 rfl, o.at 0 rfl⟩, _, fun u hu => hu.1.cell rfl, _, _, _, fun u hu => hu.2.cell rfl, _, fun u hu => hu.2.cell rfl, ?_⟩
                  intro b7 w28 hb7 hw28
                  have hrow : Rw w28 w.heap.size 72 5 (some ⟨b7, 0, none⟩) 1 1 _ := Rw.lit hb7 hw28 (by have := o.le; omega) (by decide) rfl
                  have hoff7 := hsl.off (b := b7) (by omega)
                  have hlts : b6 < b7 ∧ b1 < b7 ∧ b < b7 := ⟨by have := (o.at 0 rfl).lt; omega, by have := (o.at 1 rfl).lt; omega, by have := (o.at 2 rfl).lt; omega⟩
                  have hsl := hsl.ext (.alloc hw28)
                  have o := o.ext (.alloc hw28)
                  refine ⟨⟨o.at 1 rfl, o.at 0 rfl⟩, append_sl sl_nd hrow hsl (flat_len ndC_len _) (ndC_one _) (by omega) (by decide) o.le fun a' c' w29 hrow' hg hat => ?_⟩
                  have o := o.grown hg (fun j hj => ⟨(hrow.lt j hj).1, fun q hq => by
                    cases hj
                    simp only [List.mem_cons, List.not_mem_nil, or_false] at hq
                    rcases hq with rfl | rfl | rfl <;> simp only <;> omega⟩)
                  have hge : ∀ k, blk a' = some k → b7 ≤ k := fun k hk => by
                    rcases hat with e | e
                    · rw [e] at hk; cases hk; exact Nat.le_refl _
                    · rw [e] at hk; cases hk; rw [hw28, hb7]; exact Nat.le_of_lt (by show _ < (Array.push _ _).size; simp)
                  refine ⟨_, _, _, rfl, ⟨o.at 1 rfl, o.at 0 rfl⟩, o.wr 2 rfl rfl, fun w30 hw30 => ?_⟩
                  have hsl' := hrow'.sl.sets hw30 (fresh_off hge hlts.2.2 _)
                  have o := o.sets 2 hw30 rfl
                  subst hr
                  refine ⟨⟨o.at 1 rfl, o.at 0 rfl⟩, _, _, _, _, _, (o.at 2 rfl).whole, a', c', ?_, ?_, fun k hk => by have := hge k hk; omega, o.done⟩
                  · simp only [resC, List.length_cons, Nat.add_comm]
                  · rw [hop] at hsl'
                    exact hsl'
end Go.Proofs.Ytahppcghgmhkiaa
