/- Layer 10: the program's one. -/
import Derived.Test.YtahppcghgmhkiaaTermG
namespace Go.Proofs.Ytahppcghgmhkiaa
open Go.Vc Go.Tk Go.Tm

/-- one node put ahead of nodes: the row was laid before what is appended, or after -/
theorem cons_row {w w' : World} {base b : Nat} {cs : Array Value} (hb : b = w.heap.size) (hw : w' = w.alloc (.cells cs 72)) (hbase : base ≤ b) (hs : cs.size = 5) : Rw w' base 72 5 (some ⟨b, 0, none⟩) 1 1 cs.toList :=
  Rw.lit hb hw hbase (by decide) (by rw [hs])

set_option maxHeartbeats 1000000 in
theorem pOne_step (toks : List Tok) (hN : toks.length < 2 ^ 30) (rb : Nat) (ta : Option Addr) (tc : Nat) (hoff : Off ta (flat tokC toks) rb) (r1 rl : Nat → Nat → Option Res)
    (hr1 : ∀ p d r, r1 p d = some r → d ≤ 24 → ∀ w, Box w rb (rdC ta toks.length tc p d 0) → SlAt w ta (flat tokC toks) → Calls Try.prog 66 #[.pointer (some ⟨rb, 0, none⟩)] w (Ret (RG toks rb ta tc d (25 - d) w r)))
    (hrl : ∀ p d r, rl p d = some r → d ≤ 24 → ∀ w, Box w rb (rdC ta toks.length tc p d 0) → SlAt w ta (flat tokC toks) → Calls Try.prog 42 #[.pointer (some ⟨rb, 0, none⟩), .int .i64 1] w (Ret (RG toks rb ta tc d (25 - d) w r)))
    (hkl : ∀ p d r, rl p d = some r → Ok toks p r)
    (p d : Nat) (r : Res) (h : oneStep toks r1 rl p d = some r) (hd : d ≤ 24) (w : World) (hr : Box w rb (rdC ta toks.length tc p d 0)) (hs : SlAt w ta (flat tokC toks)) :
    Calls Try.prog 66 #[.pointer (some ⟨rb, 0, none⟩)] w (Ret (RG toks rb ta tc d (25 - d) w r)) := by
  have hp1 : p < toks.length → IntKind.i64.wrap ((p : Int) + 1) = ((p + 1 : Nat) : Int) := fun hp => by rw [wrap_in (by omega) (by omega)]; omega
  refine term_reader_one_ok _ _ _ ?_
  intro b w1 hb hw1
  have o := (OwnR.start hr).alloc hb hw1
  have hs1 := hs.ext (.alloc hw1)
  refine ⟨_, (o.at 0 rfl).cell rfl, call_then (now_spec toks rb ta tc p d 0 w1 o.rbox hs1) ?_⟩
  rintro _ w2 ⟨rfl, he2⟩
  have o := o.ext he2
  have hs2 := hs1.ext he2
  have hlt : (T toks p).kind ≠ 0 → p < toks.length := T_lt
  have hT : T toks p = T toks p := rfl
  unfold oneStep at h
  generalize hTt : T toks p = t at h hlt ⊢
  refine ⟨_, _, _, _, rfl, ?_⟩
  intro b1 w3 hb1 hw3
  have hs3 := hs2.ext (.alloc hw3)
  have hofft := hs2.off (b := b1) (by omega)
  have o := o.alloc hb1 hw3
  refine ⟨o.wr 0 rfl rfl, fun w4 hw4 => ?_⟩
  have o : OwnR rb w w4 (rdC ta toks.length tc p d 0) [(b1, tokC t), (b, [.pointer (some ⟨rb, 0, none⟩)])] := o.sets 0 hw4 rfl
  have hs4 := hs3.sets hw4 hofft
  refine ⟨_, (o.at 0 rfl).cell rfl, cond_intro (fun h2 => ?_) fun h2 => ?_⟩
  · have h2 : t.kind = 2 := by simpa using h2
    rw [if_pos h2] at h
    cases h
    refine ⟨_, (o.at 1 rfl).cell rfl, _, o.rbox.cell rfl, o.wrR (i := 1) rfl, fun w5 hw5 => ?_⟩
    have o := o.setR hw5
    rw [hp1 (hlt (by rw [h2]; decide))] at o
    refine ⟨_, (o.at 0 rfl).cell rfl, _, (o.at 0 rfl).cell rfl, ?_⟩
    intro b2 w6 hb2 hw6
    have o := o.alloc hb2 hw6
    exact ⟨_, _, _, [⟨1, [], t.n, 0, t.at_⟩], rfl, rfl, (o.at 0 rfl).whole, box_fresh (o.ge 0 rfl), by simp; omega, fun _ => rfl, o.rbox, o.grown⟩
  · have h2 : t.kind ≠ 2 := by simpa using h2
    rw [if_neg h2] at h
    refine ⟨_, (o.at 0 rfl).cell rfl, cond_intro (fun h3 => ?_) fun h3 => ?_⟩
    · have h3 : t.kind = 1 := by simpa using h3
      rw [if_pos h3] at h
      cases h
      refine ⟨_, (o.at 1 rfl).cell rfl, _, o.rbox.cell rfl, o.wrR (i := 1) rfl, fun w5 hw5 => ?_⟩
      have o := o.setR hw5
      rw [hp1 (hlt (by rw [h3]; decide))] at o
      refine ⟨_, (o.at 0 rfl).cell rfl, _, (o.at 0 rfl).cell rfl, ?_⟩
      intro b2 w6 hb2 hw6
      have o := o.alloc hb2 hw6
      exact ⟨_, _, _, [⟨2, t.text, 0, 0, t.at_⟩], rfl, rfl, (o.at 0 rfl).whole, box_fresh (o.ge 0 rfl), by simp; omega, fun _ => rfl, o.rbox, o.grown⟩
    · have h3 : t.kind ≠ 1 := by simpa using h3
      rw [if_neg h3] at h
      refine ⟨fun x w' => x = decide (t.kind = 4 ∧ (t.text = [45] ∨ t.text = [33])) ∧ Ext w4 w', ?_, ?_⟩
      · refine ⟨_, (o.at 1 rfl).cell rfl, call_then (is_spec toks rb ta tc p d 0 [45] w4 o.rbox hs4) ?_⟩
        rw [hTt]
        rintro _ w9 ⟨rfl, he9⟩
        refine ⟨_, rfl, cond_intro (fun h5 => ?_) fun h5 => ?_⟩
        · have h5' := of_decide_eq_true h5
          exact ⟨by rw [h5]; exact (decide_eq_true ⟨h5'.1, .inl h5'.2⟩).symm, he9⟩
        · have h5' := of_decide_eq_false h5
          have o := o.ext he9
          refine ⟨_, (o.at 1 rfl).cell rfl, call_then (is_spec toks rb ta tc p d 0 [33] w9 o.rbox (hs4.ext he9)) ?_⟩
          rw [hTt]
          rintro _ w10 ⟨rfl, he10⟩
          refine ⟨_, rfl, ?_, he9.trans he10⟩
          rw [Bool.eq_iff_iff]
          simp only [decide_eq_true_iff]
          exact ⟨fun c => ⟨c.1, .inr c.2⟩, fun c => ⟨c.1, c.2.elim (fun e => absurd ⟨c.1, e⟩ h5') id⟩⟩
      · rintro _ x15 w11 ⟨rfl, he11⟩
        have o := o.ext he11
        have hs11 := hs4.ext he11
        refine cond_intro (fun hc => ?_) fun hc => ?_
        · have hc := of_decide_eq_true hc
          rw [if_pos hc] at h
          have hlt := hlt (by rw [hc.1]; decide)
          have hbel : ∃ x, (∀ w', Box w' rb (rdC ta toks.length tc p d 0) → SlAt w' ta (flat tokC toks) → Calls Try.prog 80 #[.pointer (some ⟨rb, 0, none⟩), .func (.func 66) #[.pointer (some ⟨rb, 0, none⟩)] #[]] w' (Ret (RG toks rb ta tc d (24 - d) w' x))) ∧
              r = (if x.e = 0 then ⟨⟨if t.text = [33] then 4 else 3, [], 0, 1, t.at_⟩ :: x.l, x.at_, 0⟩ else x) := by
            by_cases h24 : d = 24
            · rw [if_pos h24] at h
              cases h
              subst h24
              exact ⟨⟨[], p, 5⟩, fun w' hb' _ => below_deep toks rb ta tc p w' hb', rfl⟩
            · rw [if_neg h24] at h
              obtain ⟨y, hy, hr⟩ := Option.map_eq_some_iff.1 h
              refine ⟨y, fun w' hb' hs' => below_one toks rb ta tc p d (24 - d) (by omega) (by omega) y w' hb' hs' hoff (fun w'' hb'' hs'' => ?_), hr.symm⟩
              have := hr1 _ _ _ hy (by omega) w'' hb'' hs''
              rwa [show 25 - (d + 1) = 24 - d by omega] at this
          obtain ⟨x, hbel, hrx⟩ := hbel
          refine ⟨fun op w' => w11 = w' ∧ op = (if t.text = [33] then 4 else 3), ?_, ?_⟩
          · refine ⟨_, (o.at 0 rfl).cell rfl, cond_intro (fun h7 => ?_) fun h7 => ?_⟩
            · have h7 : t.text = [33] := by simpa using h7
              exact ⟨rfl, by rw [if_pos h7]⟩
            · have h7 : t.text ≠ [33] := by simpa using h7
              exact ⟨rfl, by rw [if_neg h7]⟩
          · rintro _ op _ ⟨rfl, hop⟩
            intro w13 hw13
            have o := o.drew hw13
            have hs13 := hs11.ext (.drew hw13)
            have hrbl := o.rlt
            have fin : ∀ (w' : World) (b4 : Nat) (a : Option Addr) (c : Nat) (l : List Nd), OwnR rb w w' (rdC ta toks.length tc x.at_ d x.e) [(b1, tokC t), (b, [.pointer (some ⟨rb, 0, none⟩)])] →
                Rw w' w.heap.size 72 5 (some ⟨b4, 0, none⟩) 1 1 (ndC ⟨op, [], 0, 1, t.at_⟩) → b1 ≠ b4 → b ≠ b4 → w.heap.size ≤ b4 → SlAt w' a (flat ndC l) → l.length ≤ toks.length + (24 - d) → (x.e = 0 → l = x.l) →
                SemOk Try.prog (Builtin.append_ #[24, 24] 24 #[.slice (some ⟨b4, 0, none⟩) 1 1, .slice a l.length c]) (fun v w'' => ∃ (xA : Option Addr) (xN : Nat) (xC : Nat), v = .slice xA xN xC ∧ (Box w'' b1 (tokC t) ∧ Box w'' b [.pointer (some ⟨rb, 0, none⟩)]) ∧ RG toks rb ta tc d (25 - d) w r (.slice xA xN xC) w'') w' := by
              intro w' b4 a c l o hrow hn1 hn2 hb4 hsl hle hl
              refine append_sl sl_nd hrow hsl (flat_len ndC_len _) (ndC_one _) (by omega) (by decide) o.le fun a' c' w'' hrow' hg hat => ?_
              have hle0 := o.le
              have o := o.gro hg (fun k hk => by
                cases hk
                refine ⟨hb4, fun q hq => ?_⟩
                simp only [List.mem_cons, List.not_mem_nil, or_false] at hq
                rcases hq with rfl | rfl
                · exact hn1
                · exact hn2)
              refine ⟨_, _, _, rfl, ⟨o.at 0 rfl, o.at 1 rfl⟩, a', _, c', ⟨op, [], 0, 1, t.at_⟩ :: l, rfl, by simp [Nat.add_comm], hrow'.sl, fun k hk => ?_, ?_, fun he => ?_, ?_, o.grown⟩
              · rcases hat with e | e
                · rw [e] at hk; cases hk; exact hb4
                · rw [e] at hk; cases hk; exact hle0
              · simp only [List.length_cons]
                omega
              · have hx : x.e = 0 := by
                  cases Decidable.em (x.e = 0) with
                  | inl h => exact h
                  | inr h => rw [hrx, if_neg h] at he; exact he
                rw [hrx, if_pos hx, hl hx, hop]
              · have h1 : r.at_ = x.at_ := by rw [hrx]; split <;> rfl
                have h2 : r.e = x.e := by rw [hrx]; split <;> simp_all
                rw [h1, h2]
                exact o.rbox
            refine ⟨fun u => Box u b1 (tokC t) ∧ Box u b [.pointer (some ⟨rb, 0, none⟩)], ⟨o.at 0 rfl, o.at 1 rfl⟩, _, fun u hu => hu.1.cell rfl, _, fun u hu => hu.2.cell rfl, _, fun u hu => hu.2.cell rfl, ?_, ?_⟩
            · intro b4 w14 hb4 hw14
              have hwb : w.heap.size ≤ b4 := by have := o.le; omega
              have hrow := cons_row hb4 hw14 hwb rfl
              have hl1 := (o.at 0 rfl).lt
              have hl2 := (o.at 1 rfl).lt
              have o := o.ext (.alloc hw14)
              refine ⟨⟨o.at 0 rfl, o.at 1 rfl⟩, call_then (hbel w14 o.rbox (hs13.ext (.alloc hw14))) ?_⟩
              rintro _ w15 ⟨a, m, c, l, rfl, rfl, hsl, hfr, hle, hl, hb', hg⟩
              have o := o.call hg hb'
              have hrow := hrow.kept (fun k hk => hg.block k (hrow.lt k hk).2 (fun e => by
                have e1 : b4 = k := Option.some.inj hk
                have e2 : k = rb := Option.some.inj e
                omega))
              exact ⟨_, _, _, rfl, ⟨o.at 0 rfl, o.at 1 rfl⟩, fin w15 b4 a c l o hrow (by omega) (by omega) hwb hsl hle hl⟩
            · refine call_then (hbel w13 o.rbox hs13) ?_
              rintro _ w17 ⟨a, m, c, l, rfl, rfl, hsl, hfr, hle, hl, hb', hg⟩
              have o := o.call hg hb'
              refine ⟨_, _, _, rfl, ⟨o.at 0 rfl, o.at 1 rfl⟩, ?_⟩
              intro b5 w18 hb5 hw18
              have hwb : w.heap.size ≤ b5 := by have := o.le; omega
              have hrow := cons_row hb5 hw18 hwb rfl
              have hl1 := (o.at 0 rfl).lt
              have hl2 := (o.at 1 rfl).lt
              have o := o.ext (.alloc hw18)
              exact ⟨⟨o.at 0 rfl, o.at 1 rfl⟩, fin w18 b5 a c l o hrow (by omega) (by omega) hwb (hsl.ext (.alloc hw18)) hle hl⟩
        · have hc := of_decide_eq_false hc
          rw [if_neg hc] at h
          refine ⟨_, (o.at 1 rfl).cell rfl, call_then (is_spec toks rb ta tc p d 0 [40] w11 o.rbox hs11) ?_⟩
          rw [hTt]
          rintro _ w20 ⟨rfl, he20⟩
          have o := o.ext he20
          have hs20 := hs11.ext he20
          have hrbl := o.rlt
          refine ⟨_, rfl, cond_intro (fun h40 => ?_) fun h40 => ?_⟩
          · have h40 := of_decide_eq_true h40
            rw [if_pos h40] at h
            have hlt := hlt (by rw [h40.1]; decide)
            have hq := (o.at 1 rfl).cell (i := 0) (v := .pointer (some ⟨rb, 0, none⟩)) rfl
            have hqb : b ≠ rb := by have := o.ge 1 rfl; omega
            have hbel : ∃ x, Calls Try.prog 80 #[.pointer (some ⟨rb, 0, none⟩), .func (.func 81) #[] #[.pointer (some ⟨b, 0, none⟩)]] w20 (Ret (RG toks rb ta tc d (24 - d) w20 x)) ∧
                r = (if x.e ≠ 0 then x else if (T toks x.at_).kind = 4 ∧ (T toks x.at_).text = [41] then ⟨x.l, x.at_ + 1, 0⟩ else ⟨[], x.at_, 11⟩) ∧ (x.e = 0 → x.at_ ≤ toks.length) := by
              by_cases h24 : d = 24
              · rw [if_pos h24] at h
                cases h
                subst h24
                exact ⟨⟨[], p, 5⟩, belowF_deep toks _ rb ta tc p w20 o.rbox, rfl, fun h => (by cases h)⟩
              · rw [if_neg h24] at h
                obtain ⟨y, hy, hr⟩ := Option.map_eq_some_iff.1 h
                refine ⟨y, below_from toks ⟨b, 0, none⟩ rb ta tc p d (24 - d) (by omega) (by omega) y w20 o.rbox hs20 hoff hq hqb (fun w'' hb'' hs'' hq'' => ?_), hr.symm, fun he => ((hkl _ _ _ hy).1 he).2.1⟩
                have := hrl _ _ _ hy (by omega) w'' hb'' hs''
                rw [show 25 - (d + 1) = 24 - d by omega] at this
                refine term_reader_one_1_ok _ _ _ ⟨_, hq'', call_then this ?_⟩
                rintro _ w3 ⟨a, m, c, l, rfl, rest⟩
                exact ⟨_, _, _, rfl, a, m, c, l, rfl, rest⟩
            obtain ⟨x, hbel, hrx, hxN⟩ := hbel
            refine ⟨_, hq, call_then hbel ?_⟩
            have hle20 := o.le
            have hrb20 := o.rbox.lt
            rintro _ w21 ⟨a, m, c, l, rfl, rfl, hsl, hfr, hle, hl, hb', hg⟩
            have hs21 : SlAt w21 ta (flat tokC toks) := hs20.grown hg (fun k hk => by cases hk; exact hoff)
            have o := o.call hg hb'
            have hfr' : ∀ k, blk a = some k → w.heap.size ≤ k := fun k hk => Nat.le_trans hle20 (hfr k hk)
            have hoffa := fresh_off hfr hrb20 (flat ndC l)
            refine ⟨_, _, _, rfl, fun w' => ∃ e', OwnR rb w w' (rdC ta toks.length tc x.at_ d e') [(b1, tokC t), (b, [.pointer (some ⟨rb, 0, none⟩)])] ∧ SlAt w' a (flat ndC l) ∧ e' = (if x.e ≠ 0 then x.e else if (T toks x.at_).kind = 4 ∧ (T toks x.at_).text = [41] then 0 else 11), ?_, ?_⟩
            · refine ⟨fun z w' => (z = decide (x.e = 0 ∧ ¬ ((T toks x.at_).kind = 4 ∧ (T toks x.at_).text = [41]))) ∧ Ext w21 w', ?_, ?_⟩
              · refine ⟨_, (o.at 1 rfl).cell rfl, _, o.rbox.cell rfl, cond_intro (fun he => ?_) fun he => ?_⟩
                · have he : x.e = 0 := by simpa using he
                  rw [he] at o
                  refine ⟨_, (o.at 1 rfl).cell rfl, call_then (is_spec toks rb ta tc x.at_ d 0 [41] w21 o.rbox hs21) ?_⟩
                  rintro _ w22 ⟨rfl, he22⟩
                  refine ⟨_, rfl, ?_, he22⟩
                  rw [← decide_not]
                  exact decide_eq_decide.2 ⟨fun c => ⟨he, c⟩, fun c => c.2⟩
                · have he : x.e ≠ 0 := by simpa using he
                  exact ⟨(decide_eq_false (fun c => he c.1)).symm, Ext.refl _⟩
              · rintro _ z w23 ⟨rfl, he23⟩
                have o := o.ext he23
                have hsl := hsl.ext he23
                refine cond_intro (fun hz => ?_) fun hz => ?_
                · have hz := of_decide_eq_true hz
                  refine ⟨_, (o.at 1 rfl).cell rfl, o.wrR (i := 3) rfl, fun w24 hw24 => ?_⟩
                  have o := o.setR hw24
                  exact ⟨11, o, hsl.set hw24 hoffa, by rw [if_neg (by simpa using hz.1), if_neg hz.2]⟩
                · have hz := of_decide_eq_false hz
                  refine ⟨x.e, o, hsl, ?_⟩
                  split
                  · rfl
                  · rename_i hx
                    have hx : x.e = 0 := by simpa using hx
                    split
                    · exact hx
                    · rename_i hy; exact absurd ⟨hx, hy⟩ hz
            · rintro _ w25 ⟨e', o, hsl, he'⟩
              refine ⟨_, (o.at 1 rfl).cell rfl, _, o.rbox.cell rfl, cond_intro (fun he0 => ?_) fun he0 => ?_⟩
              · have he0 : e' = 0 := by simpa using he0
                have hx : x.e = 0 := by
                  cases Decidable.em (x.e = 0) with
                  | inl h => exact h
                  | inr h => rw [if_pos h] at he'; rw [he0] at he'; exact he'.symm
                have hx41 : (T toks x.at_).kind = 4 ∧ (T toks x.at_).text = [41] := by
                  cases Decidable.em ((T toks x.at_).kind = 4 ∧ (T toks x.at_).text = [41]) with
                  | inl h => exact h
                  | inr h => rw [if_neg (by simpa using hx), if_neg h, he0] at he'; cases he'
                rw [if_neg (by simpa using hx), if_pos hx41] at hrx
                have hxN := hxN hx
                refine ⟨_, (o.at 1 rfl).cell rfl, _, o.rbox.cell rfl, o.wrR (i := 1) rfl, fun w26 hw26 => ?_⟩
                have o := o.setR hw26
                rw [wrap_in (by omega) (by omega)] at o
                refine ⟨a, _, c, l, rfl, rfl, hsl.set hw26 hoffa, hfr', by omega, fun _ => by rw [hrx, hl hx], ?_, o.grown⟩
                rw [hrx, he0] at *
                exact o.rbox
              · have he0 : e' ≠ 0 := by simpa using he0
                refine ⟨a, _, c, l, rfl, rfl, hsl, hfr', by omega, fun he => ?_, ?_, o.grown⟩
                · exfalso
                  apply he0
                  rw [hrx] at he
                  rw [he']
                  split at he
                  · rename_i c; exact absurd he c
                  · rename_i c
                    rw [if_neg c]
                    split at he
                    · rename_i c; rw [if_pos c]
                    · cases he
                · have h1 : r.at_ = x.at_ := by
                    rw [hrx]
                    split
                    · rfl
                    · rename_i c
                      rw [if_neg c] at he'
                      split
                      · rename_i c; rw [if_pos c] at he'; exact absurd he' he0
                      · rfl
                  have h2 : r.e = e' := by
                    rw [hrx, he']
                    split
                    · rfl
                    · split <;> rfl
                  rw [h1, h2]
                  exact o.rbox
          · have h40 := of_decide_eq_false h40
            rw [if_neg h40] at h
            cases h
            refine ⟨_, (o.at 1 rfl).cell rfl, o.wrR (i := 3) rfl, fun w27 hw27 => ?_⟩
            have o := o.setR hw27
            exact ⟨none, 0, 0, [], rfl, rfl, rfl, fun k h => (by cases h), by simp, fun _ => rfl, o.rbox, o.grown⟩
end Go.Proofs.Ytahppcghgmhkiaa
