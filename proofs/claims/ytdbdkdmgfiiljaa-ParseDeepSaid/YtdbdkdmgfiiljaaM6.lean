/- A part of the proof: conditions of the code, contracts, the plain law. -/
import Derived.Test.YtdbdkdmgfiiljaaM5
namespace Go.Proofs.Ytdbdkdmgfiiljaa
open Go.Vc Go.Tk Go.Tm
theorem map_grown {w w' : World} {b rb : Nat} {kvs : List (List UInt8 × Value)} (h : MapAt w b kvs) (hg : w.grownBy w' (some rb)) (hne : b ≠ rb) : MapAt w' b kvs := by
  unfold MapAt at *
  rw [hg.block b (Array.getElem?_eq_some_iff.1 h).1 (fun e => hne (Option.some.inj e))]
  exact h
theorem map_grown' {w w' : World} {b : Nat} {row : Option Nat} {kvs : List (List UInt8 × Value)} (h : MapAt w b kvs) (hg : w.grownBy w' row) (hne : ∀ k, row = some k → b ≠ k) : MapAt w' b kvs := by
  unfold MapAt at *
  rw [hg.block b (Array.getElem?_eq_some_iff.1 h).1 (fun e => hne b e.symm rfl)]
  exact h
theorem zero_int (w : World) : (zeroValue 3).run Try.prog w = .ok (.int .i64 0) w := by kernel_rfl
set_option maxHeartbeats 1000000 in
theorem pFrom_step (toks : List Tok) (hN : toks.length < 2 ^ 30) (rb : Nat) (ta : Option Addr) (tc : Nat) (hoff : Off ta (flat tokC toks) rb) (f : Nat)
    (hone : ∀ f1 p d r, f1 ≤ f → P toks f1 (.one p d) = some r → d ≤ 24 → ∀ w, Box w rb (rdC ta toks.length tc p d 0) → SlAt w ta (flat tokC toks) → Calls Try.prog 94 #[.pointer (some ⟨rb, 0, none⟩)] w (Ret (RG toks rb ta tc d (25 - d) w r)))
    (hlev : ∀ f1 (n : Nat) p d r, f1 ≤ f → 1 ≤ n → n ≤ 6 → P toks f1 (.lev n p d) = some r → d ≤ 24 → ∀ w, Box w rb (rdC ta toks.length tc p d 0) → SlAt w ta (flat tokC toks) → Calls Try.prog 90 #[.pointer (some ⟨rb, 0, none⟩), .int .i64 n] w (Ret (RG toks rb ta tc d (25 - d) w r)))
    (n p d : Nat) (r : Res) (hn1 : 1 ≤ n) (hn6 : n ≤ 6) (h : P toks (f + 1) (.lev n p d) = some r) (hd : d ≤ 24) (w : World) (hr : Box w rb (rdC ta toks.length tc p d 0)) (hs : SlAt w ta (flat tokC toks)) :
    Calls Try.prog 90 #[.pointer (some ⟨rb, 0, none⟩), .int .i64 n] w (Ret (RG toks rb ta tc d (25 - d) w r)) := by
  refine term_reader_from_ok _ _ _ _ (call_then (binary_spec w) ?_)
  rintro _ w1 ⟨b0, rfl, hm, hb0, he1⟩
  have o := (OwnR.start hr).ext he1
  have hs1 := hs.ext he1
  have hrl := hr.lt
  have hb0r : b0 ≠ rb := by omega
  rw [P] at h
  obtain ⟨x0, hx0, hr0⟩ := Option.bind_eq_some_iff.1 h
  refine ⟨_, rfl, call_then (hone _ _ _ _ (Nat.le_refl _) hx0 hd w1 o.rbox hs1) ?_⟩
  have hle1 := o.le
  rintro _ w2 ⟨a0, m0, c0, l0, rfl, rfl, hsl, hfr, hle, hl, hb', hg⟩
  have o := o.call hg hb'
  have hm := map_grown hm hg hb0r
  have hok0 := (P_ok toks f).1 _ _ _ hx0
  refine ⟨_, _, _, rfl, fun lA lN lC most w3 => ∃ f' x m l, f' ≤ f ∧ 1 ≤ f ∧ P toks f' (.loop n m d x) = some r ∧ most = (m : Nat) ∧ m ≤ 6 ∧ lN = List.length l ∧ SlAt w3 lA (flat ndC l) ∧ (∀ k, blk lA = some k → w.heap.size ≤ k) ∧ (l.length ≤ 2 ^ 32 ∧ l.length ≤ lC) ∧
      (x.e = 0 → l = x.l ∧ x.at_ ≤ toks.length ∧ x.l.length ≤ x.at_) ∧ MapAt w3 b0 binKvs ∧ OwnR rb w w3 (rdC ta toks.length tc x.at_ d x.e) [],
    fun _ _ _ _ w3 => match w3.cell? ⟨rb, 1, none⟩, w3.cell? ⟨rb, 3, none⟩ with | some (.int _ i), some (.int _ e) => if e = 0 then toks.length + 1 - i.toNat else 0 | _, _ => 0, ?_, ?_⟩
  · refine ⟨f, x0, 6, l0, Nat.le_refl _, ?_, hr0, rfl, by omega, rfl, hsl, fun k hk => Nat.le_trans hle1 (hfr k hk), by omega, fun he => ⟨hl he, ?_⟩, hm, o⟩
    · cases f with
      | zero => simp [P] at hx0
      | succ f => omega
    · have := hok0.1 he; omega
  · clear hsl hfr hm o hok0 hr0 hx0 hb' hg hl hle
    rintro _ lA lN lC most w3 ⟨f', x, m, l, hf', hf1, hr, rfl, hm6, rfl, hsl, hfr, hll, hxo, hm, o⟩
    obtain ⟨g, rfl⟩ : ∃ g, f' = g + 1 := by
      cases f' with
      | zero => simp [P] at hr
      | succ g => exact ⟨g, rfl⟩
    rw [P] at hr
    have hs3 : SlAt w3 ta (flat tokC toks) := hs.grown o.grown (fun k hk => by cases hk; exact hoff)
    have hmes : ∀ w' (y : Res), Box w' rb (rdC ta toks.length tc y.at_ d y.e) → (match w'.cell? ⟨rb, 1, none⟩, w'.cell? ⟨rb, 3, none⟩ with | some (.int _ i), some (.int _ e) => if e = 0 then toks.length + 1 - i.toNat else 0 | _, _ => 0) = if y.e = 0 then toks.length + 1 - y.at_ else 0 := by
      intro w' y hb
      have e1 : w'.cell? ⟨rb, 1, none⟩ = some (.int .i64 (y.at_ : Int)) := hb.cell rfl
      have e2 : w'.cell? ⟨rb, 3, none⟩ = some (.int .i64 y.e) := hb.cell rfl
      simp only [e1, e2, Int.toNat_natCast]
    have hm3 := hmes w3 x o.rbox
    refine ⟨_, o.rbox.cell rfl, cond_intro (fun he => ?_) fun he => ?_⟩
    · have he : x.e = 0 := by simpa using he
      obtain ⟨rfl, hxN, hxl⟩ := hxo he
      rw [if_neg (by simpa using he)] at hr
      rw [if_pos he] at hm3
      have hok := o.rbox
      rw [he] at o
      refine call_then (now_spec toks rb ta tc x.at_ d 0 w3 o.rbox hs3) ?_
      rintro _ w4 ⟨rfl, he4⟩
      have o := o.ext he4
      have hsl := hsl.ext he4
      have hm := hm.ext he4
      have hs4 := hs3.ext he4
      have hmine : mine toks x.at_ = if (T toks x.at_).kind = 4 then levO (opOf (T toks x.at_).text) else 0 := rfl
      have hjoin : ∀ y, join toks x y = ⟨⟨opOf (T toks x.at_).text, [], 0, 2, (T toks x.at_).at_⟩ :: x.l ++ y.l, y.at_, 0⟩ := fun _ => rfl
      have hmlt := mine_lt (toks := toks) (p := x.at_)
      have hm5 := mine_le toks x.at_
      generalize T toks x.at_ = t at hmine hjoin ⊢
      refine ⟨_, _, _, _, rfl, ?_⟩
      intro b w5 hb hw5
      have hoffb := hsl.off (b := b) (by omega)
      have hofft := hs4.off (b := b) (by omega)
      have hb0b : b0 ≠ b := by have := (Array.getElem?_eq_some_iff.1 hm).1; omega
      have hsl := hsl.ext (.alloc hw5)
      have hs5 := hs4.ext (.alloc hw5)
      have hm := hm.ext (.alloc hw5)
      have o := o.alloc hb hw5
      refine ⟨o.wr 0 rfl rfl, fun w6 hw6 => ?_⟩
      have o : OwnR rb w w6 (rdC ta toks.length tc x.at_ d 0) [(b, tokC t)] := o.sets 0 hw6 rfl
      have hsl := hsl.sets hw6 hoffb
      have hs6 := hs5.sets hw6 hofft
      have hm : MapAt w6 b0 binKvs := by
        unfold MapAt at *
        rw [hw6]
        unfold setCells
        rw [heap_sets (fun e => hb0b e.symm)]
        exact hm
      refine ⟨_, (o.at 0 rfl).cell rfl, hm.get map_ty str_ty (zero_int w6) t.text ?_⟩
      rw [get_bin]
      refine ⟨_, rfl, call_then (Level_spec (opOf t.text) w6) ?_⟩
      rintro _ _ ⟨rfl, rfl⟩
      refine ⟨_, rfl, fun z w' => w6 = w' ∧ z = decide (mine toks x.at_ = 0 ∨ mine toks x.at_ < n ∨ m < mine toks x.at_), ?_, ?_⟩
      · refine ⟨_, (o.at 0 rfl).cell rfl, cond_intro (fun h4 => ?_) fun h4 => ?_⟩
        · have h4 : t.kind ≠ 4 := by simpa using h4
          exact ⟨rfl, by rw [hmine, if_neg h4]; simp⟩
        · have h4 : t.kind = 4 := by simpa using h4
          rw [if_pos h4] at hmine
          rw [hmine]
          refine cond_intro (fun h0 => ?_) fun h0 => ?_
          · have h0 : levO (opOf t.text) = 0 := by simpa using h0
            exact ⟨rfl, (decide_eq_true (.inl h0)).symm⟩
          · have h0 : levO (opOf t.text) ≠ 0 := by simpa using h0
            refine cond_intro (fun h5 => ?_) fun h5 => ?_
            · have h5 : levO (opOf t.text) < n := by simpa using h5
              exact ⟨rfl, (decide_eq_true (.inr (.inl h5))).symm⟩
            · have h5 : ¬ levO (opOf t.text) < n := by simpa using h5
              refine ⟨rfl, decide_eq_decide.2 ⟨fun c => .inr (.inr (by omega)), fun c => by omega⟩⟩
      · rintro _ z _ ⟨rfl, rfl⟩
        refine cond_intro (fun hc => ?_) fun hc => ?_
        · have hc := of_decide_eq_true hc
          rw [if_pos hc] at hr
          cases hr
          refine ⟨_, _, _, _, rfl, rfl, hsl, hfr, by omega, fun _ => rfl, ?_, o.grown⟩
          rw [he]; exact o.rbox
        · have hc := of_decide_eq_false hc
          rw [if_neg hc] at hr
          have hlt := hmlt (by omega)
          have h4 : t.kind = 4 := by
            cases Decidable.em (t.kind = 4) with
            | inl h => exact h
            | inr h => rw [if_neg h] at hmine; omega
          rw [if_pos h4] at hmine
          rw [← hmine]
          obtain ⟨y, hy, hr⟩ := Option.bind_eq_some_iff.1 hr
          have hyk := (P_ok toks g).2.1 _ _ _ _ hy
          have hx1 : IntKind.i64.wrap ((x.at_ : Int) + 1) = ((x.at_ + 1 : Nat) : Int) := by rw [wrap_in (by omega) (by omega)]; omega
          have hmi1 : IntKind.i64.wrap ((mine toks x.at_ : Int) + 1) = ((mine toks x.at_ + 1 : Nat) : Int) := by rw [wrap_in (by omega) (by omega)]; omega
          refine ⟨_, o.rbox.cell rfl, o.wrR (i := 1) rfl, fun w10 hw10 => ?_⟩
          have hoffr : Off lA (flat ndC x.l) rb := fresh_off hfr hrl _
          have hsl := hsl.set hw10 hoffr
          have hs10 := hs6.set hw10 hoff
          have hm := map_grown hm (grownBy_set hw10) hb0r
          have o := o.setR hw10
          rw [hx1] at o
          rw [hmi1]
          have hoffr1 : ∀ (l1 : List Nd) (a1 : Option Addr), (∀ k, blk a1 = some k → w10.heap.size ≤ k) → Off a1 (flat ndC l1) rb := fun l1 a1 h => fresh_off h (by have := o.rbox.lt; omega) _
          refine call_then (hlev g _ _ _ _ (by omega) (by omega) (by omega) hy hd w10 o.rbox hs10) ?_
          have hle10 := o.le
          rintro _ w11 ⟨a1, m1, c1, l1, rfl, rfl, hsl1, hfr1, hlel1, hl1, hb1', hg1⟩
          have hsl : SlAt w11 lA (flat ndC x.l) := hsl.grown hg1 (fun k hk => by cases hk; exact hoffr)
          have hm := map_grown hm hg1 hb0r
          have o := o.call hg1 hb1'
          refine ⟨_, _, _, rfl, _, (o.at 0 rfl).cell rfl, ?_⟩
          intro b1 w12 hb1 hw12
          have hwb : w.heap.size ≤ b1 := by have := o.le; omega
          have hrow := cons_row hb1 hw12 hwb rfl
          have hbl := (o.at 0 rfl).lt
          have hm0 := (Array.getElem?_eq_some_iff.1 hm).1
          have hrl1 := o.rbox.lt
          have hoff1 : Off a1 (flat ndC l1) b1 := hsl1.off (by omega)
          have hsl1a : ∀ k, blk a1 = some k → flat ndC l1 ≠ [] → k < w11.heap.size := fun k hk hne => hsl1.lt hk hne
          have hsl := hsl.ext (.alloc hw12)
          have hsl1 := hsl1.ext (.alloc hw12)
          have hm := hm.ext (.alloc hw12)
          have o := o.ext (.alloc hw12)
          have hsz12 := alloc_size hw12
          refine append_sl sl_nd hrow hsl (flat_len ndC_len _) (ndC_one _) (by omega) (by decide) o.le fun a' c' w13 hrow' hg' hat => ?_
          have hsl1 := hsl1.grown hg' (fun k hk => by cases hk; exact hoff1)
          have hm := map_grown' hm hg' (fun k hk => by cases hk; show b0 ≠ b1; omega)
          have o := o.gro hg' (fun k hk => by
            cases hk
            refine ⟨hwb, fun q hq => ?_⟩
            simp only [List.mem_cons, List.not_mem_nil, or_false] at hq
            subst hq
            show b ≠ b1
            omega)
          have hsz13 := hg'.size
          have hat' : ∀ k, blk a' = some k → k = b1 ∨ k = w12.heap.size := fun k hk => by
            rcases hat with e | e
            · rw [e] at hk; cases hk; exact .inl rfl
            · rw [e] at hk; cases hk; exact .inr rfl
          have hoff2 : ∀ k, blk a' = some k → Off a1 (flat ndC l1) k := fun k hk => by
            rcases hat' k hk with rfl | rfl
            · exact hoff1
            · rcases hoff1 with h | h
              · exact .inl h
              · by_cases hne : flat ndC l1 = []
                · exact .inl hne
                · refine .inr fun e => ?_
                  have := hsl1a _ e hne
                  omega
          refine ⟨_, _, _, rfl, append_sl sl_nd hrow' hsl1 (flat_len ndC_len _) (ndC_one _) (by omega) (by decide) o.le fun a'' c'' w14 hrow'' hg'' hat'' => ?_⟩
          have hm := map_grown' hm hg'' (fun k hk => by rcases hat' k hk with rfl | rfl <;> omega)
          have o := o.gro hg'' (fun k hk => by
            refine ⟨by rcases hat' k hk with rfl | rfl <;> omega, fun q hq => ?_⟩
            simp only [List.mem_cons, List.not_mem_nil, or_false] at hq
            subst hq
            show b ≠ k
            rcases hat' k hk with rfl | rfl <;> omega)
          refine ⟨_, _, _, rfl, ?_⟩
          have hfr'' : ∀ k, blk a'' = some k → w.heap.size ≤ k := fun k hk => by
            rcases hat'' with e | e
            · rw [e] at hk; rcases hat' k hk with rfl | rfl <;> omega
            · rw [e] at hk; cases hk; omega
          have hcap'' := rw_cap hrow''
          have fin : ∀ mo : Nat, mo = (if mine toks x.at_ = 3 then 2 else mine toks x.at_) → (∃ f' z m l, f' ≤ f ∧ 1 ≤ f ∧ P toks f' (.loop n m d z) = some r ∧ (mo : Int) = (m : Nat) ∧ m ≤ 6 ∧ 1 + x.l.length + l1.length = List.length l ∧ SlAt w14 a'' (flat ndC l) ∧ (∀ k, blk a'' = some k → w.heap.size ≤ k) ∧ (l.length ≤ 2 ^ 32 ∧ l.length ≤ c'') ∧
              (z.e = 0 → l = z.l ∧ z.at_ ≤ toks.length ∧ z.l.length ≤ z.at_) ∧ MapAt w14 b0 binKvs ∧ OwnR rb w w14 (rdC ta toks.length tc z.at_ d z.e) []) ∧ (match w14.cell? ⟨rb, 1, none⟩, w14.cell? ⟨rb, 3, none⟩ with | some (.int _ i), some (.int _ e) => if e = 0 then toks.length + 1 - i.toNat else 0 | _, _ => 0) < toks.length + 1 - x.at_ := by
            intro mo hmo
            have o' : OwnR rb w w14 (rdC ta toks.length tc y.at_ d y.e) [] := ⟨o.grown, o.rlt, o.rbox, fun _ h => (by cases h), List.Pairwise.nil⟩
            rw [hmes w14 y o'.rbox]
            by_cases hye : y.e = 0
            · rw [if_neg (by simpa using hye)] at hr
              have hyk := hyk.1 hye
              rw [if_pos hye]
              refine ⟨⟨g, join toks x y, mo, ⟨opOf t.text, [], 0, 2, t.at_⟩ :: x.l ++ l1, by omega, hf1, by rw [hmo]; exact hr, rfl, by rw [hmo]; split <;> omega, by simp; omega, ?_, hfr'', by simp; omega, fun _ => ?_, hm, ?_⟩, by omega⟩
              · have := hrow''.sl
                rwa [show flat ndC (⟨opOf t.text, [], 0, 2, t.at_⟩ :: x.l ++ l1) = ndC ⟨opOf t.text, [], 0, 2, t.at_⟩ ++ flat ndC x.l ++ flat ndC l1 by simp [flat]]
              · rw [hjoin, hl1 hye]
                refine ⟨rfl, hyk.2.1, ?_⟩
                simp only [List.cons_append, List.length_cons, List.length_append]
                omega
              · rw [hjoin]; simp only; rw [hye] at o'; exact o'
            · rw [if_pos hye] at hr
              have hr := Option.some.inj hr
              subst hr
              rw [if_neg hye]
              refine ⟨⟨1, y, mo, ⟨opOf t.text, [], 0, 2, t.at_⟩ :: x.l ++ l1, hf1, hf1, by rw [P, if_pos hye], rfl, by rw [hmo]; split <;> omega, by simp; omega, ?_, hfr'', by simp; omega, fun h => absurd h hye, hm, o'⟩, by omega⟩
              have := hrow''.sl
              rwa [show flat ndC (⟨opOf t.text, [], 0, 2, t.at_⟩ :: x.l ++ l1) = ndC ⟨opOf t.text, [], 0, 2, t.at_⟩ ++ flat ndC x.l ++ flat ndC l1 by simp [flat]]
          rw [← hm3] at fin
          refine cond_intro (fun h3 => ?_) fun h3 => ?_
          · have h3 : mine toks x.at_ = 3 := by have : (mine toks x.at_ : Int) = 3 := (by simpa using h3); omega
            exact fin 2 (by rw [if_pos h3])
          · have h3 : mine toks x.at_ ≠ 3 := by have : ¬ (mine toks x.at_ : Int) = 3 := (by simpa using h3); omega
            exact fin (mine toks x.at_) (by rw [if_neg h3])
    · have he : x.e ≠ 0 := by simpa using he
      rw [if_pos he] at hr
      cases hr
      exact ⟨none, 0, 0, [], rfl, rfl, rfl, fun k h => (by cases h), by simp, fun h => absurd h he, o.rbox, o.grown⟩
end Go.Proofs.Ytdbdkdmgfiiljaa
namespace Go.Proofs.Ytdbdkdmgfiiljaa
open Go.Vc Go.Tk Go.Tm
theorem pWalk (toks : List Tok) (hN : toks.length < 2 ^ 30) (rb : Nat) (ta : Option Addr) (tc : Nat) (hoff : Off ta (flat tokC toks) rb) : ∀ f, ∀ f1, f1 ≤ f →
    (∀ p d r, P toks f1 (.one p d) = some r → d ≤ 24 → ∀ w, Box w rb (rdC ta toks.length tc p d 0) → SlAt w ta (flat tokC toks) → Calls Try.prog 94 #[.pointer (some ⟨rb, 0, none⟩)] w (Ret (RG toks rb ta tc d (25 - d) w r))) ∧
    (∀ (n : Nat) p d r, 1 ≤ n → n ≤ 6 → P toks f1 (.lev n p d) = some r → d ≤ 24 → ∀ w, Box w rb (rdC ta toks.length tc p d 0) → SlAt w ta (flat tokC toks) → Calls Try.prog 90 #[.pointer (some ⟨rb, 0, none⟩), .int .i64 n] w (Ret (RG toks rb ta tc d (25 - d) w r))) := by
  intro f
  induction f with
  | zero =>
    intro f1 hf
    obtain rfl : f1 = 0 := by omega
    exact ⟨fun _ _ _ h => by simp [P] at h, fun _ _ _ _ _ _ h => by simp [P] at h⟩
  | succ f ih =>
    intro f1 hf
    by_cases hle : f1 ≤ f
    · exact ih f1 hle
    · obtain rfl : f1 = f + 1 := by omega
      refine ⟨fun p d r h hd w hr hs => ?_, fun n p d r h1 h6 h hd w hr hs => pFrom_step toks hN rb ta tc hoff f (fun f1 p d r hf => (ih f1 hf).1 p d r) (fun f1 n p d r hf => (ih f1 hf).2 n p d r) n p d r h1 h6 h hd w hr hs⟩
      simp only [P] at h
      have ih := ih f (Nat.le_refl _)
      exact pOne_step toks hN rb ta tc hoff _ _ ih.1 (fun p d r h hd w hr hs => ih.2 1 p d r (by omega) (by omega) h hd w hr hs) (fun p d r h => (P_ok toks f).2.1 1 p d r h) p d r h hd w hr hs
def parseOf (toks : List Tok) (at_ : Int) : Res := if at_ < 0 then ⟨[], 0, 1⟩ else (P toks (3 * (toks.length - at_.toNat) + 2) (.lev 1 at_.toNat 0)).getD ⟨[], 0, 0⟩
theorem parseOf_pos (toks : List Tok) (at_ : Int) (h : ¬ at_ < 0) : P toks (3 * (toks.length - at_.toNat) + 2) (.lev 1 at_.toNat 0) = some (parseOf toks at_) := by
  obtain ⟨r, hr⟩ := (P_total toks _).2.1 1 at_.toNat 0 (Nat.le_refl _)
  unfold parseOf
  rw [if_neg h, hr]
  rfl
theorem parseOf_nil (toks : List Tok) (at_ : Int) (h : (parseOf toks at_).e ≠ 0) : (parseOf toks at_).l = [] := by
  by_cases h0 : at_ < 0
  · unfold parseOf; rw [if_pos h0]
  · exact ((P_ok toks _).2.1 _ _ _ _ (parseOf_pos toks at_ h0)).2 h
theorem Parse_F (toks : List Tok) (hN : toks.length < 2 ^ 30) (ta : Option Addr) (tc : Nat) (at_ : Int) (w : World) (hs : SlAt w ta (flat tokC toks)) :
    Calls Try.prog 84 #[.slice ta toks.length tc, .int .i64 at_] w (Ret fun v w' => ∃ a c, v = .tuple #[.slice a (parseOf toks at_).l.length c, .int .i64 (parseOf toks at_).at_, .int .i64 (parseOf toks at_).e] ∧ ((∀ k, blk a = some k → w.heap.size ≤ k) ∧ (parseOf toks at_).l.length ≤ c) ∧ SlAt w' a (flat ndC (parseOf toks at_).l) ∧ Ext w w') := by
  refine term_Parse_ok _ _ _ _ _ _ (cond_intro (fun h0 => ?_) fun h0 => ?_)
  · have h0 : at_ < 0 := by simpa using h0
    unfold parseOf
    rw [if_pos h0]
    exact ⟨none, 0, rfl, ⟨none_fresh, Nat.le_refl _⟩, rfl, Ext.refl _⟩
  · have h0 : ¬ at_ < 0 := by simpa using h0
    have hP := parseOf_pos toks at_ h0
    have hnil := parseOf_nil toks at_
    generalize parseOf toks at_ = r at hP hnil ⊢
    obtain ⟨p, rfl⟩ : ∃ p : Nat, at_ = p := ⟨at_.toNat, by omega⟩
    intro b w1 hb hw1
    have o := (Own.start w).alloc hb hw1
    have hoff := hs.off (b := b) (by omega)
    have e1 := Ext.alloc hw1
    refine call_then ((pWalk toks hN b ta tc hoff _ _ (Nat.le_refl _)).2 1 p 0 r (by omega) (by omega) hP (by omega) w1 (o.at 0 rfl) (hs.ext e1)) ?_
    rintro _ w2 ⟨a, m, c, l, rfl, rfl, hsl, hfr, hle, hl, hb', hg⟩
    have ext : Ext w w2 := by
      have hsz := e1.size
      exact ⟨hg.os.trans e1.os, hg.tape.trans e1.tape, hg.output.trans e1.output, Nat.le_trans e1.size hg.size, fun k hk => (hg.block k (by omega) (fun h => by cases h; omega)).trans (Go.RowKit.Below.block e1 k hk)⟩
    refine ⟨_, _, _, rfl, _, hb'.cell rfl, cond_intro (fun he => ?_) fun he => ?_⟩
    · have he : r.e ≠ 0 := by simpa using he
      intro w3 hw3
      have hb' := hb'.ext (.drew hw3)
      refine ⟨_, hb'.cell rfl, _, hb'.cell rfl, none, 0, ?_, ⟨none_fresh, by rw [hnil he]; exact Nat.le_refl _⟩, by rw [hnil he]; rfl, ext.trans (.drew hw3)⟩
      rw [hnil he]; rfl
    · have he : r.e = 0 := by simpa using he
      intro w3 hw3
      have hb' := hb'.ext (.drew hw3)
      refine ⟨_, hb'.cell rfl, a, c, ?_, ⟨fun k hk => Nat.le_trans e1.size (hfr k hk), by rw [← hl he]; exact hle.2⟩, ?_, ext.trans (.drew hw3)⟩
      · rw [he, ← hl he]
      · rw [← hl he]; exact hsl.ext (.drew hw3)
end Go.Proofs.Ytdbdkdmgfiiljaa
